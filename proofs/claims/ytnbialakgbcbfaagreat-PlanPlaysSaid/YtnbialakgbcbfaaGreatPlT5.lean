/- Resolved code, printed by program. No condition. -/
import Derived.Test.YtnbialakgbcbfaaGreatProg
import Derived.KernelRfl
import Derived.Test.YtnbialakgbcbfaaGreatPlT4
set_option linter.unusedVariables false
set_option linter.unusedSimpArgs false
namespace Go.Q15
open Go Go.QAbs Go.Proofs
set_option maxRecDepth 100000
noncomputable abbrev c0(b:Bool)(h:List Hint)(f:Func):=Zf Proofs.Tryz.prog b h f
def kp0:PC->List (List Nat)
 | .seq a b=>kp0 a++kp0 b
 | .reg k _=>[k]
 | .regH _ k _=>[k]
 | .ite _ a b=>kp0 a++kp0 b
 | .loop b=>kp0 b
 | .block _ b=>kp0 b
 | _=>[]
def hz0(ov:List (Nat × Hint)):Nat->List (List Nat)->List Hint
 | _,[]=>[]
 | n,k::l=>((ov.find? fun p=>p.1==n).map (·.2)).getD ⟨k,[],[],[],[],[]⟩::hz0 ov (n+1) l
def h0(ov:List (Nat × Hint))(p:PF):List Hint:=hz0 ov 0 (kp0 p.body)
noncomputable abbrev ck0 (b:Bool) (o:List (Nat × Hint)) (p:PF) (f:Func):=c0 b (h0 o p) f
abbrev YV:FuncId:=3
abbrev ZAG:FuncId:=9
abbrev ZAH:FuncId:=10
abbrev YL:FuncId:=11
abbrev XE:FuncId:=12
abbrev YW:FuncId:=13
abbrev ZOQ:FuncId:=14
abbrev Qc:FuncId:=15
abbrev ZAI:FuncId:=16
abbrev YB:FuncId:=17
abbrev JQ:FuncId:=18
abbrev ZF4:FuncId:=19
abbrev Yk:FuncId:=20
abbrev ZAf:FuncId:=21
abbrev J2:FuncId:=22
abbrev YM:FuncId:=23
abbrev JJ:FuncId:=24
abbrev ZF5:FuncId:=46
abbrev QH:FuncId:=69
abbrev ZAg:FuncId:=78
abbrev XF:FuncId:=79
abbrev Ji:FuncId:=80
abbrev Z2:FuncId:=81
abbrev Jj:FuncId:=82
abbrev QE:FuncId:=83
abbrev Q2:FuncId:=84
abbrev XQ:FuncId:=85
abbrev ZAJ:FuncId:=86
abbrev Zl:FuncId:=87
abbrev ZGQ:FuncId:=88
abbrev XR:FuncId:=89
abbrev ZCO:FuncId:=90
abbrev JE:FuncId:=91
abbrev YN:FuncId:=92
abbrev ZTl:FuncId:=93
abbrev Qq:FuncId:=94
abbrev ZDJ:FuncId:=95
abbrev Yl:FuncId:=96
abbrev Ym:FuncId:=97
abbrev Js:FuncId:=98
abbrev Y2:FuncId:=99
abbrev ZAT:FuncId:=100
abbrev J7:FuncId:=101
abbrev QQ:FuncId:=102
abbrev Yn:FuncId:=103
abbrev QA:FuncId:=104
abbrev Zy:FuncId:=105
abbrev Y3:FuncId:=106
abbrev J0:FuncId:=107
abbrev JF:FuncId:=108
abbrev JR:FuncId:=109
abbrev YX:FuncId:=110
abbrev YY:FuncId:=111
abbrev Yo:FuncId:=112
abbrev Jk:FuncId:=113
abbrev Y7:FuncId:=114
abbrev JG:FuncId:=115
abbrev YO:FuncId:=116
abbrev XS:FuncId:=117
abbrev J6:FuncId:=118
abbrev ZDK:FuncId:=147
abbrev ZdH:FuncId:=152
abbrev ZBI:FuncId:=157
abbrev ZDL:FuncId:=166
abbrev ZIk:FuncId:=167
abbrev QJ:FuncId:=168
abbrev ZAh:FuncId:=169
abbrev XT:FuncId:=170
abbrev JM:FuncId:=171
abbrev YP:FuncId:=172
abbrev Qd:FuncId:=173
abbrev Z3:FuncId:=174
abbrev Y8:FuncId:=175
abbrev ZAi:FuncId:=176
abbrev ZAj:FuncId:=177
abbrev XU:FuncId:=178
abbrev Zu:FuncId:=179
abbrev Jl:FuncId:=180
abbrev JS:FuncId:=181
abbrev YZ:FuncId:=182
abbrev QT:FuncId:=183
abbrev ZF6:FuncId:=184
abbrev ZBb:FuncId:=185
abbrev YI:FuncId:=186
abbrev Yp:FuncId:=187
abbrev Yq:FuncId:=188
abbrev Qh:FuncId:=189
abbrev Xf:FuncId:=190
abbrev ZTm:FuncId:=191
abbrev Qi:FuncId:=192
abbrev QU:FuncId:=193
abbrev ZAK:FuncId:=194
abbrev ZCP:FuncId:=195
abbrev Jb:FuncId:=196
abbrev YC:FuncId:=197
abbrev Xg:FuncId:=198
abbrev Qj:FuncId:=199
abbrev Y9:FuncId:=200
abbrev Xh:FuncId:=213
abbrev ZBt:FuncId:=214
abbrev Xr:FuncId:=215
abbrev ZAL:FuncId:=216
abbrev X6:FuncId:=221
abbrev Ya:FuncId:=234
abbrev ZBT:FuncId:=237
abbrev Xx:FuncId:=238
abbrev ZBJ:FuncId:=239
abbrev ZGR:FuncId:=240
abbrev JW:FuncId:=241
abbrev Jc:FuncId:=242
abbrev JT:FuncId:=243
abbrev J3:FuncId:=244
abbrev ZAM:FuncId:=245
abbrev JX:FuncId:=246
abbrev ZGS:FuncId:=247
abbrev ZF7:FuncId:=248
abbrev ZAN:FuncId:=249
abbrev Jm:FuncId:=250
abbrev ZOR:FuncId:=251
abbrev XV:FuncId:=252
abbrev J8:FuncId:=270
abbrev ZGT:FuncId:=271
abbrev ZDM:FuncId:=272
abbrev ZIl:FuncId:=273
abbrev ZGU:FuncId:=274
abbrev ZAk:FuncId:=275
abbrev ZIm:FuncId:=276
abbrev J1:FuncId:=277
abbrev ZAl:FuncId:=278
abbrev ZDN:FuncId:=288
abbrev X7:FuncId:=289
abbrev Yr:FuncId:=290
abbrev Xs:FuncId:=291
abbrev I(d:Nat)(o:PO):PI:=⟨some d,none,false,o⟩
abbrev G(d g:Nat)(b:Bool)(o:PO):PI:=⟨some d,some (g,b),false,o⟩
abbrev J(o:PO):PI:=⟨none,none,false,o⟩
abbrev C(f:FuncId)(a:List Opd):PO:=.call .norm (.v (.func (.func f) [] [])) a
abbrev H(k:List Nat):Hint:=⟨k,[],[],[],[],[]⟩
abbrev V(i:Int):Opd:=.v (.int .i64 i)
abbrev M(d s:Nat):PI:=I d (.mv (.s s))
abbrev X(d s i:Nat):PI:=I d (.ext (.s s) i)
abbrev L(d s:Nat):PI:=I d (.ld false 1 (.s s))
abbrev T(d n s:Nat):PI:=I d (.ld true n (.s s))
abbrev F(d n s:Nat):PI:=I d (.fadr n (.s s))
abbrev U(d g:Nat)(b:Bool)(s:Nat):PI:=G d g b (.mv (.s s))
abbrev W(d:Nat)(o:BinOp)(s:Nat)(i:Int):PI:=I d (.bin o (.s s) (V i))
abbrev B(d:Nat)(o:BinOp)(s t:Nat):PI:=I d (.bin o (.s s) (.s t))
abbrev K(d:Nat)(i:Int):PI:=I d (.mv (V i))
abbrev N(n a x:Nat):PI:=J (.st n (.s a) (.s x))
abbrev E(c:Nat)(a b:PC):PC:=.ite (.s c) a b
abbrev D(a b:PC):PC:=.seq a b
abbrev R(k:List Nat)(l:List PI):PC:=.reg k l
abbrev ZT:AV:=.agg [(.int .u64 0),(.int .i64 0),(.int .i64 0),(.int .i64 0),(.int .i64 0),(.str []),.nils]
abbrev ZR:AV:=.agg [(.int .u64 0),(.int .i64 0),(.int .i64 0),(.int .i64 0),(.int .i64 0)]
abbrev ZM:AV:=.agg [(.int .i64 0),(.int .i64 0),(.int .i64 0)]
abbrev ZN:AV:=.agg [(.int .i64 0),(.str []),.nils]
abbrev ZK:AV:=.agg [(.int .u64 0),(.int .i64 0),(.int .i64 0),(.int .i64 0)]
def ZFH:=R [0,1] [I 4 (.mv (.v (.bool false)))]
def ZFI:=R [0,1,22] [M 17 0,I 18 (C ZAG [(.s 17)]),M 19 18,U 20 19 false 1,G 21 19 false (C ZAH [(.s 20)]),I 22 (.pick (.s 19) (.v (.bool true)) (.s 21))]
def ZFJ:=R [4] [I 23 (C YL []),M 4 23]
def ZFK:=R [1,5,6] [M 25 0,I 26 (C XE [(.s 25)]),M 24 26,X 27 24 0,X 28 24 1,I 5 (.box (.v (.agg [.nilptr,.nilptr,.nils]))),N 3 5 27,M 6 28]
def ZFL:=R [1,5,30] [M 29 6,I 30 (.un .not (.s 29))]
def ZFM:=R [4] [I 4 (.mv (.v (.bool false)))]
def ZFN:=R [5,6,7] [T 32 3 5,M 33 1,I 34 (C YW [(.s 32),(.s 33)]),M 31 34,X 35 31 0,X 36 31 1,M 7 35,M 6 36]
def ZFO:=R [5,7,38] [M 37 6,I 38 (.un .not (.s 37))]
def ZFP:=R [4] [I 4 (.mv (.v (.bool false)))]
def ZFQ:=R [5,7,8] [K 8 0]
def ZDO:=R [5,7,8,42] [M 39 8,M 40 7,I 41 (.len 1 (.s 40)),B 42 .lss 39 41]
def ZDP:=R [5,7,8,9] [M 45 7,M 46 8,I 47 (.ixS 7 (.s 45) (.s 46)),T 48 7 47,I 9 (.box (.v ZT)),N 7 9 48]
def ZDQ:=R [5,7,8,9,10,11] [F 50 0 5,L 51 50,T 52 7 9,I 53 (C ZOQ [(.s 51),(.s 52)]),M 49 53,X 54 49 0,X 55 49 1,M 10 54,M 11 55]
def ZDR:=R [5,7,8,9,80] [M 56 11,W 57 .neq 56 0,M 58 57,U 59 58 false 10,G 60 58 false (.fadr 1 (.s 5)),G 61 58 false (.ld false 1 (.s 60)),G 62 58 false (.ld true 7 (.s 9)),G 63 58 false (C Qc [(.s 61),(.s 62)]),G 64 58 false (.bin .neq (.s 59) (.s 63)),I 65 (.pick (.s 58) (.v (.bool true)) (.s 64)),M 66 65,G 67 66 false (.ld true 7 (.s 9)),G 68 66 false (.call .pure (.v (.func (.func ZAI) [] [])) [(.s 67)]),G 69 66 false (.ld true 7 (.s 9)),G 70 66 false (C YB [(.s 69)]),G 71 66 false (.bin .neq (.s 68) (.s 70)),I 72 (.pick (.s 66) (.v (.bool true)) (.s 71)),M 73 72,G 74 73 false (.ld true 7 (.s 9)),G 75 73 false (.call .pure (.v (.func (.func ZF4) [] [])) [(.s 74)]),G 76 73 false (.ld true 7 (.s 9)),G 77 73 false (C Yk [(.s 76)]),G 78 73 false (C JQ [(.s 75),(.s 77)]),G 79 73 false (.un .not (.s 78)),I 80 (.pick (.s 73) (.v (.bool true)) (.s 79))]
def ZDS:=R [4] [I 4 (.mv (.v (.bool false)))]
def ZDT:=R [5,7,8,9,12] [K 12 0]
def ZDU:=R [5,7,8,9,12,85] [M 81 12,F 82 2 5,L 83 82,I 84 (.len 1 (.s 83)),B 85 .lss 81 84]
def ZDV:=R [5,7,8,9,12,13,14] [F 89 0 5,L 90 89,F 91 2 5,L 92 91,M 93 12,I 94 (.ixS 5 (.s 92) (.s 93)),T 95 5 94,T 96 7 9,I 97 (C ZAf [(.s 90),(.s 95),(.s 96)]),M 88 97,X 98 88 0,X 99 88 1,M 13 98,M 14 99]
def ZDW:=R [5,7,8,9,12,13,14,15] [F 101 1 5,L 102 101,F 103 2 5,L 104 103,M 105 12,I 106 (.ixS 5 (.s 104) (.s 105)),T 107 5 106,T 108 7 9,I 109 (C J2 [(.s 102),(.s 107),(.s 108)]),M 100 109,X 110 100 0,X 111 100 1,M 15 110,M 16 111]
def ZDX:=R [5,7,8,9,12,119] [M 112 14,W 113 .neq 112 0,M 114 113,U 115 114 false 13,U 116 114 false 15,G 117 114 false (C JQ [(.s 115),(.s 116)]),G 118 114 false (.un .not (.s 117)),I 119 (.pick (.s 114) (.v (.bool true)) (.s 118))]
def ZDY:=R [4] [I 4 (.mv (.v (.bool false)))]
def ZDZ:=R [5,7,8,9,12] [M 86 12,W 87 .add 86 1,M 12 87]
def p_quartolaw15_PlanPlays_22:PC:=(D (D ZDU
 (E 85
 .skip
 (.exit 2)))
 (D (.block 3
 (D ZDV
 (D ZDW
 (D ZDX
 (E 119
 (D ZDY
 .ret)
 .skip)))))
 ZDZ))
def ZDa:=R [5,7,8] [M 43 8,W 44 .add 43 1,M 8 44]
def p_quartolaw15_PlanPlays_24:PC:=(D (D ZDO
 (E 42
 .skip
 (.exit 0)))
 (D (.block 1
 (D ZDP
 (D ZDQ
 (D (D ZDR
 (E 80
 (D ZDS
 .ret)
 .skip))
 (D ZDT
 (.block 2
 (.loop p_quartolaw15_PlanPlays_22)))))))
 ZDa))
def p_quartolaw15_PlanPlays_25:=R [4] [F 120 0 5,L 121 120,I 122 (.call .pure (.v (.func (.func YM) [] [])) [(.s 121)]),F 123 1 5,L 124 123,I 125 (C JJ [(.s 124)]),I 126 (.eqs false 0 [(0,0),(1,0),(2,0),(3,0),(4,0),(5,0),(6,0)] (.s 122) (.s 125)),M 127 126,G 128 127 true (C YL []),I 129 (.pick (.s 127) (.s 128) (.v (.bool false))),M 4 129]
def ZAU:PF:=⟨false,
 (D ZFH
 (D (D ZFI
 (E 22
 (D ZFJ
 .ret)
 .skip))
 (D ZFK
 (D (D ZFL
 (E 30
 (D ZFM
 .ret)
 .skip))
 (D ZFN
 (D (D ZFO
 (E 38
 (D ZFP
 .ret)
 .skip))
 (D (D ZFQ
 (.block 0
 (.loop p_quartolaw15_PlanPlays_24)))
 (D p_quartolaw15_PlanPlays_25
 .ret)))))))),
 [.s 4]⟩
theorem ZGz:ck0 false [(13,⟨[5,7,8,9,80],[],[(12,.pure),(19,.pure)],[],[],[]⟩),(23,⟨[4],[],[(2,.pure)],[],[],[]⟩)] ZAU Tryz.f3=some ZAU:=by kernel_rfl
def ZOS:=R [0] [I 2 (.mv (.v (.bool false)))]
def ZOT:=R [0,3] [K 3 0]
def ZOU:=R [0,3,4] [K 4 0]
def ZOV:=R [0,3,4,12] [M 5 4,M 6 0,I 7 (.len 1 (.s 6)),B 8 .lss 5 7,M 9 8,U 10 9 true 3,G 11 9 true (.bin .leq (.s 10) (V 900)),I 12 (.pick (.s 9) (.s 11) (.v (.bool false)))]
def ZOW:=R [0,3,4] [M 15 3,M 16 0,M 17 4,I 18 (.ixS 1 (.s 16) (.s 17)),L 19 18,I 20 (.len 0 (.s 19)),I 21 (.mnx false (.s 20) (V 1000)),B 22 .add 15 21,M 3 22]
def ZOX:=R [0,3,4] [M 13 4,W 14 .add 13 1,M 4 14]
def ZOY:PC:=(D (D ZOV
 (E 12
 .skip
 (.exit 0)))
 (D (.block 1
 ZOW)
 ZOX))
def ZOZ:=R [2] [M 23 0,I 24 (.len 1 (.s 23)),W 25 .gtr 24 4,M 26 25,U 27 26 false 3,G 28 26 false (.bin .gtr (.s 27) (V 900)),I 29 (.pick (.s 26) (.v (.bool true)) (.s 28)),M 2 29]
def ZDb:PF:=⟨false,
 (D ZOS
 (D ZOT
 (D (D ZOU
 (.block 0
 (.loop ZOY)))
 (D ZOZ
 .ret)))),
 [.s 2]⟩
theorem ZTp:ck0 false [] ZDb Tryz.f9=some ZDb:=by kernel_rfl
def ZOa:=R [0] [I 2 (.mv (.v (.bool false)))]
def ZOb:=R [0,3] [K 3 0]
def ZOc:=R [0,3,11] [M 4 3,M 5 0,I 6 (.len 1 (.s 5)),B 7 .lss 4 6,M 8 7,U 9 8 true 3,G 10 8 true (.bin .lss (.s 9) (V 100)),I 11 (.pick (.s 8) (.s 10) (.v (.bool false)))]
def ZOd:=R [0,3,20] [M 14 0,M 15 3,I 16 (.ixS 4 (.s 14) (.s 15)),F 17 3 16,L 18 17,I 19 (.len 0 (.s 18)),W 20 .gtr 19 200]
def ZOe:=R [2] [I 2 (.mv (.v (.bool true)))]
def ZOf:=R [0,3] [M 12 3,W 13 .add 12 1,M 3 13]
def ZOg:PC:=(D (D ZOc
 (E 11
 .skip
 (.exit 0)))
 (D (.block 1
 (D ZOd
 (E 20
 (D ZOe
 .ret)
 .skip)))
 ZOf))
def ZOh:=R [2] [M 21 0,I 22 (.len 1 (.s 21)),W 23 .gtr 22 30,M 2 23]
def ZDc:PF:=⟨false,
 (D ZOa
 (D (D ZOb
 (.block 0
 (.loop ZOg)))
 (D ZOh
 .ret))),
 [.s 2]⟩
theorem ZTr:ck0 false [] ZDc Tryz.f10=some ZDc:=by kernel_rfl
def ZLP:=R [] [I 0 (.mv (.v (.bool false)))]
def ZLQ:=R [1,2] [I 4 (C ZAg [(.v (.str [97,98,99,100,101,102,103,104,105,106,107,108,109,110,111,112,113]))]),M 3 4,X 5 3 0,X 6 3 1,I 1 (.box (.v ZT)),N 7 1 5,M 2 6]
def ZLR:=R [0] [M 7 2,W 8 .eql 7 0,M 9 8,G 10 9 true (.fadr 1 (.s 1)),G 11 9 true (.ld false 1 (.s 10)),G 12 9 true (.bin .eql (.s 11) (V 1)),I 13 (.pick (.s 9) (.s 12) (.v (.bool false))),M 14 13,G 15 14 true (.fadr 6 (.s 1)),G 16 14 true (.ld false 1 (.s 15)),G 17 14 true (.len 1 (.s 16)),G 18 14 true (.bin .eql (.s 17) (V 2)),I 19 (.pick (.s 14) (.s 18) (.v (.bool false))),M 20 19,G 21 20 true (.fadr 6 (.s 1)),G 22 20 true (.ld false 1 (.s 21)),G 23 20 true (.ixS 7 (.s 22) (V 0)),G 24 20 true (.fadr 5 (.s 23)),G 25 20 true (.ld false 1 (.s 24)),G 26 20 true (.bin .eql (.s 25) (.v (.str [97,98,99,100,101,102,103,104,105]))),I 27 (.pick (.s 20) (.s 26) (.v (.bool false))),M 28 27,G 29 28 true (.fadr 6 (.s 1)),G 30 28 true (.ld false 1 (.s 29)),G 31 28 true (.ixS 7 (.s 30) (V 1)),G 32 28 true (.fadr 5 (.s 31)),G 33 28 true (.ld false 1 (.s 32)),G 34 28 true (.bin .eql (.s 33) (.v (.str [106,107,108,109,110,111,112,113]))),I 35 (.pick (.s 28) (.s 34) (.v (.bool false))),M 36 35,G 37 36 true (.ld true 7 (.s 1)),G 38 36 true (C ZAI [(.s 37)]),G 39 36 true (.bin .eql (.s 38) (V 3)),I 40 (.pick (.s 36) (.s 39) (.v (.bool false))),M 0 40]
def ZBw:PF:=⟨false,
 (D ZLP
 (D ZLQ
 (D ZLR
 .ret))),
 [.s 0]⟩
theorem ZRP:ck0 false [] ZBw Tryz.f11=some ZBw:=by kernel_rfl
def ZRQ:=R [0,2] [I 2 (.box (.v (.agg [.nilptr,.nilptr,.nils]))),I 3 (.mv (.v (.bool false)))]
def ZRR:=R [0,2,4,5] [I 16 (C ZF5 [(V 700),(.v (.int .u64 3))]),M 15 16,X 17 15 0,X 18 15 1,M 4 17,M 5 18]
def ZRS:=R [0,2,4,5,6,7] [I 20 (C XF [(V 700),(.v (.int .u64 3))]),M 19 20,X 21 19 0,X 22 19 1,M 6 21,M 7 22]
def ZRT:=R [0,2,4,5,6,7,8] [M 23 4,M 24 6,I 25 (.build [.nilptr,.nilptr,.nils] [(0,1,(.s 23)),(1,1,(.s 24))]),I 8 (.box (.v (.agg [.nilptr,.nilptr,.nils]))),N 3 8 25]
def ZRU:=R [0,2,4,6,8,35] [M 26 4,I 27 (.eqs false 3 [] (.s 26) (.v .nilptr)),M 28 27,U 29 28 false 5,G 30 28 false (.bin .neq (.s 29) (V 0)),I 31 (.pick (.s 28) (.v (.bool true)) (.s 30)),M 32 31,U 33 32 false 7,G 34 32 false (.bin .neq (.s 33) (V 0)),I 35 (.pick (.s 32) (.v (.bool true)) (.s 34))]
def ZRV:=R [2,3] [T 36 3 8,N 3 2 36,I 3 (.mv (.v (.bool false)))]
def ZRW:=R [0,2,4,6,8,9] [K 9 0]
def ZRX:=R [0,2,4,6,8,9,40] [M 37 9,M 38 0,I 39 (.len 1 (.s 38)),B 40 .lss 37 39]
def ZRY:=R [0,2,4,6,8,9,10] [M 43 0,M 44 9,I 45 (.ixS 1 (.s 43) (.s 44)),L 46 45,I 47 (C Ji [(.s 46)]),I 10 (.box (.v ZT)),N 7 10 47]
def ZRZ:=R [0,2,4,6,8,9,10,11,12] [M 49 4,I 50 (.mkf (.func Jj) [(.s 49)] []),T 51 7 10,I 52 (C Z2 [(.s 50),(.s 51)]),M 48 52,X 53 48 0,X 54 48 1,I 11 (.box (.v ZR)),N 5 11 53,M 12 54]
def ZOi:=R [0,2,4,6,8,9,11,12,13,14] [M 56 6,I 57 (.mkf (.func QE) [(.s 56)] []),T 58 7 10,I 59 (C Z2 [(.s 57),(.s 58)]),M 55 59,X 60 55 0,X 61 55 1,I 13 (.box (.v ZR)),N 5 13 60,M 14 61]
def ZOj:=R [0,2,4,6,8,9,11,72] [M 62 12,W 63 .neq 62 0,M 64 63,U 65 64 false 14,G 66 64 false (.bin .neq (.s 65) (V 0)),I 67 (.pick (.s 64) (.v (.bool true)) (.s 66)),M 68 67,G 69 68 false (.ld true 5 (.s 11)),G 70 68 false (.ld true 5 (.s 13)),G 71 68 false (.eqs true 0 [(0,0),(1,0),(2,0),(3,0),(4,0)] (.s 69) (.s 70)),I 72 (.pick (.s 68) (.v (.bool true)) (.s 71))]
def ZOk:=R [2,3] [T 73 3 8,N 3 2 73,I 3 (.mv (.v (.bool false)))]
def ZOl:=R [0,2,4,6,8,9] [F 74 2 8,L 75 74,T 76 5 11,I 77 (.bslice false 5 [ZR] [(0,(.s 76))]),I 78 (.app 5 40 (.s 75) (.s 77)),F 79 2 8,N 1 79 78]
def ZOm:=R [0,2,4,6,8,9] [M 41 9,W 42 .add 41 1,M 9 42]
def ZOn:PC:=(D (D ZRX
 (E 40
 .skip
 (.exit 0)))
 (D (.block 1
 (D ZRY
 (D ZRZ
 (D ZOi
 (D (D ZOj
 (E 72
 (D ZOk
 .ret)
 .skip))
 ZOl)))))
 ZOm))
def ZOo:=R [2,3] [T 80 3 8,N 3 2 80,I 3 (.mv (.v (.bool true)))]
def ZF8:PF:=⟨true,
 (D ZRQ
 (D ZRR
 (D ZRS
 (D ZRT
 (D (D ZRU
 (E 35
 (D ZRV
 .ret)
 .skip))
 (D (D ZRW
 (.block 0
 (.loop ZOn)))
 (D ZOo
 .ret))))))),
 [.c 2 true 3,.s 3]⟩
theorem ZVQ:ck0 true [] ZF8 Tryz.f12=some ZF8:=by kernel_rfl
def ZFR:=R [1,2] [I 2 (.box (.s 0)),I 4 (.mv (.v .nils)),I 5 (.mv (.v (.bool false)))]
def ZFS:=R [1,2,6] [I 6 (.onil 7)]
def ZFT:=R [1,2,6,7] [K 7 0]
def ZFU:=R [1,2,6,7,41] [M 38 7,M 39 1,I 40 (.len 1 (.s 39)),B 41 .lss 38 40]
def ZFV:=R [1,2,6,7,8] [M 44 1,M 45 7,I 46 (.ixS 4 (.s 44) (.s 45)),T 47 4 46,I 8 (.box (.v (.agg [(.int .u8 0),(.int .i64 0),(.int .i64 0),(.str [])]))),N 4 8 47]
def ZFW:=R [1,2,6,7,8,9] [M 48 6,I 49 (.len 1 (.s 48)),M 9 49]
def ZFX:=R [1,2,6,7,8,9,52] [F 50 0 8,L 51 50,I 52 (.bin .rem (.s 51) (.v (.int .u8 8)))]
def ZFY:=R [1,2,6,7,8,9,52,68] [I 69 (.bin .eql (.s 52) (.v (.int .u8 0))),M 68 69]
def ZFZ:=R [1,2,6,7,8,73] [F 70 2 2,L 71 70,I 72 (.len 1 (.s 71)),W 73 .eql 72 0]
def ZFa:PC:=(.regH [11] [1,2,6,7,10] [F 74 2 2,L 75 74,F 76 2 8,L 77 76,F 78 2 2,L 79 78,I 80 (.len 1 (.s 79)),W 81 .sub 80 1,I 82 (.call .pin (.v (.func (.func Q2) [] [])) [(.s 77),(.s 81)]),I 83 (.ixS 5 (.s 75) (.s 82)),T 84 5 83,I 10 (.w (.here 11) (.box (.v ZR))),N 5 10 84])
def ZDd:=R [1,2,6,7,10,11,12] [F 86 0 2,L 87 86,T 88 5 10,I 89 (C XQ [(.s 87),(.s 88)]),M 85 89,X 90 85 0,X 91 85 1,I 11 (.box (.v ZT)),N 7 11 90,M 12 91]
def ZDe:=R [1,2,6,7,11,12,13,14] [F 93 1 2,L 94 93,T 95 5 10,I 96 (C ZAJ [(.s 94),(.s 95)]),M 92 96,X 97 92 0,X 98 92 1,I 13 (.box (.v ZT)),N 7 13 97,M 14 98]
def ZDf:=R [1,2,6,7,13,107] [M 99 12,M 100 14,B 101 .neq 99 100,M 102 101,G 103 102 false (.ld true 7 (.s 11)),G 104 102 false (.ld true 7 (.s 13)),G 105 102 false (C QH [(.s 103),(.s 104)]),G 106 102 false (.un .not (.s 105)),I 107 (.pick (.s 102) (.v (.bool true)) (.s 106))]
def ZDg:=R [4,5] [I 4 (.mv (.v .nils)),I 5 (.mv (.v (.bool false)))]
def ZDh:=R [1,2,6,7] [M 108 6,T 109 7 13,I 110 (.bslice false 7 [ZT] [(0,(.s 109))]),I 111 (.app 7 80 (.s 108) (.s 110)),M 6 111]
def ZDi:=R [1,2,6,7,8,9,52,112] [I 113 (.bin .eql (.s 52) (.v (.int .u8 1))),M 112 113]
def ZDj:=R [1,2,6,7,8,15,16] [F 115 3 8,L 116 115,I 117 (C ZAg [(.s 116)]),M 114 117,X 118 114 0,X 119 114 1,I 15 (.box (.v ZT)),N 7 15 118,M 16 119]
def ZDk:=R [1,2,6,7,15,129] [M 120 16,W 121 .neq 120 0,M 122 121,G 123 122 false (.ld true 7 (.s 15)),G 124 122 false (.fadr 3 (.s 8)),G 125 122 false (.ld false 1 (.s 124)),G 126 122 false (.call .pure (.v (.func (.func Ji) [] [])) [(.s 125)]),G 127 122 false (C QH [(.s 123),(.s 126)]),G 128 122 false (.un .not (.s 127)),I 129 (.pick (.s 122) (.v (.bool true)) (.s 128))]
def ZDl:=R [4,5] [I 4 (.mv (.v .nils)),I 5 (.mv (.v (.bool false)))]
def ZDm:=R [1,2,6,7] [M 130 6,T 131 7 15,I 132 (.bslice false 7 [ZT] [(0,(.s 131))]),I 133 (.app 7 80 (.s 130) (.s 132)),M 6 133]
def ZDn:=R [1,2,6,7,8,9,52,134] [I 135 (.bin .eql (.s 52) (.v (.int .u8 2))),M 134 135]
def ZDo:=R [1,2,6,7,8,9,52,134] [I 136 (.bin .eql (.s 52) (.v (.int .u8 3))),M 134 136]
def ZDp:=R [1,2,6,7,8,9,154] [M 137 9,W 138 .lss 137 2,M 139 138,U 140 139 false 6,U 141 139 false 9,G 142 139 false (.bin .sub (.s 141) (V 1)),G 143 139 false (.ixS 7 (.s 140) (.s 142)),G 144 139 false (.ld true 7 (.s 143)),G 145 139 false (.call .pure (.v (.func (.func Zl) [] [])) [(.s 144)]),U 146 139 false 6,U 147 139 false 9,G 148 139 false (.bin .sub (.s 147) (V 2)),G 149 139 false (.ixS 7 (.s 146) (.s 148)),G 150 139 false (.ld true 7 (.s 149)),G 151 139 false (C Zl [(.s 150)]),G 152 139 false (.bin .add (.s 145) (.s 151)),G 153 139 false (.bin .gtr (.s 152) (V 3000)),I 154 (.pick (.s 139) (.v (.bool true)) (.s 153))]
def ZDq:PC:=(.regH [11,10] [1,2,6,7,8,9,17,18] [M 155 6,M 156 9,W 157 .sub 156 2,I 158 (.ixS 7 (.s 155) (.s 157)),T 159 7 158,M 160 6,M 161 9,W 162 .sub 161 1,I 163 (.w (.only (.s 6)) (.ixS 7 (.s 160) (.s 162))),I 164 (.w (.only (.s 6)) (.ld true 7 (.s 163))),I 17 (.w (.here 10) (.box (.v ZT))),I 18 (.w (.here 11) (.box (.v ZT))),J (.w (.off (.s 6)) (.st 7 (.s 17) (.s 159))),N 7 18 164])
def ZDr:=R [1,2,6,7,9,17,18,168] [F 165 0 8,L 166 165,I 167 (.bin .rem (.s 166) (.v (.int .u8 8))),I 168 (.bin .eql (.s 167) (.v (.int .u8 2)))]
def ZDs:=R [1,2,6,7,9,17,18,19,20] [F 170 0 2,L 171 170,T 172 7 17,T 173 7 18,I 174 (C ZGQ [(.s 171),(.s 172),(.s 173)]),M 169 174,X 175 169 0,X 176 169 1,I 19 (.box (.v ZT)),N 7 19 175,M 20 176]
def ZDt:=R [1,2,6,7,9,19,20,21,22] [F 178 1 2,L 179 178,T 180 7 17,T 181 7 18,I 182 (C XR [(.s 179),(.s 180),(.s 181)]),M 177 182,X 183 177 0,X 184 177 1,I 21 (.box (.v ZT)),N 7 21 183,M 22 184]
def ZDu:=R [1,2,6,7,9,21,193] [M 185 20,M 186 22,B 187 .neq 185 186,M 188 187,G 189 188 false (.ld true 7 (.s 19)),G 190 188 false (.ld true 7 (.s 21)),G 191 188 false (C QH [(.s 189),(.s 190)]),G 192 188 false (.un .not (.s 191)),I 193 (.pick (.s 188) (.v (.bool true)) (.s 192))]
def ZDv:=R [4,5] [I 4 (.mv (.v .nils)),I 5 (.mv (.v (.bool false)))]
def ZDw:=R [1,2,6,7] [M 194 6,M 195 9,W 196 .sub 195 2,I 197 (.slc 7 (.s 194) none (some (.s 196))),T 198 7 21,I 199 (.w .imm (.bslice false 7 [ZT] [(0,(.s 198))])),I 200 (.app 7 80 (.s 197) (.s 199)),M 6 200]
def ZDx:=R [1,2,6,7,9,17,18,23,24] [F 202 0 2,L 203 202,T 204 7 17,T 205 7 18,I 206 (C ZCO [(.s 203),(.s 204),(.s 205)]),M 201 206,X 207 201 0,X 208 201 1,M 23 207,M 24 208]
def ZDy:=R [1,2,6,7,9,23,24,25,26] [F 210 1 2,L 211 210,T 212 7 17,T 213 7 18,I 214 (C JE [(.s 211),(.s 212),(.s 213)]),M 209 214,X 215 209 0,X 216 209 1,M 25 215,M 26 216]
def ZDz:=R [1,2,6,7,9,25,26,225] [M 217 24,M 218 26,B 219 .neq 217 218,M 220 219,U 221 220 false 23,U 222 220 false 25,G 223 220 false (C YN [(.s 221),(.s 222)]),G 224 220 false (.un .not (.s 223)),I 225 (.pick (.s 220) (.v (.bool true)) (.s 224))]
def ZD0:=R [4,5] [I 4 (.mv (.v .nils)),I 5 (.mv (.v (.bool false)))]
def ZD1:=R [1,2,6,7,9,25,227] [M 226 26,W 227 .eql 226 0]
def ZD2:=R [1,2,6,7] [M 228 6,M 229 9,W 230 .sub 229 2,I 231 (.slc 7 (.s 228) none (some (.s 230))),M 232 25,I 233 (.app 7 80 (.s 231) (.s 232)),M 6 233]
def ZD3:=R [1,2,6,7,8,9,52,234] [I 235 (.bin .eql (.s 52) (.v (.int .u8 4))),M 234 235]
def ZD4:=R [1,2,6,7,8,9,237] [M 236 9,W 237 .lss 236 1]
def ZD5:=R [1,2,6,7,9,27] [F 238 1 8,L 239 238,M 240 6,M 241 9,W 242 .sub 241 1,I 243 (.ixS 7 (.s 240) (.s 242)),T 244 7 243,I 245 (.call .pure (.v (.func (.func Zl) [] [])) [(.s 244)]),I 246 (C Q2 [(.s 239),(.s 245)]),M 27 246]
def ZD6:PC:=(.regH [13,14] [1,2,6,7,9,27,28,29,30] [F 248 0 2,L 249 248,M 250 6,M 251 9,W 252 .sub 251 1,I 253 (.ixS 7 (.s 250) (.s 252)),T 254 7 253,M 255 27,I 256 (.call .inner (.v (.func (.func ZTl) [] [])) [(.s 249),(.s 254),(.s 255)]),M 247 256,X 257 247 0,X 258 247 1,X 259 247 2,I 28 (.w (.here 13) (.box (.v ZT))),I 29 (.w (.here 14) (.box (.v ZT))),N 7 28 257,N 7 29 258,M 30 259])
def ZD7:PC:=(.regH [12,13] [1,2,6,7,9,28,29,30,31,32] [F 261 1 2,L 262 261,M 263 6,M 264 9,W 265 .sub 264 1,I 266 (.ixS 7 (.s 263) (.s 265)),T 267 7 266,M 268 27,I 269 (.call .inner (.v (.func (.func Qq) [] [])) [(.s 262),(.s 267),(.s 268)]),M 260 269,X 270 260 0,X 271 260 1,I 31 (.w (.here 12) (.box (.v ZT))),I 32 (.w (.here 13) (.box (.v ZT))),N 7 31 270,N 7 32 271])
def ZD8:=R [1,2,6,7,9,31,32,285] [M 272 30,W 273 .neq 272 0,M 274 273,G 275 274 false (.ld true 7 (.s 28)),G 276 274 false (.ld true 7 (.s 31)),G 277 274 false (C QH [(.s 275),(.s 276)]),G 278 274 false (.un .not (.s 277)),I 279 (.pick (.s 274) (.v (.bool true)) (.s 278)),M 280 279,G 281 280 false (.ld true 7 (.s 29)),G 282 280 false (.ld true 7 (.s 32)),G 283 280 false (C QH [(.s 281),(.s 282)]),G 284 280 false (.un .not (.s 283)),I 285 (.pick (.s 280) (.v (.bool true)) (.s 284))]
def ZD9:=R [4,5] [I 4 (.mv (.v .nils)),I 5 (.mv (.v (.bool false)))]
def ZEA:=R [1,2,6,7] [M 286 6,M 287 9,W 288 .sub 287 1,I 289 (.slc 7 (.s 286) none (some (.s 288))),T 290 7 31,T 291 7 32,I 292 (.w .imm (.bslice false 7 [ZT,ZT] [(0,(.s 290)),(1,(.s 291))])),I 293 (.app 7 80 (.s 289) (.s 292)),M 6 293]
def ZEB:=R [1,2,6,7,8,9,52,294] [I 295 (.bin .eql (.s 52) (.v (.int .u8 5))),M 294 295]
def ZEC:=R [1,2,6,7,8,9,297] [M 296 9,W 297 .lss 296 1]
def ZED:=R [1,2,6,7,8,9,33] [M 298 6,M 299 9,W 300 .sub 299 1,I 301 (.ixS 7 (.s 298) (.s 300)),T 302 7 301,I 303 (C Zl [(.s 302)]),M 33 303]
def ZEE:=R [1,2,6,7,8,9,33,34] [F 304 1 8,L 305 304,M 306 33,I 307 (C Q2 [(.s 305),(.s 306)]),M 34 307]
def ZEF:PC:=(.regH [20] [1,2,6,7,8,9,33,34,35,36] [F 309 0 2,L 310 309,M 311 6,M 312 9,W 313 .sub 312 1,I 314 (.ixS 7 (.s 311) (.s 313)),T 315 7 314,M 316 34,F 317 2 8,L 318 317,M 319 33,M 320 34,B 321 .sub 319 320,I 322 (.call .pin (.v (.func (.func Q2) [] [])) [(.s 318),(.s 321)]),F 323 3 8,L 324 323,I 325 (.call .inner (.v (.func (.func ZDJ) [] [])) [(.s 310),(.s 315),(.s 316),(.s 322),(.s 324)]),M 308 325,X 326 308 0,X 327 308 1,I 35 (.w (.here 20) (.box (.v ZT))),N 7 35 326,M 36 327])
def ZEG:PC:=(.regH [17] [1,2,6,7,9,35,36,37] [F 328 1 2,L 329 328,M 330 6,M 331 9,W 332 .sub 331 1,I 333 (.ixS 7 (.s 330) (.s 332)),T 334 7 333,M 335 34,F 336 2 8,L 337 336,M 338 33,M 339 34,B 340 .sub 338 339,I 341 (.call .pin (.v (.func (.func Q2) [] [])) [(.s 337),(.s 340)]),F 342 3 8,L 343 342,I 344 (.call .inner (.v (.func (.func Yl) [] [])) [(.s 329),(.s 334),(.s 335),(.s 341),(.s 343)]),I 37 (.w (.here 17) (.box (.v ZT))),N 7 37 344])
def ZEH:=R [1,2,6,7,9,37,352] [M 345 36,W 346 .neq 345 0,M 347 346,G 348 347 false (.ld true 7 (.s 35)),G 349 347 false (.ld true 7 (.s 37)),G 350 347 false (C QH [(.s 348),(.s 349)]),G 351 347 false (.un .not (.s 350)),I 352 (.pick (.s 347) (.v (.bool true)) (.s 351))]
def ZEI:=R [4,5] [I 4 (.mv (.v .nils)),I 5 (.mv (.v (.bool false)))]
def ZEJ:=R [1,2,6,7] [M 353 6,M 354 9,W 355 .sub 354 1,I 356 (.slc 7 (.s 353) none (some (.s 355))),T 357 7 37,I 358 (.w .imm (.bslice false 7 [ZT] [(0,(.s 357))])),I 359 (.app 7 80 (.s 356) (.s 358)),M 6 359]
def ZEK:=R [1,2,6,7,9,360] [I 361 (.bin .eql (.s 52) (.v (.int .u8 6))),M 360 361]
def ZEL:=R [1,2,6,7,9,363] [M 362 9,W 363 .gtr 362 0]
def ZEM:=R [1,2,6,7] [M 364 6,M 365 9,W 366 .sub 365 1,I 367 (.slc 7 (.s 364) none (some (.s 366))),M 6 367]
def ZEN:=R [1,2,6,7,9,58] [M 53 9,W 54 .gtr 53 0,M 55 54,U 56 55 true 9,G 57 55 true (.bin .lss (.s 56) (V 12)),I 58 (.pick (.s 55) (.s 57) (.v (.bool false)))]
def ZEO:=R [1,2,6,7] [M 59 6,M 60 6,M 61 9,W 62 .sub 61 1,I 63 (.ixS 7 (.s 60) (.s 62)),T 64 7 63,I 65 (C Ym [(.s 64)]),I 66 (.bslice false 7 [ZT] [(0,(.s 65))]),I 67 (.app 7 80 (.s 59) (.s 66)),M 6 67]
def ZEP:=R [1,2,6,7] [M 42 7,W 43 .add 42 1,M 7 43]
def p_quartolaw15_Laid_both_59:PC:=(D (D ZFU
 (E 41
 .skip
 (.exit 0)))
 (D (.block 1
 (D ZFV
 (D ZFW
 (D ZFX
 (.block 2
 (D ZFY
 (E 68
 (D (D ZFZ
 (E 73
 (.exit 1)
 .skip))
 (D ZFa
 (D ZDd
 (D ZDe
 (D (D ZDf
 (E 107
 (D ZDg
 .ret)
 .skip))
 ZDh)))))
 (D ZDi
 (E 112
 (D ZDj
 (D (D ZDk
 (E 129
 (D ZDl
 .ret)
 .skip))
 ZDm))
 (D (D ZDn
 (E 134
 .skip
 ZDo))
 (E 134
 (D (D ZDp
 (E 154
 (.exit 1)
 .skip))
 (D ZDq
 (D (D ZDr
 (E 168
 (D ZDs
 (D ZDt
 (D (D ZDu
 (E 193
 (D ZDv
 .ret)
 .skip))
 (D ZDw
 (.exit 1)))))
 .skip))
 (D ZDx
 (D ZDy
 (D (D ZDz
 (E 225
 (D ZD0
 .ret)
 .skip))
 (D ZD1
 (E 227
 ZD2
 .skip))))))))
 (D ZD3
 (E 234
 (D (D ZD4
 (E 237
 (.exit 1)
 .skip))
 (D ZD5
 (D ZD6
 (D ZD7
 (D (D ZD8
 (E 285
 (D ZD9
 .ret)
 .skip))
 ZEA)))))
 (D ZEB
 (E 294
 (D (D ZEC
 (E 297
 (.exit 1)
 .skip))
 (D ZED
 (D ZEE
 (D ZEF
 (D ZEG
 (D (D ZEH
 (E 352
 (D ZEI
 .ret)
 .skip))
 ZEJ))))))
 (D ZEK
 (E 360
 (D ZEL
 (E 363
 ZEM
 .skip))
 (D ZEN
 (E 58
 ZEO
 .skip)))))))))))))))))))
 ZEP))
def p_quartolaw15_Laid_both_60:=R [4,5] [M 368 6,M 4 368,I 5 (.mv (.v (.bool true)))]
def ZAV:PF:=⟨false,
 (D ZFR
 (D ZFS
 (D (D ZFT
 (.block 0
 (.loop p_quartolaw15_Laid_both_59)))
 (D p_quartolaw15_Laid_both_60
 .ret)))),
 [.s 4,.s 5]⟩
theorem ZG1:ck0 false [(1,⟨[1,2,6],[0],[],[],[],[]⟩),(9,⟨[1,2,6,7,10],[],[(8,.pin)],[],[(11,(.here 11))],[11]⟩),(17,⟨[1,2,6,7,15,129],[],[(6,.pure)],[],[],[]⟩),(22,⟨[1,2,6,7,8,9,154],[],[(8,.pure)],[],[],[]⟩),(23,⟨[1,2,6,7,8,9,17,18],[],[],[],[(9,(.only (.s 6))),(12,(.off (.s 6))),(8,(.only (.s 6))),(10,(.here 10)),(11,(.here 11))],[11,10]⟩),(29,⟨[1,2,6,7],[],[],[],[(5,.imm)],[]⟩),(38,⟨[1,2,6,7,9,27],[],[(7,.pure)],[],[],[]⟩),(39,⟨[1,2,6,7,9,27,28,29,30],[],[(8,.inner)],[],[(14,(.here 14)),(13,(.here 13))],[13,14]⟩),(40,⟨[1,2,6,7,9,28,29,30,31,32],[],[(8,.inner)],[],[(13,(.here 13)),(12,(.here 12))],[12,13]⟩),(43,⟨[1,2,6,7],[],[],[],[(6,.imm)],[]⟩),(48,⟨[1,2,6,7,8,9,33,34,35,36],[],[(16,.inner),(13,.pin)],[],[(20,(.here 20))],[20]⟩),(49,⟨[1,2,6,7,9,35,36,37],[],[(16,.inner),(13,.pin)],[],[(17,(.here 17))],[17]⟩),(52,⟨[1,2,6,7],[],[],[],[(5,.imm)],[]⟩)] ZAV Tryz.f13=some ZAV:=by kernel_rfl
def ZgB:=R [2,3] [I 2 (.box (.s 0)),I 3 (.box (.s 1)),I 4 (.mv (.v (.str []))),K 5 0]
def ZgC:=R [2,3,6] [L 10 2,T 11 7 3,I 12 (C Js [(.s 10),(.s 11)]),M 6 12]
def ZgD:=R [2,3,6,14] [M 13 6,W 14 .neq 13 0]
def ZgE:=R [4,5] [M 15 6,I 4 (.mv (.v (.str []))),M 5 15]
def ZgF:=R [2,3,7] [I 7 (.boxnil 1)]
def ZgG:=R [2,3,7,8] [I 8 (.box (.v .nilfunc))]
def ZgH:=R [3,7,8] [I 16 (.mkf (.func Y2) [] [(.s 2),(.s 7),(.s 8)]),N 1 8 16]
def ZgI:=R [3,7,8,19] [T 17 7 3,I 18 (C QQ [(.s 17)]),W 19 .eql 18 1]
def ZgJ:=R [4,5] [I 4 (.mv (.v (.str []))),K 5 0]
def ZgK:=R [7,9] [L 20 8,T 21 7 3,I 22 (.call .norm (.s 20) [(.s 21)]),M 9 22]
def ZdK:=R [7,9,24] [M 23 9,W 24 .neq 23 0]
def ZdL:=R [4,5] [M 25 9,I 4 (.mv (.v (.str []))),M 5 25]
def ZdM:=R [4,5] [L 26 7,I 27 (.b2s (.s 26)),M 4 27,K 5 0]
def ZZJ:PF:=⟨false,
 (D ZgB
 (D (D ZgC
 (D ZgD
 (E 14
 (D ZgE
 .ret)
 .skip)))
 (D ZgF
 (D ZgG
 (D ZgH
 (D (D ZgI
 (E 19
 (D ZgJ
 .ret)
 .skip))
 (D (D ZgK
 (D ZdK
 (E 24
 (D ZdL
 .ret)
 .skip)))
 (D ZdM
 .ret)))))))),
 [.s 4,.s 5]⟩
theorem Zms:ck0 false [(4,⟨[2,3,7],[0],[],[],[],[]⟩)] ZZJ Tryz.f14=some ZZJ:=by kernel_rfl
def ZLS:=R [0,3] [I 3 (.box (.s 1)),I 4 (.mv (.v (.str [])))]
def ZLT:=R [0,3,10] [F 8 1 3,L 9 8,W 10 .eql 9 0]
def ZLU:=R [0,3,13] [F 11 0 3,L 12 11,I 13 (.bin .neq (.s 12) (.v (.int .u64 0)))]
def ZLV:=R [4] [M 14 0,F 15 0 3,L 16 15,I 17 (C Yn [(.s 14),(.s 16)]),I 18 (.fld false 1 1 (.s 17)),M 4 18]
def ZLW:=R [4] [F 19 5 3,L 20 19,M 4 20]
def ZLX:=R [0,3,5] [I 5 (.mv (.v (.str [])))]
def ZLY:=R [0,5,6] [M 21 0,T 22 7 3,I 23 (.call .inner (.v (.func (.func QA) [] [])) [(.s 21),(.s 22)]),M 6 23]
def ZLZ:=R [0,5,6,7] [K 7 0]
def ZLa:=R [0,5,6,7,27] [M 24 7,M 25 6,I 26 (.len 1 (.s 25)),B 27 .lss 24 26]
def ZLb:=R [0,5,6,7] [M 30 5,M 31 0,M 32 6,M 33 7,I 34 (.ixS 7 (.s 32) (.s 33)),T 35 7 34,I 36 (C Qc [(.s 31),(.s 35)]),B 37 .add 30 36,M 5 37]
def ZIn:=R [0,5,6,7] [M 28 7,W 29 .add 28 1,M 7 29]
def ZIo:PC:=(D (D ZLa
 (E 27
 .skip
 (.exit 0)))
 (D (.block 1
 ZLb)
 ZIn))
def ZIp:=R [4] [M 38 5,M 4 38]
def ZBx:PF:=⟨false,
 (D ZLS
 (D (D ZLT
 (E 10
 (D (D ZLU
 (E 13
 (D ZLV
 .ret)
 .skip))
 (D ZLW
 .ret))
 .skip))
 (D ZLX
 (D ZLY
 (D (D ZLZ
 (.block 0
 (.loop ZIo)))
 (D ZIp
 .ret)))))),
 [.s 4]⟩
theorem ZRb:ck0 false [(6,⟨[0,5,6],[],[(2,.inner)],[],[],[]⟩)] ZBx Tryz.f15=some ZBx:=by kernel_rfl
def Zj0:=R [1] [I 1 (.box (.s 0)),K 2 0]
def Zj1:=R [1,3] [K 3 0]
def Zj2:=R [1,3,4] [T 7 7 1,I 8 (C QQ [(.s 7)]),M 4 8]
def Zj3:=R [1,3,14] [M 9 4,W 10 .eql 9 3,M 11 10,U 12 11 false 4,G 13 11 false (.bin .eql (.s 12) (V 4)),I 14 (.pick (.s 11) (.v (.bool true)) (.s 13))]
def Zj4:=R [1,3] [K 3 1]
def Zj5:=R [3,16,17,18] [F 15 6 1,L 16 15,I 17 (.len 1 (.s 16)),K 18 0]
def Zj6:=R [3,16,17,18,19] [B 19 .lss 18 17]
def Zj7:=R [3,6,16,17,18] [I 20 (.ixS 7 (.s 16) (.s 18)),T 21 7 20,I 6 (.box (.v ZT)),N 7 6 21]
def Zj8:=R [3,16,17,18] [M 22 3,T 23 7 6,I 24 (C ZAI [(.s 23)]),B 25 .add 22 24,M 3 25]
def Zj9:=R [3,16,17,18] [W 26 .add 18 1,M 18 26]
def ZgL:PC:=(D Zj6
 (D (E 19
 .skip
 (.exit 0))
 (D (.block 1
 (D Zj7
 Zj8))
 Zj9)))
def ZgM:=R [2] [M 27 3,M 2 27]
def ZdN:PF:=⟨false,
 (D Zj0
 (D Zj1
 (D (D Zj2
 (D Zj3
 (E 14
 Zj4
 .skip)))
 (D (D Zj5
 (.block 0
 (.loop ZgL)))
 (D ZgM
 .ret))))),
 [.s 2]⟩
theorem ZpB:ck0 false [] ZdN Tryz.f16=some ZdN:=by kernel_rfl
def ZRc:=R [1] [I 1 (.box (.s 0)),K 2 0]
def ZRd:=R [1,11] [T 5 7 1,I 6 (C Zy [(.s 5)]),M 7 6,G 8 7 false (.fadr 0 (.s 1)),G 9 7 false (.ld false 1 (.s 8)),G 10 7 false (.bin .neq (.s 9) (.v (.int .u64 0))),I 11 (.pick (.s 7) (.v (.bool true)) (.s 10))]
def ZRe:=R [2] [K 2 0]
def ZRf:=R [1,3] [K 3 1]
def ZRg:=R [1,3,4] [K 4 0]
def ZRh:=R [1,3,4,16] [M 12 4,F 13 6 1,L 14 13,I 15 (.len 1 (.s 14)),B 16 .lss 12 15]
def ZRi:=R [1,3,4] [M 19 3,F 20 6 1,L 21 20,M 22 4,I 23 (.ixS 7 (.s 21) (.s 22)),T 24 7 23,I 25 (C YB [(.s 24)]),B 26 .add 19 25,M 3 26]
def ZRj:=R [1,3,4] [M 17 4,W 18 .add 17 1,M 4 18]
def ZRk:PC:=(D (D ZRh
 (E 16
 .skip
 (.exit 0)))
 (D (.block 1
 ZRi)
 ZRj))
def ZRl:=R [2] [M 27 3,M 2 27]
def ZF9:PF:=⟨false,
 (D ZRc
 (D (D ZRd
 (E 11
 (D ZRe
 .ret)
 .skip))
 (D ZRf
 (D (D ZRg
 (.block 0
 (.loop ZRk)))
 (D ZRl
 .ret))))),
 [.s 2]⟩
theorem ZVS:ck0 false [] ZF9 Tryz.f17=some ZF9:=by kernel_rfl
def ZEQ:=R [0,1] [I 4 (.mv (.v (.bool false)))]
def ZER:=R [0,1,10] [M 6 0,I 7 (.len 1 (.s 6)),M 8 1,I 9 (.len 1 (.s 8)),B 10 .neq 7 9]
def ZES:=R [4] [I 4 (.mv (.v (.bool false)))]
def ZET:=R [0,1,5] [K 5 0]
def ZEU:=R [0,1,5,14] [M 11 5,M 12 0,I 13 (.len 1 (.s 12)),B 14 .lss 11 13]
def ZEV:=R [0,1,5,25] [M 17 0,M 18 5,I 19 (.ixS 1 (.s 17) (.s 18)),L 20 19,M 21 1,M 22 5,I 23 (.ixS 1 (.s 21) (.s 22)),L 24 23,B 25 .neq 20 24]
def ZEW:=R [4] [I 4 (.mv (.v (.bool false)))]
def ZEX:=R [0,1,5] [M 15 5,W 16 .add 15 1,M 5 16]
def ZEY:PC:=(D (D ZEU
 (E 14
 .skip
 (.exit 0)))
 (D (.block 1
 (D ZEV
 (E 25
 (D ZEW
 .ret)
 .skip)))
 ZEX))
def ZEZ:=R [4] [I 4 (.mv (.v (.bool true)))]
def Xy:PF:=⟨false,
 (D ZEQ
 (D (D ZER
 (E 10
 (D ZES
 .ret)
 .skip))
 (D (D ZET
 (.block 0
 (.loop ZEY)))
 (D ZEZ
 .ret)))),
 [.s 4]⟩
theorem ZGW:ck0 false [] Xy Tryz.f18=some Xy:=by kernel_rfl
def ZgN:=R [1] [I 1 (.box (.s 0)),I 2 (.mv (.v .nils))]
def ZgO:=R [1,3] [I 3 (.boxnil 1)]
def ZgP:=R [1,3,4] [I 6 (.mkmap),I 4 (.box (.v .nilmap)),N 1 4 6]
def ZgQ:=R [1,3,4,5] [I 5 (.box (.v .nilfunc))]
def ZgR:=R [1,3,5] [I 7 (.mkf (.func Y3) [] [(.s 4),(.s 3),(.s 5)]),N 1 5 7]
def ZgS:=R [3] [L 8 5,T 9 7 1,I 10 (.call .norm (.s 8) [(.s 9)])]
def ZgT:=R [2] [L 11 3,M 2 11]
def ZZK:PF:=⟨false,
 (D ZgN
 (D ZgO
 (D ZgP
 (D ZgQ
 (D ZgR
 (D ZgS
 (D ZgT
 .ret))))))),
 [.s 2]⟩
theorem Zmu:ck0 false [(1,⟨[1,3],[0],[],[],[],[]⟩)] ZZK Tryz.f19=some ZZK:=by kernel_rfl
def ZOp:=R [1] [I 1 (.box (.s 0)),I 2 (.mv (.v .nils))]
def ZOq:=R [2] [T 3 7 1,I 4 (C JF [(.s 3)]),I 5 (C J0 [(.s 4)]),M 2 5]
def ZEa:PF:=⟨false,
 (D ZOp
 (D ZOq
 .ret)),
 [.s 2]⟩
theorem ZTt:ck0 false [] ZEa Tryz.f20=some ZEa:=by kernel_rfl
def ZXQ:=R [0,4,5] [I 4 (.box (.s 1)),I 5 (.box (.s 2)),I 6 (.mv (.v .nils)),K 7 0]
def ZXR:=R [0,4,5,9] [M 18 0,T 19 5 4,I 20 (C XQ [(.s 18),(.s 19)]),M 17 20,X 21 17 0,X 22 17 1,I 8 (.box (.v ZT)),N 7 8 21,M 9 22]
def ZXS:=R [0,4,5,9,24] [M 23 9,W 24 .neq 23 0]
def ZXT:=R [6,7] [M 25 9,I 6 (.mv (.v .nils)),M 7 25]
def ZXU:=R [0,4,5,10] [M 26 0,T 27 7 5,I 28 (C Js [(.s 26),(.s 27)]),M 10 28]
def ZXV:=R [0,4,5,10,30] [M 29 10,W 30 .neq 29 0]
def ZXW:=R [6,7] [M 31 10,I 6 (.mv (.v .nils)),M 7 31]
def ZXX:=R [0,4,5,11] [I 32 (.mkmap),I 11 (.box (.v .nilmap)),N 1 11 32]
def ZXY:=R [0,4,11,34,35,36] [T 33 7 5,I 34 (C ZF4 [(.s 33)]),I 35 (.len 1 (.s 34)),K 36 0]
def ZXZ:=R [0,4,11,34,35,36,37] [B 37 .lss 36 35]
def ZVT:=R [0,4,11,13,34,35,36] [I 38 (.ixS 1 (.s 34) (.s 36)),L 39 38,M 13 39]
def ZVU:=R [0,4,11,14,34,35,36] [M 40 0,M 41 13,L 42 11,I 43 (C JR [(.s 40),(.s 41),(.s 42),(.v (.func (.func YX) [] []))]),M 14 43]
def ZVV:=R [0,4,11,14,34,35,36,45] [M 44 14,W 45 .neq 44 0]
def ZVW:=R [6,7] [M 46 14,I 6 (.mv (.v .nils)),M 7 46]
def ZVX:=R [0,4,11,34,35,36] [W 47 .add 36 1,M 36 47]
def ZVY:PC:=(D ZXZ
 (D (E 37
 .skip
 (.exit 0))
 (D (.block 1
 (D ZVT
 (D ZVU
 (D ZVV
 (E 45
 (D ZVW
 .ret)
 .skip)))))
 ZVX)))
def ZVZ:=R [0,4,11,15] [I 15 (.boxnil 1)]
def ZVa:=R [0,4,11,15,50] [F 48 0 4,L 49 48,I 50 (.bin .eql (.s 49) (.v (.int .u64 0)))]
def ZVb:=R [6,7] [I 6 (.mv (.v .nils)),K 7 0]
def ZVc:=R [15,16] [M 51 0,F 52 0 4,L 53 52,I 54 (.mkmap),I 55 (.mkf (.func YY) [] [(.s 11),(.s 15)]),I 56 (C JR [(.s 51),(.s 53),(.s 54),(.s 55)]),M 16 56]
def ZVd:=R [15,16,58] [M 57 16,W 58 .neq 57 0]
def ZVe:=R [6,7] [M 59 16,I 6 (.mv (.v .nils)),M 7 59]
def ZVf:=R [6,7] [L 60 15,M 6 60,K 7 0]
def ZOr:PF:=⟨false,
 (D ZXQ
 (D (D ZXR
 (D ZXS
 (E 24
 (D ZXT
 .ret)
 .skip)))
 (D (D ZXU
 (D ZXV
 (E 30
 (D ZXW
 .ret)
 .skip)))
 (D ZXX
 (D (D ZXY
 (.block 0
 (.loop ZVY)))
 (D ZVZ
 (D (D ZVa
 (E 50
 (D ZVb
 .ret)
 .skip))
 (D ZVc
 (D (D ZVd
 (E 58
 (D ZVe
 .ret)
 .skip))
 (D ZVf
 .ret)))))))))),
 [.s 6,.s 7]⟩
theorem ZdP:ck0 false [(15,⟨[0,4,11,15],[0],[],[],[],[]⟩)] ZOr Tryz.f21=some ZOr:=by kernel_rfl
def ZG2:=R [0,4,5] [I 4 (.box (.s 1)),I 5 (.box (.s 2)),I 6 (.mv (.v .nils)),K 7 0]
def ZG3:=R [0,4,5,10] [M 9 0,I 10 (.eqs false 3 [] (.s 9) (.v .nilptr))]
def ZG4:=R [6,7] [I 6 (.mv (.v .nils)),K 7 1]
def ZG5:=R [0,4,5,8] [M 11 0,T 12 5 4,I 13 (C Yo [(.s 11),(.s 12)]),M 8 13]
def ZG6:=R [0,4,5,8,15] [M 14 8,W 15 .neq 14 0]
def ZG7:=R [6,7] [M 16 8,I 6 (.mv (.v .nils)),M 7 16]
def ZG8:=R [0,4,5,8] [M 17 0,T 18 7 5,I 19 (C Jk [(.s 17),(.s 18)]),M 8 19]
def ZG9:=R [0,4,5,8,21] [M 20 8,W 21 .neq 20 0]
def ZHA:=R [6,7] [M 22 8,I 6 (.mv (.v .nils)),M 7 22]
def ZHB:=R [6,7] [M 23 0,T 24 5 4,I 25 (.call .pure (.v (.func (.func YO) [] [])) [(.s 24)]),I 26 (.call .pure (.v (.func (.func JG) [] [])) [(.s 23),(.s 25)]),M 27 0,T 28 7 5,I 29 (C JG [(.s 27),(.s 28)]),I 30 (C Y7 [(.s 26),(.s 29)]),M 6 30,K 7 0]
def ZA1:PF:=⟨false,
 (D ZG2
 (D (D ZG3
 (E 10
 (D ZG4
 .ret)
 .skip))
 (D ZG5
 (D (D ZG6
 (E 15
 (D ZG7
 .ret)
 .skip))
 (D ZG8
 (D (D ZG9
 (E 21
 (D ZHA
 .ret)
 .skip))
 (D ZHB
 .ret))))))),
 [.s 6,.s 7]⟩
theorem ZLd:ck0 false [(9,⟨[6,7],[],[(2,.pure),(3,.pure)],[],[],[]⟩)] ZA1 Tryz.f22=some ZA1:=by kernel_rfl
def ZLe:=R [0,2] [I 2 (.box (.v (.agg [(.int .i64 0),(.int .i64 0),(.int .i64 0),(.int .i64 0),(.int .i64 0),(.int .i64 0),(.int .i64 0)])))]
def ZLf:=R [0,2,4] [M 3 0,I 4 (.eqs false 3 [] (.s 3) (.v .nilptr))]
def ZLg:=R [2] [I 5 (.build [(.int .i64 0),(.int .i64 0),(.int .i64 0),(.int .i64 0),(.int .i64 0),(.int .i64 0),(.int .i64 0)] []),N 7 2 5]
def ZLh:=R [2] [M 6 0,I 7 (.nilck (.s 6)),F 8 0 7,L 9 8,M 10 0,I 11 (.nilck (.s 10)),F 12 1 11,L 13 12,I 14 (.call .pure (.v (.func (.func XS) [] [])) [(.s 13)]),I 15 (.len 1 (.s 14)),M 16 0,I 17 (.nilck (.s 16)),F 18 2 17,L 19 18,I 20 (.len 2 (.s 19)),M 21 0,I 22 (.nilck (.s 21)),F 23 1 22,L 24 23,I 25 (.call .pure (.v (.func (.func J6) [] [])) [(.s 24)]),I 26 (.len 1 (.s 25)),M 27 0,I 28 (.nilck (.s 27)),F 29 3 28,L 30 29,M 31 0,I 32 (.nilck (.s 31)),F 33 4 32,L 34 33,M 35 0,I 36 (.nilck (.s 35)),F 37 5 36,L 38 37,I 39 (.build [(.int .i64 0),(.int .i64 0),(.int .i64 0),(.int .i64 0),(.int .i64 0),(.int .i64 0),(.int .i64 0)] [(0,1,(.s 9)),(1,1,(.s 15)),(2,1,(.s 20)),(3,1,(.s 26)),(4,1,(.s 30)),(5,1,(.s 34)),(6,1,(.s 38))]),N 7 2 39]
def ZBy:PF:=⟨false,
 (D ZLe
 (D (D ZLf
 (E 4
 (D ZLg
 .ret)
 .skip))
 (D ZLh
 .ret))),
 [.c 2 true 7]⟩
theorem ZRn:ck0 false [(3,⟨[2],[],[(8,.pure),(19,.pure)],[],[],[]⟩)] ZBy Tryz.f23=some ZBy:=by kernel_rfl
def ZCQ:=R [0,2] [I 2 (.box (.v (.agg [(.int .i64 0),(.int .i64 0),(.int .i64 0),(.int .i64 0),(.int .i64 0),(.int .i64 0),(.int .i64 0)])))]
def ZCR:=R [0,2,5] [M 4 0,I 5 (.eqs false 3 [] (.s 4) (.v .nilptr))]
def ZCS:=R [2] [I 6 (.build [(.int .i64 0),(.int .i64 0),(.int .i64 0),(.int .i64 0),(.int .i64 0),(.int .i64 0),(.int .i64 0)] []),N 7 2 6]
def ZCT:=R [0,2,3] [M 7 0,I 8 (.nilck (.s 7)),F 9 2 8,T 10 7 9,I 3 (.box (.v (.agg [(.int .i64 0),(.int .i64 0),(.int .i64 0),(.int .i64 0),(.int .i64 0),(.int .i64 0),(.int .i64 0)]))),N 7 3 10]
def ZCU:=R [0,2,3] [M 11 0,I 12 (.nilck (.s 11)),F 13 0 12,L 14 13,I 15 (.nilck (.s 14)),F 16 1 15,L 17 16,I 18 (.len 1 (.s 17)),F 19 0 3,N 1 19 18]
def ZCV:=R [0,2,3] [M 20 0,I 21 (.nilck (.s 20)),F 22 0 21,L 23 22,I 24 (.nilck (.s 23)),F 25 3 24,L 26 25,I 27 (.len 1 (.s 26)),F 28 1 3,N 1 28 27]
def ZCW:=R [2,3] [M 29 0,I 30 (.nilck (.s 29)),F 31 1 30,L 32 31,I 33 (.len 1 (.s 32)),F 34 2 3,N 1 34 33]
def ZCX:=R [2,3] [F 35 0 3,L 36 35,F 37 1 3,L 38 37,B 39 .sub 36 38,F 40 2 3,L 41 40,B 42 .sub 39 41,F 43 3 3,N 1 43 42]
def ZCY:=R [2] [T 44 7 3,N 7 2 44]
def Xk:PF:=⟨false,
 (D ZCQ
 (D (D ZCR
 (E 5
 (D ZCS
 .ret)
 .skip))
 (D ZCT
 (D ZCU
 (D ZCV
 (D ZCW
 (D ZCX
 (D ZCY
 .ret)))))))),
 [.c 2 true 7]⟩
theorem ZFc:ck0 false [] Xk Tryz.f24=some Xk:=by kernel_rfl
def ZgU:=R [0,1] [I 4 (.mv (.v .nilptr)),K 5 0]
def ZgV:=R [0,6,7] [M 9 0,M 10 1,I 11 (C ZDK [(.s 9),(.s 10)]),M 8 11,X 12 8 0,X 13 8 1,M 6 12,M 7 13]
def ZgW:=R [0,6,7,15] [M 14 7,W 15 .neq 14 0]
def ZgX:=R [4,5] [M 16 7,I 4 (.mv (.v .nilptr)),M 5 16]
def ZgY:=R [4,5] [M 17 0,M 18 6,I 19 (.mkmap),I 20 (.build [(.int .i64 0),.nilptr,.nilmap,(.int .i64 0),(.int .i64 0),(.int .i64 0)] [(0,1,(.s 17)),(1,1,(.s 18)),(2,1,(.s 19))]),I 21 (.box (.s 20)),M 4 21,K 5 0]
def ZZL:PF:=⟨true,
 (D ZgU
 (D ZgV
 (D (D ZgW
 (E 15
 (D ZgX
 .ret)
 .skip))
 (D ZgY
 .ret)))),
 [.s 4,.s 5]⟩
theorem Zmw:ck0 true [] ZZL Tryz.f46=some ZZL:=by kernel_rfl
def ZOs:=R [2,3] [I 2 (.box (.s 0)),I 3 (.box (.s 1)),I 4 (.mv (.v (.bool false)))]
def ZOt:=R [2,3,40] [F 6 0 2,L 7 6,F 8 0 3,L 9 8,B 10 .neq 7 9,M 11 10,G 12 11 false (.fadr 1 (.s 2)),G 13 11 false (.ld false 1 (.s 12)),G 14 11 false (.fadr 1 (.s 3)),G 15 11 false (.ld false 1 (.s 14)),G 16 11 false (.bin .neq (.s 13) (.s 15)),I 17 (.pick (.s 11) (.v (.bool true)) (.s 16)),M 18 17,G 19 18 false (.fadr 2 (.s 2)),G 20 18 false (.ld true 3 (.s 19)),G 21 18 false (.fadr 2 (.s 3)),G 22 18 false (.ld true 3 (.s 21)),G 23 18 false (.eqs true 0 [(0,0),(1,0),(2,0)] (.s 20) (.s 22)),I 24 (.pick (.s 18) (.v (.bool true)) (.s 23)),M 25 24,G 26 25 false (.fadr 5 (.s 2)),G 27 25 false (.ld false 1 (.s 26)),G 28 25 false (.fadr 5 (.s 3)),G 29 25 false (.ld false 1 (.s 28)),G 30 25 false (.bin .neq (.s 27) (.s 29)),I 31 (.pick (.s 25) (.v (.bool true)) (.s 30)),M 32 31,G 33 32 false (.fadr 6 (.s 2)),G 34 32 false (.ld false 1 (.s 33)),G 35 32 false (.len 1 (.s 34)),G 36 32 false (.fadr 6 (.s 3)),G 37 32 false (.ld false 1 (.s 36)),G 38 32 false (.len 1 (.s 37)),G 39 32 false (.bin .neq (.s 35) (.s 38)),I 40 (.pick (.s 32) (.v (.bool true)) (.s 39))]
def ZOu:=R [4] [I 4 (.mv (.v (.bool false)))]
def ZOv:=R [2,3,5] [K 5 0]
def ZOw:=R [2,3,5,45] [M 41 5,F 42 6 2,L 43 42,I 44 (.len 1 (.s 43)),B 45 .lss 41 44]
def ZOx:=R [2,3,5,59] [F 48 6 2,L 49 48,M 50 5,I 51 (.ixS 7 (.s 49) (.s 50)),T 52 7 51,F 53 6 3,L 54 53,M 55 5,I 56 (.ixS 7 (.s 54) (.s 55)),T 57 7 56,I 58 (C QH [(.s 52),(.s 57)]),I 59 (.un .not (.s 58))]
def ZOy:=R [4] [I 4 (.mv (.v (.bool false)))]
def ZOz:=R [2,3,5] [M 46 5,W 47 .add 46 1,M 5 47]
def p_quartoref15_Same_8:PC:=(D (D ZOw
 (E 45
 .skip
 (.exit 0)))
 (D (.block 1
 (D ZOx
 (E 59
 (D ZOy
 .ret)
 .skip)))
 ZOz))
def ZO0:=R [4] [I 4 (.mv (.v (.bool true)))]
def ZEb:PF:=⟨false,
 (D ZOs
 (D (D ZOt
 (E 40
 (D ZOu
 .ret)
 .skip))
 (D (D ZOv
 (.block 0
 (.loop p_quartoref15_Same_8)))
 (D ZO0
 .ret)))),
 [.s 4]⟩
theorem ZTv:ck0 false [] ZEb Tryz.f69=some ZEb:=by kernel_rfl
def ZdQ:=R [0,2] [I 2 (.box (.v ZT)),K 3 0]
def ZdR:=R [0,2,14] [M 12 0,I 13 (.len 0 (.s 12)),W 14 .gtr 13 65536]
def ZdS:=R [2,3] [I 15 (.build [(.int .u64 0),(.int .i64 0),(.int .i64 0),(.int .i64 0),(.int .i64 0),(.str []),.nils] []),N 7 2 15,K 3 5]
def ZdT:=R [0,2,4] [I 4 (.onil 7)]
def ZdU:=R [2,4,17,18,19] [M 16 0,I 17 (C ZDL [(.s 16)]),I 18 (.len 1 (.s 17)),K 19 0]
def ZdV:=R [2,4,17,18,19,20] [B 20 .lss 19 18]
def ZdW:=R [2,4,6,17,18,19] [I 21 (.ixS 1 (.s 17) (.s 19)),L 22 21,M 6 22]
def ZdX:=R [2,4,17,18,19] [M 23 4,M 24 6,I 25 (.build [(.int .u64 0),(.int .i64 0),(.int .i64 0),(.int .i64 0),(.int .i64 0),(.str []),.nils] [(5,1,(.s 24))]),I 26 (.bslice false 7 [ZT] [(0,(.s 25))]),I 27 (.app 7 80 (.s 23) (.s 26)),M 4 27]
def ZdY:=R [2,4,17,18,19] [W 28 .add 19 1,M 19 28]
def ZdZ:PC:=(D ZdV
 (D (E 20
 .skip
 (.exit 0))
 (D (.block 1
 (D ZdW
 ZdX))
 ZdY)))
def ZZe:=R [2,4,31] [M 29 4,I 30 (.len 1 (.s 29)),W 31 .gtr 30 1]
def ZZf:=R [2,4,7,8] [M 33 4,I 34 (.len 1 (.s 33)),I 35 (C ZIk [(.s 34),(V 4)]),M 32 35,X 36 32 0,X 37 32 1,M 7 36,M 8 37]
def ZZg:=R [2,4,7,8,39] [M 38 8,W 39 .neq 38 0]
def ZZh:=R [2,3] [I 40 (.build [(.int .u64 0),(.int .i64 0),(.int .i64 0),(.int .i64 0),(.int .i64 0),(.str []),.nils] []),M 41 8,N 7 2 40,M 3 41]
def ZZi:=R [2,4,7,9] [I 9 (.onil 7)]
def ZZj:=R [2,4,9,42,43,44] [M 42 7,I 43 (.len 1 (.s 42)),K 44 0]
def ZZk:=R [2,4,9,42,43,44,45] [B 45 .lss 44 43]
def ZZl:=R [2,4,9,11,42,43,44] [I 46 (.ixS 1 (.s 42) (.s 44)),L 47 46,M 11 47]
def ZZm:=R [2,4,9,11,42,43,44] [M 48 9,M 49 4,M 50 11,I 51 (.slc 7 (.s 49) none (some (.s 50))),I 52 (C QJ [(.s 51)]),I 53 (.bslice false 7 [ZT] [(0,(.s 52))]),I 54 (.app 7 80 (.s 48) (.s 53)),M 9 54]
def ZZn:=R [2,4,9,42,43,44] [M 55 4,M 56 11,I 57 (.slc 7 (.s 55) (some (.s 56)) none),M 4 57]
def ZZo:=R [2,4,9,42,43,44] [W 58 .add 44 1,M 44 58]
def ZZp:PC:=(D ZZk
 (D (E 45
 .skip
 (.exit 4))
 (D (.block 5
 (D ZZl
 (D ZZm
 ZZn)))
 ZZo)))
def ZZq:=R [2,4] [M 59 9,M 4 59]
def ZLF:PC:=(D (D ZZe
 (E 31
 .skip
 (.exit 2)))
 (.block 3
 (D ZZf
 (D (D ZZg
 (E 39
 (D ZZh
 .ret)
 .skip))
 (D ZZi
 (D (D ZZj
 (.block 4
 (.loop ZZp)))
 ZZq))))))
def ZLG:=R [2,3] [M 60 4,I 61 (C QJ [(.s 60)]),N 7 2 61,K 3 0]
def ZVg:PF:=⟨false,
 (D ZdQ
 (D (D ZdR
 (E 14
 (D ZdS
 .ret)
 .skip))
 (D ZdT
 (D (D ZdU
 (.block 0
 (.loop ZdZ)))
 (D (.block 2
 (.loop ZLF))
 (D ZLG
 .ret)))))),
 [.c 2 true 7,.s 3]⟩
theorem ZkB:ck0 false [(3,⟨[0,2,4],[0],[],[],[],[]⟩),(13,⟨[2,4,7,9],[0],[],[],[],[]⟩)] ZVg Tryz.f78=some ZVg:=by kernel_rfl
def ZRo:=R [0,1] [I 4 (.mv (.v .nilptr)),K 5 0]
def ZRp:=R [6,7] [M 9 0,M 10 1,I 11 (C ZAh [(.s 9),(.s 10)]),M 8 11,X 12 8 0,X 13 8 1,M 6 12,M 7 13]
def ZRq:=R [6,7,15] [M 14 7,W 15 .neq 14 0]
def ZRr:=R [4,5] [M 16 7,I 4 (.mv (.v .nilptr)),M 5 16]
def ZRs:=R [4,5] [M 17 6,I 18 (.build [.nilptr,.nils,(.int .i64 0),(.int .i64 0),(.int .i64 0),(.int .i64 0),(.int .i64 0),(.int .i64 0),(.int .i64 0)] [(0,1,(.s 17))]),I 19 (.box (.s 18)),M 4 19,K 5 0]
def ZGA:PF:=⟨true,
 (D ZRo
 (D ZRp
 (D (D ZRq
 (E 15
 (D ZRr
 .ret)
 .skip))
 (D ZRs
 .ret)))),
 [.s 4,.s 5]⟩
theorem ZVi:ck0 true [] ZGA Tryz.f79=some ZGA:=by kernel_rfl
def ZLi:=R [0,2] [I 2 (.box (.v ZT))]
def ZLj:=R [0,2,3] [I 3 (.onil 7)]
def ZLk:=R [2,3,4] [M 9 0,I 10 (C XT [(.s 9)]),M 4 10]
def ZLl:=R [2,3,4,5] [K 5 0]
def ZLm:=R [2,3,4,5,14] [M 11 5,M 12 4,I 13 (.len 1 (.s 12)),B 14 .lss 11 13]
def ZLn:=R [2,3,4,5] [M 17 3,M 18 4,M 19 5,I 20 (.ixS 1 (.s 18) (.s 19)),L 21 20,I 22 (C JM [(.s 21)]),I 23 (.bslice false 7 [ZT] [(0,(.s 22))]),I 24 (.app 7 80 (.s 17) (.s 23)),M 3 24]
def ZLo:=R [2,3,4,5] [M 15 5,W 16 .add 15 1,M 5 16]
def ZLp:PC:=(D (D ZLm
 (E 14
 .skip
 (.exit 0)))
 (D (.block 1
 ZLn)
 ZLo))
def ZLq:=R [2,3,27] [M 25 3,I 26 (.len 1 (.s 25)),W 27 .gtr 26 1]
def ZLr:=R [2,3,6] [I 6 (.onil 7)]
def ZIq:=R [2,3,6,7] [M 28 3,I 29 (.len 1 (.s 28)),I 30 (C YP [(.s 29),(V 4)]),M 7 30]
def ZIr:=R [2,3,6,7,8] [K 8 0]
def ZIs:=R [2,3,6,7,8,34] [M 31 8,M 32 7,I 33 (.len 1 (.s 32)),B 34 .lss 31 33]
def ZIt:=R [2,3,6,7,8] [M 37 6,M 38 3,M 39 7,M 40 8,I 41 (.ixS 1 (.s 39) (.s 40)),L 42 41,I 43 (.slc 7 (.s 38) none (some (.s 42))),I 44 (C Qd [(.s 43)]),I 45 (.bslice false 7 [ZT] [(0,(.s 44))]),I 46 (.app 7 80 (.s 37) (.s 45)),M 6 46]
def ZIu:=R [2,3,6,7,8] [M 47 3,M 48 7,M 49 8,I 50 (.ixS 1 (.s 48) (.s 49)),L 51 50,I 52 (.slc 7 (.s 47) (some (.s 51)) none),M 3 52]
def ZIv:=R [2,3,6,7,8] [M 35 8,W 36 .add 35 1,M 8 36]
def ZIw:PC:=(D (D ZIs
 (E 34
 .skip
 (.exit 4)))
 (D (.block 5
 (D ZIt
 ZIu))
 ZIv))
def ZIx:=R [2,3] [M 53 6,M 3 53]
def ZAm:PC:=(D (D ZLq
 (E 27
 .skip
 (.exit 2)))
 (.block 3
 (D ZLr
 (D ZIq
 (D (D ZIr
 (.block 4
 (.loop ZIw)))
 ZIx)))))
def ZAn:=R [2] [M 54 3,I 55 (C Z3 [(.s 54)]),N 7 2 55]
def ZBz:PF:=⟨false,
 (D ZLi
 (D ZLj
 (D ZLk
 (D (D ZLl
 (.block 0
 (.loop ZLp)))
 (D (.block 2
 (.loop ZAm))
 (D ZAn
 .ret)))))),
 [.c 2 true 7]⟩
theorem ZRu:ck0 false [(1,⟨[0,2,3],[0],[],[],[],[]⟩),(8,⟨[2,3,6],[0],[],[],[],[]⟩)] ZBz Tryz.f80=some ZBz:=by kernel_rfl
def ZLs:=R [0,3,4] [I 3 (.box (.s 1)),I 4 (.box (.v ZR)),K 5 0]
def ZLt:=R [0,3,4,14] [T 13 7 3,I 14 (C Zy [(.s 13)])]
def ZLu:=R [4,5] [I 15 (.build [(.int .u64 0),(.int .i64 0),(.int .i64 0),(.int .i64 0),(.int .i64 0)] []),N 5 4 15,K 5 0]
def ZLv:=R [0,3,4,18] [F 16 0 3,L 17 16,I 18 (.bin .neq (.s 17) (.v (.int .u64 0)))]
def ZLw:=R [4,5] [F 19 0 3,L 20 19,F 21 1 3,L 22 21,F 23 2 3,T 24 3 23,I 25 (.build [(.int .u64 0),(.int .i64 0),(.int .i64 0),(.int .i64 0),(.int .i64 0)] [(0,1,(.s 20)),(1,1,(.s 22)),(2,3,(.s 24))]),N 5 4 25,K 5 0]
def ZLx:=R [0,3,4,6] [F 26 1 3,L 27 26,F 28 5 3,L 29 28,I 30 (.build [(.int .i64 0),(.str []),.nils] [(0,1,(.s 27)),(1,1,(.s 29))]),I 6 (.box (.v ZN)),N 3 6 30]
def ZLy:=R [0,3,4,6,7] [F 31 5 3,L 32 31,I 33 (C Y8 [(.s 32)]),I 7 (.box (.v ZM)),N 3 7 33]
def ZLz:=R [0,3,4,6,7,8] [K 8 0]
def ZL0:=R [0,3,4,6,7,8,38] [M 34 8,F 35 6 3,L 36 35,I 37 (.len 1 (.s 36)),B 38 .lss 34 37]
def ZL1:=R [0,3,4,6,7,8,9,10] [M 42 0,F 43 6 3,L 44 43,M 45 8,I 46 (.ixS 7 (.s 44) (.s 45)),T 47 7 46,I 48 (C Z2 [(.s 42),(.s 47)]),M 41 48,X 49 41 0,X 50 41 1,I 9 (.box (.v ZR)),N 5 9 49,M 10 50]
def ZIy:=R [0,3,4,6,7,8,9,10,52] [M 51 10,W 52 .neq 51 0]
def ZIz:=R [4,5] [I 53 (.build [(.int .u64 0),(.int .i64 0),(.int .i64 0),(.int .i64 0),(.int .i64 0)] []),M 54 10,N 5 4 53,M 5 54]
def ZI0:=R [0,3,4,6,7,8,9] [F 55 2 6,L 56 55,F 57 0 9,L 58 57,F 59 2 9,T 60 3 59,I 61 (.build [(.int .u64 0),(.int .i64 0),(.int .i64 0),(.int .i64 0)] [(0,1,(.s 58)),(1,3,(.s 60))]),I 62 (.bslice false 4 [ZK] [(0,(.s 61))]),I 63 (.app 4 32 (.s 56) (.s 62)),F 64 2 6,N 1 64 63]
def ZAo:=R [0,3,4,6,7,8] [F 65 0 7,L 66 65,F 67 2 9,F 68 0 67,L 69 68,B 70 .add 66 69,F 71 1 7,L 72 71,F 73 2 9,F 74 1 73,I 75 (.w (.hide [(.s 7)]) (.ld false 1 (.s 74))),B 76 .add 72 75,F 77 2 7,L 78 77,F 79 2 9,F 80 2 79,I 81 (.w (.hide [(.s 7)]) (.ld false 1 (.s 80))),B 82 .add 78 81,F 83 0 7,J (.w (.plain (.s 7)) (.st 1 (.s 83) (.s 70))),F 84 1 7,J (.w (.plain (.s 7)) (.st 1 (.s 84) (.s 76))),F 85 2 7,N 1 85 82]
def ZI1:=R [0,3,4,6,7,8] [M 39 8,W 40 .add 39 1,M 8 40]
def ZI2:PC:=(D (D ZL0
 (E 38
 .skip
 (.exit 0)))
 (D (.block 1
 (D ZL1
 (D (D ZIy
 (E 52
 (D ZIz
 .ret)
 .skip))
 (D ZI0
 ZAo))))
 ZI1))
def ZI3:=R [3,4,7,11,12] [M 87 0,T 88 3 6,I 89 (.call .norm (.s 87) [(.s 88)]),M 86 89,X 90 86 0,X 91 86 1,M 11 90,M 12 91]
def ZI4:=R [3,4,7,11,12,93] [M 92 12,W 93 .neq 92 0]
def ZI5:=R [4,5] [I 94 (.build [(.int .u64 0),(.int .i64 0),(.int .i64 0),(.int .i64 0),(.int .i64 0)] []),M 95 12,N 5 4 94,M 5 95]
def ZI6:=R [4,5] [M 96 11,F 97 1 3,L 98 97,T 99 3 7,I 100 (.build [(.int .u64 0),(.int .i64 0),(.int .i64 0),(.int .i64 0),(.int .i64 0)] [(0,1,(.s 96)),(1,1,(.s 98)),(2,3,(.s 99))]),N 5 4 100,K 5 0]
def ZB0:PF:=⟨true,
 (D ZLs
 (D (D ZLt
 (E 14
 (D ZLu
 .ret)
 .skip))
 (D (D ZLv
 (E 18
 (D ZLw
 .ret)
 .skip))
 (D ZLx
 (D ZLy
 (D (D ZLz
 (.block 0
 (.loop ZI2)))
 (D ZI3
 (D (D ZI4
 (E 93
 (D ZI5
 .ret)
 .skip))
 (D ZI6
 .ret))))))))),
 [.c 4 true 5,.s 5]⟩
theorem ZRw:ck0 true [(13,⟨[0,3,4,6,7,8],[],[],[],[(21,(.plain (.s 7))),(16,(.hide [(.s 7)])),(19,(.plain (.s 7))),(10,(.hide [(.s 7)]))],[]⟩)] ZB0 Tryz.f81=some ZB0:=by kernel_rfl
def ZL2:=R [0,3] [I 3 (.box (.s 1)),I 4 (.mv (.v (.int .u64 0))),K 5 0]
def ZL3:=R [0,3,16] [M 15 0,I 16 (.eqs false 3 [] (.s 15) (.v .nilptr))]
def ZL4:=R [4,5] [I 4 (.mv (.v (.int .u64 0))),K 5 1]
def ZL5:=R [0,3,6] [T 17 3 3,I 18 (C ZAi [(.s 17)]),M 6 18]
def ZL6:=R [0,3,6,20] [M 19 6,W 20 .neq 19 0]
def ZL7:=R [4,5] [M 21 6,I 4 (.mv (.v (.int .u64 0))),M 5 21]
def ZL8:=R [0,3,23,24,25] [F 22 2 3,L 23 22,I 24 (.len 1 (.s 23)),K 25 0]
def ZL9:=R [0,3,23,24,25,26] [B 26 .lss 25 24]
def ZMA:=R [0,3,8,23,24,25] [I 27 (.ixS 4 (.s 23) (.s 25)),T 28 4 27,I 8 (.box (.v ZK)),N 4 8 28]
def ZMB:=R [0,3,8,9,10,23,24,25] [M 30 0,I 31 (.nilck (.s 30)),F 32 2 31,L 33 32,F 34 0 8,L 35 34,I 36 (.look 0 ZN true (.s 33) (.s 35)),M 29 36,X 37 29 0,X 38 29 1,I 9 (.box (.v ZN)),N 3 9 37,M 10 38]
def ZI7:=R [0,3,8,9,23,24,25,40] [M 39 10,I 40 (.un .not (.s 39))]
def ZI8:=R [4,5] [I 4 (.mv (.v (.int .u64 0))),K 5 10]
def ZI9:=R [0,3,8,9,11,12,23,24,25] [T 42 3 9,I 43 (C ZAj [(.s 42)]),M 41 43,X 44 41 0,X 45 41 1,I 11 (.box (.v ZM)),N 3 11 44,M 12 45]
def ZJA:=R [0,3,23,24,25,61] [M 46 12,W 47 .neq 46 0,M 48 47,G 49 48 false (.fadr 0 (.s 9)),G 50 48 false (.ld false 1 (.s 49)),G 51 48 false (.fadr 0 (.s 3)),G 52 48 false (.ld false 1 (.s 51)),G 53 48 false (.bin .sub (.s 52) (V 1)),G 54 48 false (.bin .neq (.s 50) (.s 53)),I 55 (.pick (.s 48) (.v (.bool true)) (.s 54)),M 56 55,G 57 56 false (.ld true 3 (.s 11)),G 58 56 false (.fadr 1 (.s 8)),G 59 56 false (.ld true 3 (.s 58)),G 60 56 false (.eqs true 0 [(0,0),(1,0),(2,0)] (.s 57) (.s 59)),I 61 (.pick (.s 56) (.v (.bool true)) (.s 60))]
def ZJB:=R [4,5] [I 4 (.mv (.v (.int .u64 0))),K 5 23]
def ZJC:=R [0,3,23,24,25] [W 62 .add 25 1,M 25 62]
def ZJD:PC:=(D ZL9
 (D (E 26
 .skip
 (.exit 0))
 (D (.block 1
 (D ZMA
 (D ZMB
 (D (D ZI7
 (E 40
 (D ZI8
 .ret)
 .skip))
 (D ZI9
 (D ZJA
 (E 61
 (D ZJB
 .ret)
 .skip)))))))
 ZJC)))
def ZJE:=R [0,3,13,14] [M 64 0,I 65 (.nilck (.s 64)),F 66 1 65,L 67 66,I 68 (C XU [(.s 67)]),M 63 68,X 69 63 0,X 70 63 1,M 13 69,M 14 70]
def ZJF:=R [0,3,13,14,72] [M 71 14,W 72 .neq 71 0]
def ZJG:=R [4,5] [M 73 14,I 4 (.mv (.v (.int .u64 0))),M 5 73]
def ZAp:=R [0,3,13] [F 74 2 3,L 75 74,I 76 (C Zu [(.s 75)]),F 77 2 3,N 1 77 76]
def ZAq:=R [0,13] [M 78 0,I 79 (.nilck (.s 78)),F 80 2 79,L 81 80,M 82 13,T 83 3 3,J (.mupd 0 (.s 81) (.s 82) (.s 83))]
def ZAr:=R [13] [M 84 0,I 85 (.nilck (.s 84)),F 86 3 85,L 87 86,W 88 .add 87 1,I 89 (.nilck (.s 84)),F 90 3 89,N 1 90 88]
def ZAs:=R [4,5] [M 91 13,M 4 91,K 5 0]
def ZB1:PF:=⟨false,
 (D ZL2
 (D (D ZL3
 (E 16
 (D ZL4
 .ret)
 .skip))
 (D (D ZL5
 (D ZL6
 (E 20
 (D ZL7
 .ret)
 .skip)))
 (D (D ZL8
 (.block 0
 (.loop ZJD)))
 (D ZJE
 (D (D ZJF
 (E 72
 (D ZJG
 .ret)
 .skip))
 (D ZAp
 (D ZAq
 (D ZAr
 (D ZAs
 .ret)))))))))),
 [.s 4,.s 5]⟩
theorem ZRy:ck0 false [] ZB1 Tryz.f82=some ZB1:=by kernel_rfl
def ZCZ:=R [0,3] [I 3 (.box (.s 1)),I 4 (.mv (.v (.int .u64 0))),K 5 0]
def ZCa:=R [0,3,11] [M 10 0,I 11 (.eqs false 3 [] (.s 10) (.v .nilptr))]
def ZCb:=R [4,5] [I 4 (.mv (.v (.int .u64 0))),K 5 1]
def ZCc:=R [0,3,6] [T 12 3 3,I 13 (C Jl [(.s 12)]),M 6 13]
def ZCd:=R [0,3,6,15] [M 14 6,W 15 .neq 14 0]
def ZCe:=R [4,5] [M 16 6,I 4 (.mv (.v (.int .u64 0))),M 5 16]
def ZCf:=R [0,3,7] [M 17 0,T 18 3 3,I 19 (C JS [(.s 17),(.s 18)]),M 7 19]
def ZCg:=R [0,3,7,21] [M 20 7,W 21 .neq 20 0]
def ZCh:=R [4,5] [M 22 7,I 4 (.mv (.v (.int .u64 0))),M 5 22]
def XG:=R [0,3,8,9] [M 24 0,I 25 (.nilck (.s 24)),F 26 0 25,L 27 26,I 28 (C YZ [(.s 27)]),M 23 28,X 29 23 0,X 30 23 1,M 8 29,M 9 30]
def Yx:=R [0,3,8,9,32] [M 31 9,W 32 .neq 31 0]
def Yy:=R [4,5] [M 33 9,I 4 (.mv (.v (.int .u64 0))),M 5 33]
def Yz:=R [0,8] [M 34 0,M 35 0,I 36 (.nilck (.s 35)),F 37 1 36,L 38 37,M 39 8,T 40 3 3,I 41 (.call .pure (.v (.func (.func QT) [] [])) [(.s 40)]),I 42 (.build [(.int .u64 0),(.int .i64 0),(.str []),.nils] [(0,1,(.s 39)),(1,3,(.s 41))]),I 43 (.w .imm (.bslice false 4 [(.agg [(.int .u64 0),(.int .i64 0),(.str []),.nils])] [(0,(.s 42))])),I 44 (.app 4 56 (.s 38) (.s 43)),I 45 (.nilck (.s 34)),F 46 1 45,N 1 46 44]
def Y0:=R [8] [M 47 0,I 48 (.nilck (.s 47)),F 49 2 48,F 50 4 49,L 51 50,W 52 .add 51 1,I 53 (.nilck (.s 47)),F 54 2 53,F 55 4 54,N 1 55 52]
def Y1:=R [4,5] [M 56 8,M 4 56,K 5 0]
def Xl:PF:=⟨true,
 (D ZCZ
 (D (D ZCa
 (E 11
 (D ZCb
 .ret)
 .skip))
 (D (D ZCc
 (D ZCd
 (E 15
 (D ZCe
 .ret)
 .skip)))
 (D (D ZCf
 (D ZCg
 (E 21
 (D ZCh
 .ret)
 .skip)))
 (D XG
 (D (D Yx
 (E 32
 (D Yy
 .ret)
 .skip))
 (D Yz
 (D Y0
 (D Y1
 .ret))))))))),
 [.s 4,.s 5]⟩
theorem ZFe:ck0 true [(12,⟨[0,8],[],[(7,.pure)],[],[(9,.imm)],[]⟩)] Xl Tryz.f83=some Xl:=by kernel_rfl
def ZO1:=R [0,1] [K 4 0]
def ZO2:=R [4] [M 5 0,I 6 (.cint .u64 (.s 5)),M 7 1,W 8 .add 7 1,I 9 (.cint .u64 (.s 8)),B 10 .rem 6 9,I 11 (.cint .i64 (.s 10)),M 4 11]
def ZEc:PF:=⟨false,
 (D ZO1
 (D ZO2
 .ret)),
 [.s 4]⟩
theorem ZTx:ck0 false [] ZEc Tryz.f84=some ZEc:=by kernel_rfl
def ZgZ:=R [0,3,4] [I 3 (.box (.s 1)),I 4 (.box (.v ZT)),K 5 0]
def Zga:=R [0,3,4,8] [M 7 0,I 8 (.eqs false 3 [] (.s 7) (.v .nilptr))]
def Zgb:=R [4,5] [I 9 (.build [(.int .u64 0),(.int .i64 0),(.int .i64 0),(.int .i64 0),(.int .i64 0),(.str []),.nils] []),N 7 4 9,K 5 1]
def Zgc:=R [0,3,4,12] [T 10 5 3,I 11 (.build [(.int .u64 0),(.int .i64 0),(.int .i64 0),(.int .i64 0),(.int .i64 0)] []),I 12 (.eqs false 0 [(0,0),(1,0),(2,0),(3,0),(4,0)] (.s 10) (.s 11))]
def Zgd:=R [4,5] [I 13 (.build [(.int .u64 0),(.int .i64 0),(.int .i64 0),(.int .i64 0),(.int .i64 0),(.str []),.nils] []),N 7 4 13,K 5 0]
def Zge:=R [0,3,4,16] [F 14 0 3,L 15 14,I 16 (.bin .eql (.s 15) (.v (.int .u64 0)))]
def Zgf:=R [4,5] [I 17 (.build [(.int .u64 0),(.int .i64 0),(.int .i64 0),(.int .i64 0),(.int .i64 0),(.str []),.nils] []),N 7 4 17,K 5 2]
def Zgg:=R [3,4,6] [M 18 0,F 19 0 3,L 20 19,F 21 1 3,L 22 21,F 23 2 3,T 24 3 23,I 25 (C ZF6 [(.s 18),(.s 20),(.s 22),(.s 24)]),M 6 25]
def Zgh:=R [3,4,6,27] [M 26 6,W 27 .neq 26 0]
def Zgi:=R [4,5] [I 28 (.build [(.int .u64 0),(.int .i64 0),(.int .i64 0),(.int .i64 0),(.int .i64 0),(.str []),.nils] []),M 29 6,N 7 4 28,M 5 29]
def Zda:=R [4,5] [F 30 0 3,L 31 30,F 32 1 3,L 33 32,F 34 2 3,T 35 3 34,I 36 (.build [(.int .u64 0),(.int .i64 0),(.int .i64 0),(.int .i64 0),(.int .i64 0),(.str []),.nils] [(0,1,(.s 31)),(1,1,(.s 33)),(2,3,(.s 35))]),N 7 4 36,K 5 0]
def ZZM:PF:=⟨false,
 (D ZgZ
 (D (D Zga
 (E 8
 (D Zgb
 .ret)
 .skip))
 (D (D Zgc
 (E 12
 (D Zgd
 .ret)
 .skip))
 (D (D Zge
 (E 16
 (D Zgf
 .ret)
 .skip))
 (D (D Zgg
 (D Zgh
 (E 27
 (D Zgi
 .ret)
 .skip)))
 (D Zda
 .ret)))))),
 [.c 4 true 7,.s 5]⟩
theorem Zmy:ck0 false [] ZZM Tryz.f85=some ZZM:=by kernel_rfl
def ZO3:=R [0,3,4] [I 3 (.box (.s 1)),I 4 (.box (.v ZT)),K 5 0]
def ZO4:=R [0,3,4,8] [M 7 0,I 8 (.eqs false 3 [] (.s 7) (.v .nilptr))]
def ZO5:=R [4,5] [I 9 (.build [(.int .u64 0),(.int .i64 0),(.int .i64 0),(.int .i64 0),(.int .i64 0),(.str []),.nils] []),N 7 4 9,K 5 1]
def ZO6:=R [3,4,6] [M 10 0,T 11 5 3,I 12 (C Yo [(.s 10),(.s 11)]),M 6 12]
def ZO7:=R [3,4,6,14] [M 13 6,W 14 .neq 13 0]
def ZO8:=R [4,5] [I 15 (.build [(.int .u64 0),(.int .i64 0),(.int .i64 0),(.int .i64 0),(.int .i64 0),(.str []),.nils] []),M 16 6,N 7 4 15,M 5 16]
def ZO9:=R [4,5] [T 17 5 3,I 18 (C YO [(.s 17)]),N 7 4 18,K 5 0]
def ZEd:PF:=⟨false,
 (D ZO3
 (D (D ZO4
 (E 8
 (D ZO5
 .ret)
 .skip))
 (D ZO6
 (D (D ZO7
 (E 14
 (D ZO8
 .ret)
 .skip))
 (D ZO9
 .ret))))),
 [.c 4 true 7,.s 5]⟩
theorem ZTz:ck0 false [] ZEd Tryz.f86=some ZEd:=by kernel_rfl
def ZMC:=R [1] [I 1 (.box (.s 0)),K 2 0]
def ZMD:=R [1,7] [F 5 0 1,L 6 5,I 7 (.bin .neq (.s 6) (.v (.int .u64 0)))]
def ZME:=R [2] [F 8 2 1,F 9 0 8,L 10 9,M 2 10]
def ZMF:=R [1,3] [F 11 5 1,L 12 11,I 13 (.len 0 (.s 12)),M 3 13]
def ZMG:=R [1,3,4] [K 4 0]
def ZMH:=R [1,3,4,18] [M 14 4,F 15 6 1,L 16 15,I 17 (.len 1 (.s 16)),B 18 .lss 14 17]
def ZMI:=R [1,3,4] [M 21 3,F 22 6 1,L 23 22,M 24 4,I 25 (.ixS 7 (.s 23) (.s 24)),T 26 7 25,I 27 (C Zl [(.s 26)]),B 28 .add 21 27,M 3 28]
def ZMJ:=R [1,3,4] [M 19 4,W 20 .add 19 1,M 4 20]
def ZMK:PC:=(D (D ZMH
 (E 18
 .skip
 (.exit 0)))
 (D (.block 1
 ZMI)
 ZMJ))
def ZML:=R [2] [M 29 3,M 2 29]
def ZB2:PF:=⟨false,
 (D ZMC
 (D (D ZMD
 (E 7
 (D ZME
 .ret)
 .skip))
 (D ZMF
 (D (D ZMG
 (.block 0
 (.loop ZMK)))
 (D ZML
 .ret))))),
 [.s 2]⟩
theorem ZR0:ck0 false [] ZB2 Tryz.f87=some ZB2:=by kernel_rfl
def ZZr:=R [0,4,5,6] [I 4 (.box (.s 1)),I 5 (.box (.s 2)),I 6 (.box (.v ZT)),K 7 0]
def ZZs:=R [0,4,5,6,8] [M 11 0,T 12 7 4,T 13 7 5,I 14 (C ZBb [(.s 11),(.s 12),(.s 13),(.v (.bool true))]),M 8 14]
def ZZt:=R [0,4,5,6,8,16] [M 15 8,W 16 .neq 15 0]
def ZZu:=R [6,7] [I 17 (.build [(.int .u64 0),(.int .i64 0),(.int .i64 0),(.int .i64 0),(.int .i64 0),(.str []),.nils] []),M 18 8,N 7 6 17,M 7 18]
def ZZv:=R [6,9,10] [M 20 0,T 21 7 4,T 22 7 5,I 23 (C YI [(.s 20),(.s 21),(.s 22)]),M 19 23,X 24 19 0,X 25 19 1,I 9 (.box (.v ZT)),N 7 9 24,M 10 25]
def ZZw:=R [6,7] [T 26 7 9,I 27 (C Yp [(.s 26)]),M 28 10,N 7 6 27,M 7 28]
def ZTG:PF:=⟨false,
 (D ZZr
 (D (D ZZs
 (D ZZt
 (E 16
 (D ZZu
 .ret)
 .skip)))
 (D ZZv
 (D ZZw
 .ret)))),
 [.c 6 true 7,.s 7]⟩
theorem Zgk:ck0 false [] ZTG Tryz.f88=some ZTG:=by kernel_rfl
def ZJH:=R [0,4,5,6] [I 4 (.box (.s 1)),I 5 (.box (.s 2)),I 6 (.box (.v ZT)),K 7 0]
def ZJI:=R [0,4,5,6,8] [M 9 0,T 10 7 4,T 11 7 5,I 12 (C Yq [(.s 9),(.s 10),(.s 11)]),M 8 12]
def ZJJ:=R [0,4,5,6,8,14] [M 13 8,W 14 .neq 13 0]
def ZJK:=R [6,7] [I 15 (.build [(.int .u64 0),(.int .i64 0),(.int .i64 0),(.int .i64 0),(.int .i64 0),(.str []),.nils] []),M 16 8,N 7 6 15,M 7 16]
def ZJL:=R [0,4,5,6,22] [T 17 7 4,I 18 (.call .pure (.v (.func (.func Zl) [] [])) [(.s 17)]),T 19 7 5,I 20 (C Zl [(.s 19)]),B 21 .add 18 20,W 22 .gtr 21 65536]
def ZJM:=R [6,7] [I 23 (.build [(.int .u64 0),(.int .i64 0),(.int .i64 0),(.int .i64 0),(.int .i64 0),(.str []),.nils] []),N 7 6 23,K 7 5]
def ZJN:=R [6,7] [M 24 0,T 25 7 4,T 26 7 5,I 27 (C Qh [(.s 24),(.s 25),(.s 26)]),N 7 6 27,K 7 0]
def ZBc:PF:=⟨false,
 (D ZJH
 (D ZJI
 (D (D ZJJ
 (E 14
 (D ZJK
 .ret)
 .skip))
 (D (D ZJL
 (E 22
 (D ZJM
 .ret)
 .skip))
 (D ZJN
 .ret))))),
 [.c 6 true 7,.s 7]⟩
theorem ZPB:ck0 false [(4,⟨[0,4,5,6,22],[],[(1,.pure)],[],[],[]⟩)] ZBc Tryz.f89=some ZBc:=by kernel_rfl
def Zdb:=R [0,4,5] [I 4 (.box (.s 1)),I 5 (.box (.s 2)),I 6 (.mv (.v .nils)),K 7 0]
def Zdc:=R [0,4,5,8] [M 11 0,T 12 7 4,T 13 7 5,I 14 (C ZBb [(.s 11),(.s 12),(.s 13),(.v (.bool false))]),M 8 14]
def Zdd:=R [0,4,5,8,16] [M 15 8,W 16 .neq 15 0]
def Zde:=R [6,7] [M 17 8,I 6 (.mv (.v .nils)),M 7 17]
def Zdf:=R [9,10] [M 19 0,T 20 7 4,T 21 7 5,I 22 (C Xf [(.s 19),(.s 20),(.s 21)]),M 18 22,X 23 18 0,X 24 18 1,M 9 23,M 10 24]
def Zdg:=R [6,7] [M 25 9,I 26 (C ZTm [(.s 25)]),M 27 10,M 6 26,M 7 27]
def ZVj:PF:=⟨false,
 (D Zdb
 (D (D Zdc
 (D Zdd
 (E 16
 (D Zde
 .ret)
 .skip)))
 (D Zdf
 (D Zdg
 .ret)))),
 [.s 6,.s 7]⟩
theorem ZkD:ck0 false [] ZVj Tryz.f90=some ZVj:=by kernel_rfl
def ZMM:=R [0,4,5] [I 4 (.box (.s 1)),I 5 (.box (.s 2)),I 6 (.mv (.v .nils)),K 7 0]
def ZMN:=R [0,4,5,8] [M 9 0,T 10 7 4,T 11 7 5,I 12 (C Yq [(.s 9),(.s 10),(.s 11)]),M 8 12]
def ZMO:=R [0,4,5,8,14] [M 13 8,W 14 .neq 13 0]
def ZMP:=R [6,7] [M 15 8,I 6 (.mv (.v .nils)),M 7 15]
def ZMQ:=R [0,4,5,21] [T 16 7 4,I 17 (C Zy [(.s 16)]),M 18 17,G 19 18 false (.ld true 7 (.s 5)),G 20 18 false (C Zy [(.s 19)]),I 21 (.pick (.s 18) (.v (.bool true)) (.s 20))]
def ZMR:=R [6,7] [I 6 (.mv (.v .nils)),K 7 2]
def ZMS:=R [0,4,5,27] [T 22 7 4,I 23 (.call .pure (.v (.func (.func Zl) [] [])) [(.s 22)]),T 24 7 5,I 25 (C Zl [(.s 24)]),B 26 .add 23 25,W 27 .gtr 26 65536]
def ZMT:=R [6,7] [I 6 (.mv (.v .nils)),K 7 5]
def ZMU:=R [6,7] [M 28 0,T 29 7 4,T 30 7 5,I 31 (.call .inner (.v (.func (.func Qi) [] [])) [(.s 28),(.s 29),(.s 30)]),M 6 31,K 7 0]
def ZB3:PF:=⟨false,
 (D ZMM
 (D ZMN
 (D (D ZMO
 (E 14
 (D ZMP
 .ret)
 .skip))
 (D (D ZMQ
 (E 21
 (D ZMR
 .ret)
 .skip))
 (D (D ZMS
 (E 27
 (D ZMT
 .ret)
 .skip))
 (D ZMU
 .ret)))))),
 [.s 6,.s 7]⟩
theorem ZR2:ck0 false [(6,⟨[0,4,5,27],[],[(1,.pure)],[],[],[]⟩),(8,⟨[6,7],[],[(3,.inner)],[],[],[]⟩)] ZB3 Tryz.f91=some ZB3:=by kernel_rfl
def ZMV:=R [0,1] [I 4 (.mv (.v (.bool false)))]
def ZMW:=R [0,1,10] [M 6 0,I 7 (.len 1 (.s 6)),M 8 1,I 9 (.len 1 (.s 8)),B 10 .neq 7 9]
def ZMX:=R [4] [I 4 (.mv (.v (.bool false)))]
def ZMY:=R [0,1,5] [K 5 0]
def ZMZ:=R [0,1,5,14] [M 11 5,M 12 0,I 13 (.len 1 (.s 12)),B 14 .lss 11 13]
def ZMa:=R [0,1,5,26] [M 17 0,M 18 5,I 19 (.ixS 7 (.s 17) (.s 18)),T 20 7 19,M 21 1,M 22 5,I 23 (.ixS 7 (.s 21) (.s 22)),T 24 7 23,I 25 (C QH [(.s 20),(.s 24)]),I 26 (.un .not (.s 25))]
def ZMb:=R [4] [I 4 (.mv (.v (.bool false)))]
def ZMc:=R [0,1,5] [M 15 5,W 16 .add 15 1,M 5 16]
def ZMd:PC:=(D (D ZMZ
 (E 14
 .skip
 (.exit 0)))
 (D (.block 1
 (D ZMa
 (E 26
 (D ZMb
 .ret)
 .skip)))
 ZMc))
def ZMe:=R [4] [I 4 (.mv (.v (.bool true)))]
def ZB4:PF:=⟨false,
 (D ZMV
 (D (D ZMW
 (E 10
 (D ZMX
 .ret)
 .skip))
 (D (D ZMY
 (.block 0
 (.loop ZMd)))
 (D ZMe
 .ret)))),
 [.s 4]⟩
theorem ZR4:ck0 false [] ZB4 Tryz.f92=some ZB4:=by kernel_rfl
def ZkE:=R [0,2,4,6,7] [I 4 (.box (.s 1)),I 6 (.box (.v ZT)),I 7 (.box (.v ZT)),K 8 0]
def ZkF:=R [0,2,4,6,7,9] [M 12 0,T 13 7 4,I 14 (C Js [(.s 12),(.s 13)]),M 9 14]
def ZkG:=R [0,2,4,6,7,9,16] [M 15 9,W 16 .neq 15 0]
def ZkH:=R [6,7,8] [I 17 (.build [(.int .u64 0),(.int .i64 0),(.int .i64 0),(.int .i64 0),(.int .i64 0),(.str []),.nils] []),I 18 (.build [(.int .u64 0),(.int .i64 0),(.int .i64 0),(.int .i64 0),(.int .i64 0),(.str []),.nils] []),M 19 9,N 7 6 17,N 7 7 18,M 8 19]
def ZkI:=R [0,2,4,6,7,27] [M 20 2,W 21 .lss 20 0,M 22 21,U 23 22 false 2,G 24 22 false (.ld true 7 (.s 4)),G 25 22 false (C QU [(.s 24)]),G 26 22 false (.bin .gtr (.s 23) (.s 25)),I 27 (.pick (.s 22) (.v (.bool true)) (.s 26))]
def ZkJ:=R [6,7,8] [I 28 (.build [(.int .u64 0),(.int .i64 0),(.int .i64 0),(.int .i64 0),(.int .i64 0),(.str []),.nils] []),I 29 (.build [(.int .u64 0),(.int .i64 0),(.int .i64 0),(.int .i64 0),(.int .i64 0),(.str []),.nils] []),N 7 6 28,N 7 7 29,K 8 3]
def ZkK:=R [6,7,8,10,11] [M 31 0,T 32 7 4,M 33 2,I 34 (C ZAK [(.s 31),(.s 32),(.s 33)]),M 30 34,X 35 30 0,X 36 30 1,X 37 30 2,I 10 (.box (.v ZT)),I 11 (.box (.v ZT)),N 7 10 35,N 7 11 36,M 8 37]
def ZkL:=R [6,7,8] [T 38 7 10,I 39 (.call .pure (.v (.func (.func Yp) [] [])) [(.s 38)]),T 40 7 11,I 41 (C Yp [(.s 40)]),M 42 8,N 7 6 39,N 7 7 41,M 8 42]
def Zdh:PF:=⟨false,
 (D ZkE
 (D (D ZkF
 (D ZkG
 (E 16
 (D ZkH
 .ret)
 .skip)))
 (D (D ZkI
 (E 27
 (D ZkJ
 .ret)
 .skip))
 (D ZkK
 (D ZkL
 .ret))))),
 [.c 6 true 7,.c 7 true 7,.s 8]⟩
theorem ZpD:ck0 false [(7,⟨[6,7,8],[],[(1,.pure)],[],[],[]⟩)] Zdh Tryz.f93=some Zdh:=by kernel_rfl
def ZMf:=R [0,2,4,6,7] [I 4 (.box (.s 1)),I 6 (.box (.v ZT)),I 7 (.box (.v ZT))]
def ZMg:=R [0,2,4,6,7,15] [M 14 2,W 15 .eql 14 0]
def ZMh:=R [6,7] [I 16 (.build [(.int .u64 0),(.int .i64 0),(.int .i64 0),(.int .i64 0),(.int .i64 0),(.str []),.nils] []),I 17 (.w (.hide [(.s 6)]) (.ld true 7 (.s 4))),J (.w (.plain (.s 6)) (.st 7 (.s 6) (.s 16))),N 7 7 17]
def ZMi:=R [0,2,4,6,7,21] [M 18 2,T 19 7 4,I 20 (C Zl [(.s 19)]),B 21 .eql 18 20]
def ZMj:=R [6,7] [T 22 7 4,I 23 (.build [(.int .u64 0),(.int .i64 0),(.int .i64 0),(.int .i64 0),(.int .i64 0),(.str []),.nils] []),N 7 6 22,N 7 7 23]
def ZMk:=R [0,2,4,6,7,26] [F 24 1 4,L 25 24,W 26 .eql 25 0]
def ZMl:=R [2,6,7,8] [M 27 0,T 28 7 4,I 29 (C Qc [(.s 27),(.s 28)]),M 8 29]
def ZMm:=R [6,7] [M 30 8,M 31 2,I 32 (.slcS (.s 30) none (some (.s 31))),I 33 (.call .pure (.v (.func (.func JM) [] [])) [(.s 32)]),M 34 8,M 35 2,I 36 (.slcS (.s 34) (some (.s 35)) none),I 37 (C JM [(.s 36)]),N 7 6 33,N 7 7 37]
def ZMn:=R [0,2,6,7,9] [M 38 0,T 39 7 4,I 40 (.call .inner (.v (.func (.func QA) [] [])) [(.s 38),(.s 39)]),M 9 40]
def ZMo:=R [0,2,6,7,9,10,11] [K 10 0,K 11 0]
def ZJO:=R [0,2,6,7,9,10,11,49] [M 41 11,M 42 9,M 43 10,I 44 (.ixS 7 (.s 42) (.s 43)),T 45 7 44,I 46 (C Zl [(.s 45)]),B 47 .add 41 46,M 48 2,B 49 .leq 47 48]
def ZJP:=R [0,2,6,7,9,10,11] [M 50 11,M 51 9,M 52 10,I 53 (.ixS 7 (.s 51) (.s 52)),T 54 7 53,I 55 (C Zl [(.s 54)]),B 56 .add 50 55,M 11 56]
def ZJQ:=R [0,2,6,7,9,10,11] [M 57 10,W 58 .add 57 1,M 10 58]
def p_quartoref15_Parts_13:PC:=(D (D ZJO
 (E 49
 .skip
 (.exit 0)))
 (.block 1
 (D ZJP
 ZJQ)))
def ZJR:=R [0,2,6,7,9,10,11,61] [M 59 11,M 60 2,B 61 .eql 59 60]
def ZJS:=R [6,7] [M 62 9,M 63 10,I 64 (.slc 7 (.s 62) none (some (.s 63))),I 65 (.call .pure (.v (.func (.func Z3) [] [])) [(.s 64)]),M 66 9,M 67 10,I 68 (.slc 7 (.s 66) (some (.s 67)) none),I 69 (C Z3 [(.s 68)]),N 7 6 65,N 7 7 69]
def ZJT:=R [0,6,7,9,10,12,13] [M 71 0,M 72 9,M 73 10,I 74 (.ixS 7 (.s 72) (.s 73)),T 75 7 74,M 76 2,M 77 11,B 78 .sub 76 77,I 79 (C Qq [(.s 71),(.s 75),(.s 78)]),M 70 79,X 80 70 0,X 81 70 1,I 12 (.box (.v ZT)),I 13 (.box (.v ZT)),N 7 12 80,N 7 13 81]
def ZJU:=R [6,7] [M 82 0,M 83 9,M 84 10,I 85 (.slc 7 (.s 83) none (some (.s 84))),I 86 (.call .pure (.v (.func (.func Z3) [] [])) [(.s 85)]),T 87 7 12,I 88 (.call .pure (.v (.func (.func Qh) [] [])) [(.s 82),(.s 86),(.s 87)]),M 89 0,T 90 7 13,M 91 9,M 92 10,W 93 .add 92 1,I 94 (.slc 7 (.s 91) (some (.s 93)) none),I 95 (.call .pure (.v (.func (.func Z3) [] [])) [(.s 94)]),I 96 (C Qh [(.s 89),(.s 90),(.s 95)]),N 7 6 88,N 7 7 96]
def ZB5:PF:=⟨false,
 (D ZMf
 (D (D ZMg
 (E 15
 (D ZMh
 .ret)
 .skip))
 (D (D ZMi
 (E 21
 (D ZMj
 .ret)
 .skip))
 (D (D ZMk
 (E 26
 (D ZMl
 (D ZMm
 .ret))
 .skip))
 (D ZMn
 (D ZMo
 (D (.block 0
 (.loop p_quartoref15_Parts_13))
 (D (D ZJR
 (E 61
 (D ZJS
 .ret)
 .skip))
 (D ZJT
 (D ZJU
 .ret)))))))))),
 [.c 6 true 7,.c 7 true 7]⟩
theorem ZR6:ck0 false [(2,⟨[6,7],[],[],[],[(1,(.hide [(.s 6)])),(2,(.plain (.s 6)))],[]⟩),(7,⟨[6,7],[],[(3,.pure)],[],[],[]⟩),(8,⟨[0,2,6,7,9],[],[(2,.inner)],[],[],[]⟩),(14,⟨[6,7],[],[(3,.pure)],[],[],[]⟩),(16,⟨[6,7],[],[(4,.pure),(6,.pure),(13,.pure)],[],[],[]⟩)] ZB5 Tryz.f94=some ZB5:=by kernel_rfl
def ZXa:=R [0,2,3,4,6,10] [I 6 (.box (.s 1)),I 10 (.box (.v ZT)),K 11 0]
def ZXb:=R [0,2,3,4,6,10,12] [M 20 0,T 21 7 6,I 22 (C Js [(.s 20),(.s 21)]),M 12 22]
def ZXc:=R [0,2,3,4,6,10,12,24] [M 23 12,W 24 .neq 23 0]
def ZXd:=R [10,11] [I 25 (.build [(.int .u64 0),(.int .i64 0),(.int .i64 0),(.int .i64 0),(.int .i64 0),(.str []),.nils] []),M 26 12,N 7 10 25,M 11 26]
def ZXe:=R [0,2,3,4,6,10,13] [T 27 7 6,I 28 (C QU [(.s 27)]),M 13 28]
def ZXf:=R [0,2,3,4,6,10,13,46] [M 29 2,W 30 .lss 29 0,M 31 30,U 32 31 false 2,U 33 31 false 13,G 34 31 false (.bin .gtr (.s 32) (.s 33)),I 35 (.pick (.s 31) (.v (.bool true)) (.s 34)),M 36 35,U 37 36 false 3,G 38 36 false (.bin .lss (.s 37) (V 0)),I 39 (.pick (.s 36) (.v (.bool true)) (.s 38)),M 40 39,U 41 40 false 3,U 42 40 false 13,U 43 40 false 2,G 44 40 false (.bin .sub (.s 42) (.s 43)),G 45 40 false (.bin .gtr (.s 41) (.s 44)),I 46 (.pick (.s 40) (.v (.bool true)) (.s 45))]
def ZXg:=R [10,11] [I 47 (.build [(.int .u64 0),(.int .i64 0),(.int .i64 0),(.int .i64 0),(.int .i64 0),(.str []),.nils] []),N 7 10 47,K 11 3]
def ZXh:=R [0,2,3,4,6,10,60] [M 48 13,M 49 3,B 50 .sub 48 49,M 51 4,I 52 (.len 0 (.s 51)),I 53 (.mnx false (.s 52) (V 65536)),I 54 (.bin .sub (V 65536) (.s 53)),B 55 .gtr 50 54,M 56 55,U 57 56 false 4,G 58 56 false (.len 0 (.s 57)),G 59 56 false (.bin .gtr (.s 58) (V 65536)),I 60 (.pick (.s 56) (.v (.bool true)) (.s 59))]
def ZXi:=R [10,11] [I 61 (.build [(.int .u64 0),(.int .i64 0),(.int .i64 0),(.int .i64 0),(.int .i64 0),(.str []),.nils] []),N 7 10 61,K 11 5]
def ZXj:=R [0,2,3,4,6,10,67] [M 62 3,W 63 .eql 62 0,M 64 63,U 65 64 true 4,G 66 64 true (.bin .eql (.s 65) (.v (.str []))),I 67 (.pick (.s 64) (.s 66) (.v (.bool false)))]
def ZVk:=R [10,11] [T 68 7 6,I 69 (C Yp [(.s 68)]),N 7 10 69,K 11 0]
def ZVl:=R [0,3,4,10,14,15,16] [M 71 0,T 72 7 6,M 73 2,I 74 (C ZAK [(.s 71),(.s 72),(.s 73)]),M 70 74,X 75 70 0,X 76 70 1,X 77 70 2,I 14 (.box (.v ZT)),I 15 (.box (.v ZT)),N 7 14 75,N 7 15 76,M 16 77]
def ZVm:=R [0,3,4,10,14,15,16,79] [M 78 16,W 79 .neq 78 0]
def ZVn:=R [10,11] [I 80 (.build [(.int .u64 0),(.int .i64 0),(.int .i64 0),(.int .i64 0),(.int .i64 0),(.str []),.nils] []),M 81 16,N 7 10 80,M 11 81]
def ZVo:=R [0,4,10,14,16,18] [M 83 0,T 84 7 15,M 85 3,I 86 (C ZAK [(.s 83),(.s 84),(.s 85)]),M 82 86,X 87 82 0,X 88 82 1,X 89 82 2,I 17 (.box (.v ZT)),I 18 (.box (.v ZT)),N 7 17 87,N 7 18 88,M 16 89]
def ZVp:=R [0,4,10,14,16,18,91] [M 90 16,W 91 .neq 90 0]
def ZVq:=R [10,11] [I 92 (.build [(.int .u64 0),(.int .i64 0),(.int .i64 0),(.int .i64 0),(.int .i64 0),(.str []),.nils] []),M 93 16,N 7 10 92,M 11 93]
def ZVr:=R [0,10,14,16,18,19] [M 95 4,I 96 (C ZAg [(.s 95)]),M 94 96,X 97 94 0,X 98 94 1,I 19 (.box (.v ZT)),N 7 19 97,M 16 98]
def ZVs:=R [0,10,14,16,18,19,100] [M 99 16,W 100 .neq 99 0]
def ZVt:=R [10,11] [I 101 (.build [(.int .u64 0),(.int .i64 0),(.int .i64 0),(.int .i64 0),(.int .i64 0),(.str []),.nils] []),M 102 16,N 7 10 101,M 11 102]
def ZVu:=R [0,10,14,16,18] [M 104 0,T 105 7 14,T 106 7 19,I 107 (C YI [(.s 104),(.s 105),(.s 106)]),M 103 107,X 108 103 0,X 109 103 1,N 7 14 108,M 16 109]
def ZVv:=R [0,10,14,16,18,111] [M 110 16,W 111 .neq 110 0]
def ZVw:=R [10,11] [I 112 (.build [(.int .u64 0),(.int .i64 0),(.int .i64 0),(.int .i64 0),(.int .i64 0),(.str []),.nils] []),M 113 16,N 7 10 112,M 11 113]
def ZVx:=R [10,14,16] [M 115 0,T 116 7 14,T 117 7 18,I 118 (C YI [(.s 115),(.s 116),(.s 117)]),M 114 118,X 119 114 0,X 120 114 1,N 7 14 119,M 16 120]
def ZVy:=R [10,11] [T 121 7 14,I 122 (C Yp [(.s 121)]),M 123 16,N 7 10 122,M 11 123]
def ZPC:PF:=⟨false,
 (D ZXa
 (D (D ZXb
 (D ZXc
 (E 24
 (D ZXd
 .ret)
 .skip)))
 (D ZXe
 (D (D ZXf
 (E 46
 (D ZXg
 .ret)
 .skip))
 (D (D ZXh
 (E 60
 (D ZXi
 .ret)
 .skip))
 (D (D ZXj
 (E 67
 (D ZVk
 .ret)
 .skip))
 (D ZVl
 (D (D ZVm
 (E 79
 (D ZVn
 .ret)
 .skip))
 (D ZVo
 (D (D ZVp
 (E 91
 (D ZVq
 .ret)
 .skip))
 (D ZVr
 (D (D ZVs
 (E 100
 (D ZVt
 .ret)
 .skip))
 (D (D ZVu
 (D ZVv
 (E 111
 (D ZVw
 .ret)
 .skip)))
 (D ZVx
 (D ZVy
 .ret))))))))))))))),
 [.c 10 true 7,.s 11]⟩
theorem Zdj:ck0 false [] ZPC Tryz.f95=some ZPC:=by kernel_rfl
def ZGX:=R [0,2,3,4,6,10] [I 6 (.box (.s 1)),I 10 (.box (.v ZT))]
def ZGY:=R [0,2,3,4,6,10,20] [M 15 3,W 16 .eql 15 0,M 17 16,U 18 17 true 4,G 19 17 true (.bin .eql (.s 18) (.v (.str []))),I 20 (.pick (.s 17) (.s 19) (.v (.bool false)))]
def ZGZ:=R [10] [T 21 7 6,N 7 10 21]
def ZGa:=R [0,3,4,10,11,12] [M 23 0,T 24 7 6,M 25 2,I 26 (C Qq [(.s 23),(.s 24),(.s 25)]),M 22 26,X 27 22 0,X 28 22 1,I 11 (.box (.v ZT)),I 12 (.box (.v ZT)),N 7 11 27,N 7 12 28]
def ZGb:=R [0,4,10,11,14] [M 30 0,T 31 7 12,M 32 3,I 33 (C Qq [(.s 30),(.s 31),(.s 32)]),M 29 33,X 34 29 0,X 35 29 1,I 13 (.box (.v ZT)),I 14 (.box (.v ZT)),N 7 13 34,N 7 14 35]
def ZGc:=R [10] [M 36 0,M 37 0,T 38 7 11,M 39 4,I 40 (.call .pure (.v (.func (.func Ji) [] [])) [(.s 39)]),I 41 (.call .pure (.v (.func (.func Qh) [] [])) [(.s 37),(.s 38),(.s 40)]),T 42 7 14,I 43 (C Qh [(.s 36),(.s 41),(.s 42)]),N 7 10 43]
def ZAt:PF:=⟨false,
 (D ZGX
 (D (D ZGY
 (E 20
 (D ZGZ
 .ret)
 .skip))
 (D ZGa
 (D ZGb
 (D ZGc
 .ret))))),
 [.c 10 true 7]⟩
theorem ZJW:ck0 false [(5,⟨[10],[],[(4,.pure),(5,.pure)],[],[],[]⟩)] ZAt Tryz.f96=some ZAt:=by kernel_rfl
def ZPD:=R [1,2] [I 1 (.box (.s 0)),I 2 (.box (.v ZT))]
def ZPE:=R [1,2,3] [I 3 (.onil 7)]
def ZPF:=R [1,2,3,4] [K 4 0]
def ZPG:=R [1,2,3,4,9] [M 5 4,F 6 6 1,L 7 6,I 8 (.len 1 (.s 7)),B 9 .lss 5 8]
def ZPH:=R [1,2,3,4] [M 12 3,F 13 6 1,L 14 13,M 15 4,I 16 (.ixS 7 (.s 14) (.s 15)),T 17 7 16,I 18 (C Ym [(.s 17)]),I 19 (.bslice false 7 [ZT] [(0,(.s 18))]),I 20 (.app 7 80 (.s 12) (.s 19)),M 3 20]
def ZPI:=R [1,2,3,4] [M 10 4,W 11 .add 10 1,M 4 11]
def ZPJ:PC:=(D (D ZPG
 (E 9
 .skip
 (.exit 0)))
 (D (.block 1
 ZPH)
 ZPI))
def ZPK:=R [1,2] [M 21 3,F 22 6 1,N 1 22 21]
def ZPL:=R [2] [T 23 7 1,N 7 2 23]
def ZEe:PF:=⟨false,
 (D ZPD
 (D ZPE
 (D (D ZPF
 (.block 0
 (.loop ZPJ)))
 (D ZPK
 (D ZPL
 .ret))))),
 [.c 2 true 7]⟩
theorem ZT1:ck0 false [(1,⟨[1,2,3],[0],[],[],[],[]⟩)] ZEe Tryz.f97=some ZEe:=by kernel_rfl
def Zdk:=R [0,3] [I 3 (.box (.s 1)),K 4 0]
def Zdl:=R [0,3,7] [M 6 0,I 7 (.eqs false 3 [] (.s 6) (.v .nilptr))]
def Zdm:=R [4] [K 4 1]
def Zdn:=R [0,3,10] [T 8 7 3,I 9 (C QQ [(.s 8)]),W 10 .eql 9 1]
def Zdo:=R [4] [K 4 0]
def Zdp:=R [3,5] [M 11 0,T 12 7 3,I 13 (C ZCP [(.s 11),(.s 12),(.v (.bool false)),(V 0)]),M 5 13]
def Zdq:=R [3,5,15] [M 14 5,W 15 .neq 14 0]
def Zdr:=R [4] [M 16 5,M 4 16]
def Zds:=R [19] [T 17 7 3,I 18 (C QU [(.s 17)]),W 19 .gtr 18 65536]
def Zdt:=R [4] [K 4 5]
def ZZx:=R [4] [K 4 0]
def ZVz:PF:=⟨false,
 (D Zdk
 (D (D Zdl
 (E 7
 (D Zdm
 .ret)
 .skip))
 (D (D Zdn
 (E 10
 (D Zdo
 .ret)
 .skip))
 (D (D Zdp
 (D Zdq
 (E 15
 (D Zdr
 .ret)
 .skip)))
 (D (D Zds
 (E 19
 (D Zdt
 .ret)
 .skip))
 (D ZZx
 .ret)))))),
 [.s 4]⟩
theorem ZkN:ck0 false [] ZVz Tryz.f98=some ZVz:=by kernel_rfl
def ZZy:=R [1,2,3,4] [I 4 (.box (.s 0)),K 5 0]
def ZZz:=R [1,2,3,4,15] [F 13 1 4,L 14 13,W 15 .eql 14 0]
def ZZ0:=R [2,6,7] [L 17 1,T 18 7 4,I 19 (C ZAT [(.s 17),(.s 18)]),M 16 19,X 20 16 0,X 21 16 1,M 6 20,M 7 21]
def ZZ1:=R [7] [L 22 2,M 23 6,I 24 (.app 1 1 (.s 22) (.s 23)),N 1 2 24]
def ZZ2:=R [5] [M 25 7,M 5 25]
def ZZ3:=R [3,8,9] [L 27 1,T 28 7 4,I 29 (C J7 [(.s 27),(.s 28)]),M 26 29,X 30 26 0,X 31 26 1,M 8 30,M 9 31]
def ZZ4:=R [3,8,9,33] [M 32 9,W 33 .neq 32 0]
def ZZ5:=R [5] [M 34 9,M 5 34]
def ZZ6:=R [3,35,36,37] [M 35 8,I 36 (.len 1 (.s 35)),K 37 0]
def ZZ7:=R [3,35,36,37,38] [B 38 .lss 37 36]
def ZXk:=R [3,11,35,36,37] [I 39 (.ixS 7 (.s 35) (.s 37)),T 40 7 39,I 11 (.box (.v ZT)),N 7 11 40]
def ZXl:=R [3,12,35,36,37] [L 41 3,T 42 7 11,I 43 (.call .norm (.s 41) [(.s 42)]),M 12 43]
def ZXm:=R [3,12,35,36,37,45] [M 44 12,W 45 .neq 44 0]
def ZXn:=R [5] [M 46 12,M 5 46]
def ZXo:=R [3,35,36,37] [W 47 .add 37 1,M 37 47]
def ZXp:PC:=(D ZZ7
 (D (E 38
 .skip
 (.exit 0))
 (D (.block 1
 (D ZXk
 (D ZXl
 (D ZXm
 (E 45
 (D ZXn
 .ret)
 .skip)))))
 ZXo)))
def ZXq:=R [5] [K 5 0]
def ZTH:PF:=⟨false,
 (D ZZy
 (D (D ZZz
 (E 15
 (D ZZ0
 (D ZZ1
 (D ZZ2
 .ret)))
 .skip))
 (D ZZ3
 (D (D ZZ4
 (E 33
 (D ZZ5
 .ret)
 .skip))
 (D (D ZZ6
 (.block 0
 (.loop ZXp)))
 (D ZXq
 .ret)))))),
 [.s 5]⟩
theorem Zgm:ck0 false [] ZTH Tryz.f99=some ZTH:=by kernel_rfl
def Zgn:=R [0,3] [I 3 (.box (.s 1)),I 4 (.mv (.v (.str []))),K 5 0]
def Zgo:=R [0,3,10] [F 8 0 3,L 9 8,I 10 (.bin .eql (.s 9) (.v (.int .u64 0)))]
def Zgp:=R [4,5] [F 11 5 3,L 12 11,M 4 12,K 5 0]
def Zgq:=R [6,7] [M 14 0,F 15 0 3,L 16 15,I 17 (C Jb [(.s 14),(.s 16)]),M 13 17,X 18 13 0,X 19 13 1,I 6 (.box (.v ZN)),N 3 6 18,M 7 19]
def Zgr:=R [4,5] [F 20 1 6,L 21 20,M 22 7,M 4 21,M 5 22]
def ZZN:PF:=⟨false,
 (D Zgn
 (D (D Zgo
 (E 10
 (D Zgp
 .ret)
 .skip))
 (D Zgq
 (D Zgr
 .ret)))),
 [.s 4,.s 5]⟩
theorem Zm0:ck0 false [] ZZN Tryz.f100=some ZZN:=by kernel_rfl
def ZV0:=R [0,3] [I 3 (.box (.s 1)),I 4 (.mv (.v .nils)),K 5 0]
def ZV1:=R [0,3,13] [F 11 0 3,L 12 11,I 13 (.bin .eql (.s 12) (.v (.int .u64 0)))]
def ZV2:=R [4,5] [F 14 6 3,L 15 14,M 4 15,K 5 0]
def ZV3:=R [6,7] [M 17 0,F 18 0 3,L 19 18,I 20 (C Jb [(.s 17),(.s 19)]),M 16 20,X 21 16 0,X 22 16 1,I 6 (.box (.v ZN)),N 3 6 21,M 7 22]
def ZV4:=R [6,7,24] [M 23 7,W 24 .neq 23 0]
def ZV5:=R [4,5] [M 25 7,I 4 (.mv (.v .nils)),M 5 25]
def ZV6:=R [6,8] [I 8 (.onil 7)]
def ZV7:=R [6,8,27,28,29] [F 26 2 6,L 27 26,I 28 (.len 1 (.s 27)),K 29 0]
def ZV8:=R [6,8,27,28,29,30] [B 30 .lss 29 28]
def ZV9:=R [6,8,10,27,28,29] [I 31 (.ixS 4 (.s 27) (.s 29)),T 32 4 31,I 10 (.box (.v ZK)),N 4 10 32]
def ZT2:=R [6,8,27,28,29] [M 33 8,F 34 0 10,L 35 34,F 36 0 6,L 37 36,W 38 .sub 37 1,F 39 1 10,T 40 3 39,I 41 (.build [(.int .u64 0),(.int .i64 0),(.int .i64 0),(.int .i64 0),(.int .i64 0),(.str []),.nils] [(0,1,(.s 35)),(1,1,(.s 38)),(2,3,(.s 40))]),I 42 (.bslice false 7 [ZT] [(0,(.s 41))]),I 43 (.app 7 80 (.s 33) (.s 42)),M 8 43]
def ZT3:=R [6,8,27,28,29] [W 44 .add 29 1,M 29 44]
def ZEf:PC:=(D ZV8
 (D (E 30
 .skip
 (.exit 0))
 (D (.block 1
 (D ZV9
 ZT2))
 ZT3)))
def ZT4:=R [8,47] [M 45 8,I 46 (.len 1 (.s 45)),W 47 .eql 46 0]
def ZT5:=R [4,5] [I 4 (.mv (.v .nils)),K 5 23]
def ZT6:=R [4,5] [M 48 8,M 4 48,K 5 0]
def ZLH:PF:=⟨false,
 (D ZV0
 (D (D ZV1
 (E 13
 (D ZV2
 .ret)
 .skip))
 (D ZV3
 (D (D ZV4
 (E 24
 (D ZV5
 .ret)
 .skip))
 (D ZV6
 (D (D ZV7
 (.block 0
 (.loop ZEf)))
 (D (D ZT4
 (E 47
 (D ZT5
 .ret)
 .skip))
 (D ZT6
 .ret)))))))),
 [.s 4,.s 5]⟩
theorem ZZ9:ck0 false [(6,⟨[6,8],[0],[],[],[],[]⟩)] ZLH Tryz.f101=some ZLH:=by kernel_rfl
def Zgs:=R [1] [I 1 (.box (.s 0)),K 2 0]
def Zgt:=R [1,3] [F 4 2 1,T 5 3 4,I 6 (.build [(.int .i64 0),(.int .i64 0),(.int .i64 0)] []),I 7 (.eqs false 0 [(0,0),(1,0),(2,0)] (.s 5) (.s 6)),M 8 7,G 9 8 true (.fadr 0 (.s 1)),G 10 8 true (.ld false 1 (.s 9)),G 11 8 true (.bin .eql (.s 10) (.v (.int .u64 0))),I 12 (.pick (.s 8) (.s 11) (.v (.bool false))),M 3 12]
def Zgu:=R [1,3,13] [M 14 3,M 15 14,G 16 15 true (.fadr 1 (.s 1)),G 17 15 true (.ld false 1 (.s 16)),G 18 15 true (.bin .eql (.s 17) (V 0)),I 19 (.pick (.s 15) (.s 18) (.v (.bool false))),M 20 19,G 21 20 true (.fadr 5 (.s 1)),G 22 20 true (.ld false 1 (.s 21)),G 23 20 true (.bin .eql (.s 22) (.v (.str []))),I 24 (.pick (.s 20) (.s 23) (.v (.bool false))),M 25 24,G 26 25 true (.fadr 6 (.s 1)),G 27 25 true (.ld false 1 (.s 26)),G 28 25 true (.len 1 (.s 27)),G 29 25 true (.bin .eql (.s 28) (V 0)),I 30 (.pick (.s 25) (.s 29) (.v (.bool false))),M 13 30]
def Zgv:=R [2] [K 2 1]
def Zgw:=R [1,3,31] [F 32 0 1,L 33 32,I 34 (.bin .neq (.s 33) (.v (.int .u64 0))),M 35 34,G 36 35 true (.fadr 5 (.s 1)),G 37 35 true (.ld false 1 (.s 36)),G 38 35 true (.bin .eql (.s 37) (.v (.str []))),I 39 (.pick (.s 35) (.s 38) (.v (.bool false))),M 40 39,G 41 40 true (.fadr 6 (.s 1)),G 42 40 true (.ld false 1 (.s 41)),G 43 40 true (.len 1 (.s 42)),G 44 40 true (.bin .eql (.s 43) (V 0)),I 45 (.pick (.s 40) (.s 44) (.v (.bool false))),M 31 45]
def Zgx:=R [2] [K 2 2]
def Zgy:=R [1,3,46] [M 47 3,M 48 47,G 49 48 true (.fadr 1 (.s 1)),G 50 48 true (.ld false 1 (.s 49)),G 51 48 true (.bin .eql (.s 50) (V 0)),I 52 (.pick (.s 48) (.s 51) (.v (.bool false))),M 53 52,G 54 53 true (.fadr 6 (.s 1)),G 55 53 true (.ld false 1 (.s 54)),G 56 53 true (.len 1 (.s 55)),G 57 53 true (.bin .eql (.s 56) (V 0)),I 58 (.pick (.s 53) (.s 57) (.v (.bool false))),M 59 58,G 60 59 true (.fadr 5 (.s 1)),G 61 59 true (.ld false 1 (.s 60)),G 62 59 true (.len 0 (.s 61)),G 63 59 true (.bin .leq (.s 62) (V 16)),I 64 (.pick (.s 59) (.s 63) (.v (.bool false))),M 46 64]
def Zgz:=R [2] [K 2 3]
def Zg0:=R [65] [M 66 3,M 67 66,G 68 67 true (.fadr 5 (.s 1)),G 69 67 true (.ld false 1 (.s 68)),G 70 67 true (.bin .eql (.s 69) (.v (.str []))),I 71 (.pick (.s 67) (.s 70) (.v (.bool false))),M 72 71,G 73 72 true (.fadr 1 (.s 1)),G 74 72 true (.ld false 1 (.s 73)),G 75 72 true (.bin .geq (.s 74) (V 1)),I 76 (.pick (.s 72) (.s 75) (.v (.bool false))),M 77 76,G 78 77 true (.fadr 1 (.s 1)),G 79 77 true (.ld false 1 (.s 78)),G 80 77 true (.bin .leq (.s 79) (V 16)),I 81 (.pick (.s 77) (.s 80) (.v (.bool false))),M 82 81,G 83 82 true (.fadr 6 (.s 1)),G 84 82 true (.ld false 1 (.s 83)),G 85 82 true (.len 1 (.s 84)),G 86 82 true (.bin .geq (.s 85) (V 2)),I 87 (.pick (.s 82) (.s 86) (.v (.bool false))),M 88 87,G 89 88 true (.fadr 6 (.s 1)),G 90 88 true (.ld false 1 (.s 89)),G 91 88 true (.len 1 (.s 90)),G 92 88 true (.bin .leq (.s 91) (V 4)),I 93 (.pick (.s 88) (.s 92) (.v (.bool false))),M 65 93]
def Zg1:=R [2] [K 2 4]
def Zdu:=R [2] [K 2 0]
def ZZO:PF:=⟨false,
 (D Zgs
 (D Zgt
 (D (.block 0
 (D Zgu
 (E 13
 (D Zgv
 .ret)
 (D Zgw
 (E 31
 (D Zgx
 .ret)
 (D Zgy
 (E 46
 (D Zgz
 .ret)
 (D Zg0
 (E 65
 (D Zg1
 .ret)
 .skip)))))))))
 (D Zdu
 .ret)))),
 [.s 2]⟩
theorem Zm2:ck0 false [] ZZO Tryz.f102=some ZZO:=by kernel_rfl
def ZPM:=R [0,1,4] [I 4 (.box (.v ZN))]
def ZPN:=R [0,1,4,5] [K 5 0]
def ZPO:=R [0,1,4,5,12] [M 6 5,M 7 0,I 8 (.nilck (.s 7)),F 9 1 8,L 10 9,I 11 (.len 1 (.s 10)),B 12 .lss 6 11]
def ZPP:=R [0,1,4,5,24] [M 15 0,I 16 (.nilck (.s 15)),F 17 1 16,L 18 17,M 19 5,I 20 (.ixS 4 (.s 18) (.s 19)),F 21 0 20,L 22 21,M 23 1,B 24 .eql 22 23]
def ZPQ:=R [4] [M 25 0,I 26 (.nilck (.s 25)),F 27 1 26,L 28 27,M 29 5,I 30 (.ixS 4 (.s 28) (.s 29)),F 31 1 30,T 32 3 31,N 3 4 32]
def ZPR:=R [0,1,4,5] [M 13 5,W 14 .add 13 1,M 5 14]
def ZPS:PC:=(D (D ZPO
 (E 12
 .skip
 (.exit 0)))
 (D (.block 1
 (D ZPP
 (E 24
 (D ZPQ
 .ret)
 .skip)))
 ZPR))
def ZPT:=R [4] [I 33 (.build [(.int .i64 0),(.str []),.nils] []),N 3 4 33]
def ZEg:PF:=⟨false,
 (D ZPM
 (D (D ZPN
 (.block 0
 (.loop ZPS)))
 (D ZPT
 .ret))),
 [.c 4 true 3]⟩
theorem ZT8:ck0 false [] ZEg Tryz.f103=some ZEg:=by kernel_rfl
def ZPU:=R [0,3] [I 3 (.box (.s 1)),I 4 (.mv (.v .nils))]
def ZPV:=R [0,3,10] [F 8 0 3,L 9 8,I 10 (.bin .eql (.s 9) (.v (.int .u64 0)))]
def ZPW:=R [4] [I 11 (.bslice false 7 [] []),F 12 6 3,L 13 12,I 14 (.app 7 80 (.s 11) (.s 13)),M 4 14]
def ZPX:=R [0,3,5] [I 5 (.onil 7)]
def ZPY:=R [3,5,6] [M 15 0,F 16 0 3,L 17 16,I 18 (C Yn [(.s 15),(.s 17)]),I 6 (.box (.v ZN)),N 3 6 18]
def ZPZ:=R [3,5,6,7] [K 7 0]
def ZPa:=R [3,5,6,7,23] [M 19 7,F 20 2 6,L 21 20,I 22 (.len 1 (.s 21)),B 23 .lss 19 22]
def ZPb:=R [3,5,6,7] [M 26 5,F 27 2 6,L 28 27,M 29 7,I 30 (.ixS 4 (.s 28) (.s 29)),F 31 0 30,L 32 31,F 33 1 3,L 34 33,W 35 .sub 34 1,F 36 2 6,L 37 36,M 38 7,I 39 (.ixS 4 (.s 37) (.s 38)),F 40 1 39,T 41 3 40,I 42 (.build [(.int .u64 0),(.int .i64 0),(.int .i64 0),(.int .i64 0),(.int .i64 0),(.str []),.nils] [(0,1,(.s 32)),(1,1,(.s 35)),(2,3,(.s 41))]),I 43 (.bslice false 7 [ZT] [(0,(.s 42))]),I 44 (.app 7 80 (.s 26) (.s 43)),M 5 44]
def ZPc:=R [3,5,6,7] [M 24 7,W 25 .add 24 1,M 7 25]
def ZBd:PC:=(D (D ZPa
 (E 23
 .skip
 (.exit 0)))
 (D (.block 1
 ZPb)
 ZPc))
def ZMp:=R [4] [M 45 5,M 4 45]
def ZEh:PF:=⟨true,
 (D ZPU
 (D (D ZPV
 (E 10
 (D ZPW
 .ret)
 .skip))
 (D ZPX
 (D ZPY
 (D (D ZPZ
 (.block 0
 (.loop ZBd)))
 (D ZMp
 .ret)))))),
 [.s 4]⟩
theorem ZUA:ck0 true [(3,⟨[0,3,5],[0],[],[],[],[]⟩)] ZEh Tryz.f104=some ZEh:=by kernel_rfl
def ZPd:=R [1] [I 1 (.box (.s 0)),I 2 (.mv (.v (.bool false)))]
def ZPe:=R [2] [F 3 0 1,L 4 3,I 5 (.bin .eql (.s 4) (.v (.int .u64 0))),M 6 5,G 7 6 true (.fadr 1 (.s 1)),G 8 6 true (.ld false 1 (.s 7)),G 9 6 true (.bin .eql (.s 8) (V 0)),I 10 (.pick (.s 6) (.s 9) (.v (.bool false))),M 11 10,G 12 11 true (.fadr 2 (.s 1)),G 13 11 true (.ld true 3 (.s 12)),G 14 11 true (.build [(.int .i64 0),(.int .i64 0),(.int .i64 0)] []),G 15 11 true (.eqs false 0 [(0,0),(1,0),(2,0)] (.s 13) (.s 14)),I 16 (.pick (.s 11) (.s 15) (.v (.bool false))),M 17 16,G 18 17 true (.fadr 5 (.s 1)),G 19 17 true (.ld false 1 (.s 18)),G 20 17 true (.bin .eql (.s 19) (.v (.str []))),I 21 (.pick (.s 17) (.s 20) (.v (.bool false))),M 22 21,G 23 22 true (.fadr 6 (.s 1)),G 24 22 true (.ld false 1 (.s 23)),G 25 22 true (.len 1 (.s 24)),G 26 22 true (.bin .eql (.s 25) (V 0)),I 27 (.pick (.s 22) (.s 26) (.v (.bool false))),M 2 27]
def ZEi:PF:=⟨false,
 (D ZPd
 (D ZPe
 .ret)),
 [.s 2]⟩
theorem ZUC:ck0 false [] ZEi Tryz.f105=some ZEi:=by kernel_rfl
def ZaA:=R [1,2,3,4] [I 4 (.box (.s 0))]
def ZaB:=R [1,2,3,4,16] [F 7 0 4,L 8 7,I 9 (.bin .neq (.s 8) (.v (.int .u64 0))),M 10 9,G 11 10 true (.ld false 1 (.s 1)),G 12 10 true (.fadr 0 (.s 4)),G 13 10 true (.ld false 1 (.s 12)),G 14 10 true (.look 0 (.bool false) false (.s 11) (.s 13)),G 15 10 true (.un .not (.s 14)),I 16 (.pick (.s 10) (.s 15) (.v (.bool false)))]
def ZaC:=R [2,3,4] [L 17 1,F 18 0 4,L 19 18,J (.mupd 0 (.s 17) (.s 19) (.v (.bool true)))]
def ZaD:=R [3,4] [L 20 2,F 21 0 4,L 22 21,I 23 (.bslice false 1 [(.int .u64 0)] [(0,(.s 22))]),I 24 (.app 1 8 (.s 20) (.s 23)),N 1 2 24]
def ZLI:=R [3,26,27,28] [F 25 6 4,L 26 25,I 27 (.len 1 (.s 26)),K 28 0]
def ZaE:=R [3,26,27,28,29] [B 29 .lss 28 27]
def ZaF:=R [3,6,26,27,28] [I 30 (.ixS 7 (.s 26) (.s 28)),T 31 7 30,I 6 (.box (.v ZT)),N 7 6 31]
def ZaG:=R [3,26,27,28] [L 32 3,T 33 7 6,I 34 (.call .norm (.s 32) [(.s 33)])]
def ZaH:=R [3,26,27,28] [W 35 .add 28 1,M 28 35]
def ZBu:PC:=(D ZaE
 (D (E 29
 .skip
 (.exit 0))
 (D (.block 1
 (D ZaF
 ZaG))
 ZaH)))
def ZTI:PF:=⟨false,
 (D ZaA
 (D (D ZaB
 (E 16
 (D ZaC
 ZaD)
 .skip))
 (D ZLI
 (.block 0
 (.loop ZBu))))),
 []⟩
theorem Zg3:ck0 false [] ZTI Tryz.f106=some ZTI:=by kernel_rfl
def ZPf:=R [0] [I 2 (.mv (.v .nils))]
def ZPg:=R [0,3] [I 3 (.onil 1)]
def ZPh:=R [0,3,4] [K 4 0]
def ZPi:=R [0,3,4,8] [M 5 4,M 6 0,I 7 (.len 1 (.s 6)),B 8 .lss 5 7]
def ZPj:=R [0,3,4,17] [M 11 3,M 12 0,M 13 4,I 14 (.ixS 1 (.s 12) (.s 13)),L 15 14,I 16 (C YC [(.s 11),(.s 15)]),I 17 (.un .not (.s 16))]
def ZPk:=R [0,3,4] [M 18 3,M 19 0,M 20 4,I 21 (.ixS 1 (.s 19) (.s 20)),L 22 21,I 23 (.bslice false 1 [(.int .u64 0)] [(0,(.s 22))]),I 24 (.app 1 8 (.s 18) (.s 23)),M 3 24]
def ZPl:=R [0,3,4] [M 9 4,W 10 .add 9 1,M 4 10]
def ZPm:PC:=(D (D ZPi
 (E 8
 .skip
 (.exit 0)))
 (D (.block 1
 (D ZPj
 (E 17
 ZPk
 .skip)))
 ZPl))
def ZPn:=R [2] [M 25 3,M 2 25]
def ZEj:PF:=⟨false,
 (D ZPf
 (D ZPg
 (D (D ZPh
 (.block 0
 (.loop ZPm)))
 (D ZPn
 .ret)))),
 [.s 2]⟩
theorem ZUE:ck0 false [(1,⟨[0,3],[0],[],[],[],[]⟩)] ZEj Tryz.f107=some ZEj:=by kernel_rfl
def ZMq:=R [1] [I 1 (.box (.s 0)),I 2 (.mv (.v .nils))]
def ZMr:=R [1,7] [F 5 0 1,L 6 5,I 7 (.bin .neq (.s 6) (.v (.int .u64 0)))]
def ZMs:=R [2] [F 8 0 1,L 9 8,I 10 (.bslice false 1 [(.int .u64 0)] [(0,(.s 9))]),M 2 10]
def ZMt:=R [1,3] [I 3 (.onil 1)]
def ZMu:=R [1,3,4] [K 4 0]
def ZMv:=R [1,3,4,15] [M 11 4,F 12 6 1,L 13 12,I 14 (.len 1 (.s 13)),B 15 .lss 11 14]
def ZMw:=R [1,3,4] [M 18 3,F 19 6 1,L 20 19,M 21 4,I 22 (.ixS 7 (.s 20) (.s 21)),T 23 7 22,I 24 (C JF [(.s 23)]),I 25 (.app 1 8 (.s 18) (.s 24)),M 3 25]
def ZMx:=R [1,3,4] [M 16 4,W 17 .add 16 1,M 4 17]
def ZMy:PC:=(D (D ZMv
 (E 15
 .skip
 (.exit 0)))
 (D (.block 1
 ZMw)
 ZMx))
def ZMz:=R [2] [M 26 3,M 2 26]
def ZB6:PF:=⟨false,
 (D ZMq
 (D (D ZMr
 (E 7
 (D ZMs
 .ret)
 .skip))
 (D ZMt
 (D (D ZMu
 (.block 0
 (.loop ZMy)))
 (D ZMz
 .ret))))),
 [.s 2]⟩
theorem ZR8:ck0 false [(3,⟨[1,3],[0],[],[],[],[]⟩)] ZB6 Tryz.f108=some ZB6:=by kernel_rfl
def Zdv:=R [0,1,2,3] [K 8 0]
def Zdw:=R [0,1,2,3,16] [M 14 2,M 15 1,I 16 (.look 0 (.bool false) false (.s 14) (.s 15))]
def Zdx:=R [8] [K 8 0]
def Zdy:=R [0,1,2,3] [M 17 2,M 18 1,J (.mupd 0 (.s 17) (.s 18) (.v (.bool true)))]
def Zdz:=R [0,1,2,3,9,10] [M 20 0,M 21 1,I 22 (C Jb [(.s 20),(.s 21)]),M 19 22,X 23 19 0,X 24 19 1,I 9 (.box (.v ZN)),N 3 9 23,M 10 24]
def Zd0:=R [0,1,2,3,9,10,26] [M 25 10,W 26 .neq 25 0]
def Zd1:=R [8] [M 27 10,M 8 27]
def Zd2:=R [0,2,3,9] [M 28 3,M 29 1,I 30 (.call .norm (.s 28) [(.s 29)])]
def Zd3:=R [0,2,3,32,33,34] [F 31 2 9,L 32 31,I 33 (.len 1 (.s 32)),K 34 0]
def Zd4:=R [0,2,3,32,33,34,35] [B 35 .lss 34 33]
def ZaI:=R [0,2,3,12,32,33,34] [I 36 (.ixS 4 (.s 32) (.s 34)),T 37 4 36,I 12 (.box (.v ZK)),N 4 12 37]
def ZaJ:=R [0,2,3,13,32,33,34] [M 38 0,F 39 0 12,L 40 39,M 41 2,M 42 3,I 43 (C JR [(.s 38),(.s 40),(.s 41),(.s 42)]),M 13 43]
def ZaK:=R [0,2,3,13,32,33,34,45] [M 44 13,W 45 .neq 44 0]
def ZaL:=R [8] [M 46 13,M 8 46]
def ZaM:=R [0,2,3,32,33,34] [W 47 .add 34 1,M 34 47]
def ZaN:PC:=(D Zd4
 (D (E 35
 .skip
 (.exit 0))
 (D (.block 1
 (D ZaI
 (D ZaJ
 (D ZaK
 (E 45
 (D ZaL
 .ret)
 .skip)))))
 ZaM)))
def ZaO:=R [8] [K 8 0]
def ZWA:PF:=⟨false,
 (D Zdv
 (D (D Zdw
 (E 16
 (D Zdx
 .ret)
 .skip))
 (D Zdy
 (D Zdz
 (D (D Zd0
 (E 26
 (D Zd1
 .ret)
 .skip))
 (D Zd2
 (D (D Zd3
 (.block 0
 (.loop ZaN)))
 (D ZaO
 .ret)))))))),
 [.s 8]⟩
theorem ZkP:ck0 false [] ZWA Tryz.f109=some ZWA:=by kernel_rfl
def ZHC:PF:=⟨false,
 .skip,
 []⟩
theorem ZXs:ck0 false [] ZHC Tryz.f110=some ZHC:=by kernel_rfl
def ZUF:=R [0,2,7] [L 4 1,M 5 0,I 6 (.look 0 (.bool false) false (.s 4) (.s 5)),I 7 (.un .not (.s 6))]
def ZUG:=R [] [L 8 2,M 9 0,I 10 (.bslice false 1 [(.int .u64 0)] [(0,(.s 9))]),I 11 (.app 1 8 (.s 8) (.s 10)),N 1 2 11]
def ZHD:PF:=⟨false,
 (D ZUF
 (E 7
 ZUG
 .skip)),
 []⟩
theorem ZXu:ck0 false [] ZHD Tryz.f111=some ZHD:=by kernel_rfl
def ZPo:=R [0,3] [I 3 (.box (.s 1)),K 4 0]
def ZPp:=R [0,3,7] [F 5 0 3,L 6 5,I 7 (.bin .eql (.s 6) (.v (.int .u64 0)))]
def ZPq:=R [10] [T 8 5 3,I 9 (.build [(.int .u64 0),(.int .i64 0),(.int .i64 0),(.int .i64 0),(.int .i64 0)] []),I 10 (.eqs true 0 [(0,0),(1,0),(2,0),(3,0),(4,0)] (.s 8) (.s 9))]
def ZPr:=R [4] [K 4 2]
def ZPs:=R [4] [K 4 0]
def ZPt:=R [4] [M 11 0,F 12 0 3,L 13 12,F 14 1 3,L 15 14,F 16 2 3,T 17 3 16,I 18 (C Xg [(.s 11),(.s 13),(.s 15),(.s 17)]),M 4 18]
def ZEk:PF:=⟨false,
 (D ZPo
 (D (D ZPp
 (E 7
 (D (D ZPq
 (E 10
 (D ZPr
 .ret)
 .skip))
 (D ZPs
 .ret))
 .skip))
 (D ZPt
 .ret))),
 [.s 4]⟩
theorem ZUI:ck0 false [] ZEk Tryz.f112=some ZEk:=by kernel_rfl
def ZM0:=R [0,3] [I 3 (.box (.s 1)),K 4 0]
def ZM1:=R [0,3,7] [M 6 0,I 7 (.eqs false 3 [] (.s 6) (.v .nilptr))]
def ZM2:=R [4] [K 4 1]
def ZM3:=R [0,3,9] [T 8 7 3,I 9 (C Zy [(.s 8)])]
def ZM4:=R [4] [K 4 0]
def ZM5:=R [3,5] [M 10 0,T 11 7 3,I 12 (C Qj [(.s 10),(.s 11),(.v (.bool false)),(V 0)]),M 5 12]
def ZM6:=R [5,19] [M 13 5,W 14 .eql 13 0,M 15 14,G 16 15 true (.ld true 7 (.s 3)),G 17 15 true (C Zl [(.s 16)]),G 18 15 true (.bin .gtr (.s 17) (V 65536)),I 19 (.pick (.s 15) (.s 18) (.v (.bool false)))]
def ZM7:=R [4] [K 4 5]
def ZM8:=R [4] [M 20 5,M 4 20]
def ZB7:PF:=⟨false,
 (D ZM0
 (D (D ZM1
 (E 7
 (D ZM2
 .ret)
 .skip))
 (D (D ZM3
 (E 9
 (D ZM4
 .ret)
 .skip))
 (D ZM5
 (D (D ZM6
 (E 19
 (D ZM7
 .ret)
 .skip))
 (D ZM8
 .ret)))))),
 [.s 4]⟩
theorem ZSA:ck0 false [] ZB7 Tryz.f113=some ZB7:=by kernel_rfl
def ZHE:=R [0,1] [I 4 (.mv (.v .nils))]
def ZHF:=R [0,1,5] [I 5 (.onil 1)]
def ZHG:=R [0,1,5,6] [K 6 0]
def ZHH:=R [0,1,5,6,10] [M 7 6,M 8 0,I 9 (.len 1 (.s 8)),B 10 .lss 7 9]
def ZHI:=R [0,1,5,6,19] [M 13 1,M 14 0,M 15 6,I 16 (.ixS 1 (.s 14) (.s 15)),L 17 16,I 18 (C YC [(.s 13),(.s 17)]),I 19 (.un .not (.s 18))]
def ZHJ:=R [0,1,5,6] [M 20 5,M 21 0,M 22 6,I 23 (.ixS 1 (.s 21) (.s 22)),L 24 23,I 25 (.bslice false 1 [(.int .u64 0)] [(0,(.s 24))]),I 26 (.app 1 8 (.s 20) (.s 25)),M 5 26]
def ZHK:=R [0,1,5,6] [M 11 6,W 12 .add 11 1,M 6 12]
def ZHL:PC:=(D (D ZHH
 (E 10
 .skip
 (.exit 0)))
 (D (.block 1
 (D ZHI
 (E 19
 ZHJ
 .skip)))
 ZHK))
def ZHM:=R [4] [M 27 5,I 28 (C J0 [(.s 27)]),M 4 28]
def ZA2:PF:=⟨false,
 (D ZHE
 (D ZHF
 (D (D ZHG
 (.block 0
 (.loop ZHL)))
 (D ZHM
 .ret)))),
 [.s 4]⟩
theorem ZNA:ck0 false [(1,⟨[0,1,5],[0],[],[],[],[]⟩)] ZA2 Tryz.f114=some ZA2:=by kernel_rfl
def ZNB:=R [0,3] [I 3 (.box (.s 1)),I 4 (.mv (.v .nils))]
def ZNC:=R [0,3,5] [I 5 (.onil 1)]
def ZND:=R [0,3,5,10] [F 8 0 3,L 9 8,I 10 (.bin .neq (.s 9) (.v (.int .u64 0)))]
def ZNE:=R [0,3,5] [M 11 5,F 12 0 3,L 13 12,I 14 (.bslice false 1 [(.int .u64 0)] [(0,(.s 13))]),I 15 (.app 1 8 (.s 11) (.s 14)),M 5 15]
def ZNF:=R [0,3,5,18] [F 16 1 3,L 17 16,W 18 .eql 17 0]
def ZNG:=R [4] [M 19 5,M 4 19]
def ZNH:=R [0,5,6] [M 20 0,T 21 7 3,I 22 (.call .inner (.v (.func (.func QA) [] [])) [(.s 20),(.s 21)]),M 6 22]
def ZNI:=R [0,5,6,7] [K 7 0]
def ZNJ:=R [0,5,6,7,26] [M 23 7,M 24 6,I 25 (.len 1 (.s 24)),B 26 .lss 23 25]
def ZNK:=R [0,5,6,7] [M 29 5,M 30 0,M 31 6,M 32 7,I 33 (.ixS 7 (.s 31) (.s 32)),T 34 7 33,I 35 (C JG [(.s 30),(.s 34)]),I 36 (.app 1 8 (.s 29) (.s 35)),M 5 36]
def ZJX:=R [0,5,6,7] [M 27 7,W 28 .add 27 1,M 7 28]
def p_quartoref15_Under_11:PC:=(D (D ZNJ
 (E 26
 .skip
 (.exit 0)))
 (D (.block 1
 ZNK)
 ZJX))
def ZJY:=R [4] [M 37 5,M 4 37]
def ZB8:PF:=⟨false,
 (D ZNB
 (D ZNC
 (D (D ZND
 (E 10
 ZNE
 .skip))
 (D (D ZNF
 (E 18
 (D ZNG
 .ret)
 .skip))
 (D ZNH
 (D (D ZNI
 (.block 0
 (.loop p_quartoref15_Under_11)))
 (D ZJY
 .ret))))))),
 [.s 4]⟩
theorem ZSC:ck0 false [(1,⟨[0,3,5],[0],[],[],[],[]⟩),(6,⟨[0,5,6],[],[(2,.inner)],[],[],[]⟩)] ZB8 Tryz.f115=some ZB8:=by kernel_rfl
def ZNL:=R [1,2] [I 1 (.box (.s 0)),I 2 (.box (.v ZT))]
def ZNM:=R [2] [F 3 0 1,L 4 3,F 5 1 1,L 6 5,F 7 2 1,T 8 3 7,I 9 (.build [(.int .u64 0),(.int .i64 0),(.int .i64 0),(.int .i64 0),(.int .i64 0),(.str []),.nils] [(0,1,(.s 4)),(1,1,(.s 6)),(2,3,(.s 8))]),N 7 2 9]
def ZB9:PF:=⟨false,
 (D ZNL
 (D ZNM
 .ret)),
 [.c 2 true 7]⟩
theorem ZSE:ck0 false [] ZB9 Tryz.f116=some ZB9:=by kernel_rfl
def ZJZ:=R [0] [I 2 (.mv (.v .nils))]
def ZJa:=R [0,7] [M 6 0,I 7 (.eqs false 3 [] (.s 6) (.v .nilptr))]
def ZJb:=R [2] [I 2 (.mv (.v .nils))]
def ZJc:=R [0,3] [M 8 0,I 9 (.nilck (.s 8)),F 10 0 9,L 11 10,I 12 (.len 1 (.s 11)),I 13 (.mkslice 1 8 (.int .i64 0) (.s 12) (.s 12)),M 3 13]
def ZJd:=R [3] [M 14 3,M 15 0,I 16 (.nilck (.s 15)),F 17 0 16,L 18 17,I 19 (.cpy 1 (.s 14) (.s 18))]
def ZJe:=R [3,4,5] [M 20 3,I 21 (.len 1 (.s 20)),W 22 .sub 21 1,K 4 0,M 5 22]
def ZJf:=R [3,4,5,25] [M 23 4,M 24 5,B 25 .lss 23 24]
def ZJg:=R [3,4,5] [M 30 3,M 31 4,M 32 3,M 33 5,M 34 3,M 35 5,I 36 (.ixS 1 (.s 34) (.s 35)),L 37 36,M 38 3,M 39 4,I 40 (.ixS 1 (.s 38) (.s 39)),L 41 40,I 42 (.ixS 1 (.s 30) (.s 31)),N 1 42 37,I 43 (.ixS 1 (.s 32) (.s 33)),N 1 43 41]
def ZJh:=R [3,4,5] [M 26 4,W 27 .add 26 1,M 28 5,W 29 .sub 28 1,M 4 27,M 5 29]
def ZJi:PC:=(D (D ZJf
 (E 25
 .skip
 (.exit 0)))
 (D (.block 1
 ZJg)
 ZJh))
def ZHN:=R [2] [M 44 3,M 2 44]
def ZBe:PF:=⟨false,
 (D ZJZ
 (D (D ZJa
 (E 7
 (D ZJb
 .ret)
 .skip))
 (D ZJc
 (D ZJd
 (D (D ZJe
 (.block 0
 (.loop ZJi)))
 (D ZHN
 .ret)))))),
 [.s 2]⟩
theorem ZPv:ck0 false [] ZBe Tryz.f117=some ZBe:=by kernel_rfl
def ZCi:=R [0] [I 2 (.mv (.v .nils))]
def ZCj:=R [2] [M 3 0,I 4 (C Y9 [(.s 3),(.v (.int .u8 2))]),M 2 4]
def Xm:PF:=⟨false,
 (D ZCi
 (D ZCj
 .ret)),
 [.s 2]⟩
theorem ZFg:ck0 false [] Xm Tryz.f118=some Xm:=by kernel_rfl
def ZXv:=R [0,1] [I 4 (.mv (.v .nilptr)),K 5 0]
def ZXw:=R [0,1,21] [M 8 0,W 9 .lss 8 1,M 10 9,U 11 10 false 0,G 12 10 false (.bin .gtr (.s 11) (V 16384)),I 13 (.pick (.s 10) (.v (.bool true)) (.s 12)),M 14 13,U 15 14 false 1,G 16 14 false (.bin .lss (.s 15) (.v (.int .u64 1))),I 17 (.pick (.s 14) (.v (.bool true)) (.s 16)),M 18 17,U 19 18 false 1,G 20 18 false (.bin .gtr (.s 19) (.v (.int .u64 4294967295))),I 21 (.pick (.s 18) (.v (.bool true)) (.s 20))]
def ZXx:=R [4,5] [I 4 (.mv (.v .nilptr)),K 5 3]
def ZXy:PC:=(.regH [3,1,5] [0,6] [M 22 0,I 23 (.w (.here 1) (.mkslice 1 8 (.int .i64 0) (.s 22) (.s 22))),M 24 0,I 25 (.w (.here 3) (.mkslice 1 1 (.int .u8 0) (.s 24) (.s 24))),M 26 0,I 27 (.w (.here 5) (.mkslice 1 8 (.int .u64 0) (.s 26) (.s 26))),M 28 1,I 29 (.build [.nils,.nils,.nils,(.int .u64 0)] [(0,1,(.s 23)),(1,1,(.s 25)),(2,1,(.s 27)),(3,1,(.s 28))]),I 30 (.box (.s 29)),M 6 30])
def ZXz:=R [0,6,31,32] [M 31 0,K 32 0]
def ZX0:=R [0,6,31,32,33] [B 33 .lss 32 31]
def ZX1:=R [0,6,7,31,32] [M 34 32,M 7 34]
def ZX2:=R [0,6,7,31,32] [M 35 6,I 36 (.nilck (.s 35)),F 37 0 36,L 38 37,M 39 7,M 40 0,W 41 .sub 40 1,M 42 7,B 43 .sub 41 42,I 44 (.ixS 1 (.s 38) (.s 39)),N 1 44 43]
def ZX3:=R [0,6,31,32] [M 45 6,I 46 (.nilck (.s 45)),F 47 2 46,L 48 47,M 49 7,I 50 (.ixS 1 (.s 48) (.s 49)),J (.st 1 (.s 50) (.v (.int .u64 1)))]
def ZX4:=R [0,6,31,32] [W 51 .add 32 1,M 32 51]
def ZWB:PC:=(D ZX0
 (D (E 33
 .skip
 (.exit 0))
 (D (.block 1
 (D ZX1
 (D ZX2
 ZX3)))
 ZX4)))
def ZWC:=R [4,5] [M 52 6,M 4 52,K 5 0]
def ZPw:PF:=⟨true,
 (D ZXv
 (D (D ZXw
 (E 21
 (D ZXx
 .ret)
 .skip))
 (D ZXy
 (D (D ZXz
 (.block 0
 (.loop ZWB)))
 (D ZWC
 .ret))))),
 [.s 4,.s 5]⟩
theorem Zd6:ck0 true [(3,⟨[0,6],[],[],[],[(1,(.here 1)),(5,(.here 5)),(3,(.here 3))],[3,1,5]⟩)] ZPw Tryz.f147=some ZPw:=by kernel_rfl
def ZUJ:=R [0,2] [I 2 (.box (.v ZM))]
def ZUK:=R [0,2,3] [M 5 0,I 6 (.len 0 (.s 5)),M 7 0,I 8 (C Xr [(.s 7)]),I 9 (.build [(.int .i64 0),(.int .i64 0),(.int .i64 0)] [(0,1,(.s 6)),(1,1,(.s 8))]),I 3 (.box (.v ZM)),N 3 3 9]
def ZUL:=R [0,2,3,4] [K 4 0]
def ZUM:=R [0,2,3,4,13] [M 10 4,M 11 0,I 12 (.len 0 (.s 11)),B 13 .lss 10 12]
def ZUN:=R [0,2,3,4,19] [M 16 0,M 17 4,I 18 (.ixStr (.s 16) (.s 17)),I 19 (.bin .eql (.s 18) (.v (.int .u8 10)))]
def ZUO:=R [0,2,3,4] [F 20 2 3,L 21 20,W 22 .add 21 1,F 23 2 3,N 1 23 22]
def ZUP:=R [0,2,3,4] [M 14 4,W 15 .add 14 1,M 4 15]
def ZUQ:PC:=(D (D ZUM
 (E 13
 .skip
 (.exit 0)))
 (D (.block 1
 (D ZUN
 (E 19
 ZUO
 .skip)))
 ZUP))
def ZUR:=R [2] [T 24 3 3,N 3 2 24]
def ZHO:PF:=⟨false,
 (D ZUJ
 (D ZUK
 (D (D ZUL
 (.block 0
 (.loop ZUQ)))
 (D ZUR
 .ret)))),
 [.c 2 true 3]⟩
theorem ZX6:ck0 false [] ZHO Tryz.f157=some ZHO:=by kernel_rfl
def ZX7:=R [0] [I 2 (.mv (.v .nils))]
def ZX8:=R [0,3] [I 3 (.onil 1)]
def ZX9:=R [0,3,8,9,10] [M 6 0,I 7 (.len 0 (.s 6)),I 8 (C ZBT [(.s 7),(V 16)]),I 9 (.len 1 (.s 8)),K 10 0]
def ZYA:=R [0,3,8,9,10,11] [B 11 .lss 10 9]
def ZYB:=R [0,3,5,8,9,10] [I 12 (.ixS 1 (.s 8) (.s 10)),L 13 12,M 5 13]
def ZYC:=R [0,3,5,8,9,10] [M 14 3,M 15 0,M 16 5,I 17 (.slcS (.s 15) none (some (.s 16))),I 18 (.bslice false 1 [(.str [])] [(0,(.s 17))]),I 19 (.app 1 16 (.s 14) (.s 18)),M 3 19]
def ZYD:=R [0,3,8,9,10] [M 20 0,M 21 5,I 22 (.slcS (.s 20) (some (.s 21)) none),M 0 22]
def ZYE:=R [0,3,8,9,10] [W 23 .add 10 1,M 10 23]
def ZYF:PC:=(D ZYA
 (D (E 11
 .skip
 (.exit 0))
 (D (.block 1
 (D ZYB
 (D ZYC
 ZYD)))
 ZYE)))
def ZYG:=R [2] [M 24 3,M 2 24]
def ZPx:PF:=⟨false,
 (D ZX7
 (D ZX8
 (D (D ZX9
 (.block 0
 (.loop ZYF)))
 (D ZYG
 .ret)))),
 [.s 2]⟩
theorem Zd8:ck0 false [(1,⟨[0,3],[0],[],[],[],[]⟩)] ZPx Tryz.f166=some ZPx:=by kernel_rfl
def Zd9:=R [0,1] [I 4 (.mv (.v .nils)),K 5 0]
def ZeA:=R [0,1,11] [M 6 0,W 7 .lss 6 0,M 8 7,U 9 8 false 1,G 10 8 false (.bin .lss (.s 9) (V 1)),I 11 (.pick (.s 8) (.v (.bool true)) (.s 10))]
def ZeB:=R [4,5] [I 4 (.mv (.v .nils)),K 5 2]
def ZeC:=R [0,1,13] [M 12 0,W 13 .gtr 12 65536]
def ZeD:=R [4,5] [I 4 (.mv (.v .nils)),K 5 5]
def ZeE:=R [4,5] [M 14 0,M 15 1,I 16 (C ZBT [(.s 14),(.s 15)]),M 4 16,K 5 0]
def ZWD:PF:=⟨false,
 (D Zd9
 (D (D ZeA
 (E 11
 (D ZeB
 .ret)
 .skip))
 (D (D ZeC
 (E 13
 (D ZeD
 .ret)
 .skip))
 (D ZeE
 .ret)))),
 [.s 4,.s 5]⟩
theorem ZkR:ck0 false [] ZWD Tryz.f167=some ZWD:=by kernel_rfl
def ZeF:=R [0,2] [I 2 (.box (.v ZT))]
def ZeG:=R [0,2,3] [M 4 0,I 5 (.len 1 (.s 4)),W 6 .eql 5 0,M 3 6]
def ZeH:=R [2] [I 7 (.build [(.int .u64 0),(.int .i64 0),(.int .i64 0),(.int .i64 0),(.int .i64 0),(.str []),.nils] []),N 7 2 7]
def ZeI:=R [0,2,8] [M 9 0,I 10 (.len 1 (.s 9)),W 11 .eql 10 1,M 8 11]
def ZeJ:=R [2] [M 12 0,I 13 (.ixS 7 (.s 12) (V 0)),T 14 7 13,N 7 2 14]
def ZeK:=R [2] [M 15 0,I 16 (.ixS 7 (.s 15) (V 0)),F 17 1 16,L 18 17,W 19 .add 18 1,I 20 (.w .imm (.bslice false 7 [] [])),M 21 0,I 22 (.w .app0 (.app 7 80 (.s 20) (.s 21))),I 23 (.build [(.int .u64 0),(.int .i64 0),(.int .i64 0),(.int .i64 0),(.int .i64 0),(.str []),.nils] [(1,1,(.s 19)),(6,1,(.s 22))]),N 7 2 23]
def ZWE:PF:=⟨false,
 (D ZeF
 (D (.block 0
 (D ZeG
 (E 3
 (D ZeH
 .ret)
 (D ZeI
 (E 8
 (D ZeJ
 .ret)
 .skip)))))
 (D ZeK
 .ret))),
 [.c 2 true 7]⟩
theorem ZkT:ck0 false [(5,⟨[2],[],[],[],[(7,.app0),(5,.imm)],[]⟩)] ZWE Tryz.f168=some ZWE:=by kernel_rfl
def ZSF:=R [0,1] [I 4 (.mv (.v .nilptr)),K 5 0]
def ZSG:=R [0,1,13] [M 8 0,W 9 .lss 8 1,M 10 9,U 11 10 false 0,G 12 10 false (.bin .gtr (.s 11) (V 16384)),I 13 (.pick (.s 10) (.v (.bool true)) (.s 12))]
def ZSH:=R [4,5] [I 4 (.mv (.v .nilptr)),K 5 3]
def ZSI:=R [0,1,19] [M 14 1,I 15 (.bin .lss (.s 14) (.v (.int .u64 1))),M 16 15,U 17 16 false 1,G 18 16 false (.bin .gtr (.s 17) (.v (.int .u64 4294967295))),I 19 (.pick (.s 16) (.v (.bool true)) (.s 18))]
def ZSJ:=R [4,5] [I 4 (.mv (.v .nilptr)),K 5 3]
def ZSK:=R [0,6] [M 20 1,I 21 (.build [(.int .u64 0),.nils,.nils,.nils] [(0,1,(.s 20))]),I 22 (.box (.s 21)),M 6 22]
def ZSL:=R [0,6,7] [K 7 0]
def ZSM:=R [0,6,7,25] [M 23 7,M 24 0,B 25 .lss 23 24]
def ZSN:=R [0,6,7] [M 28 6,M 29 6,I 30 (.nilck (.s 29)),F 31 1 30,L 32 31,I 33 (.bslice false 1 [(.int .i64 0)] [(0,(V 0))]),I 34 (.app 1 8 (.s 32) (.s 33)),I 35 (.nilck (.s 28)),F 36 1 35,N 1 36 34]
def ZSO:=R [0,6,7] [M 37 6,M 38 6,I 39 (.nilck (.s 38)),F 40 2 39,L 41 40,I 42 (.bslice false 1 [(.int .u64 0)] [(0,(.v (.int .u64 1)))]),I 43 (.app 1 8 (.s 41) (.s 42)),I 44 (.nilck (.s 37)),F 45 2 44,N 1 45 43]
def ZPy:=R [0,6,7] [M 46 6,M 47 6,I 48 (.nilck (.s 47)),F 49 3 48,L 50 49,M 51 0,W 52 .sub 51 1,M 53 7,B 54 .sub 52 53,I 55 (.bslice false 1 [(.int .i64 0)] [(0,(.s 54))]),I 56 (.app 1 8 (.s 50) (.s 55)),I 57 (.nilck (.s 46)),F 58 3 57,N 1 58 56]
def ZPz:=R [0,6,7] [M 26 7,W 27 .add 26 1,M 7 27]
def ZP0:PC:=(D (D ZSM
 (E 25
 .skip
 (.exit 0)))
 (D (.block 1
 (D ZSN
 (D ZSO
 ZPy)))
 ZPz))
def ZP1:=R [4,5] [M 59 6,M 4 59,K 5 0]
def ZGB:PF:=⟨true,
 (D ZSF
 (D (D ZSG
 (E 13
 (D ZSH
 .ret)
 .skip))
 (D (D ZSI
 (E 19
 (D ZSJ
 .ret)
 .skip))
 (D ZSK
 (D (D ZSL
 (.block 0
 (.loop ZP0)))
 (D ZP1
 .ret)))))),
 [.s 4,.s 5]⟩
theorem ZWG:ck0 true [] ZGB Tryz.f169=some ZGB:=by kernel_rfl
def ZJj:=R [0] [I 2 (.mv (.v .nils))]
def ZJk:=R [0,3] [I 3 (.onil 1)]
def ZJl:=R [0,3,4] [M 6 0,I 7 (.len 0 (.s 6)),I 8 (C YP [(.s 7),(V 16)]),M 4 8]
def ZJm:=R [0,3,4,5] [K 5 0]
def ZJn:=R [0,3,4,5,12] [M 9 5,M 10 4,I 11 (.len 1 (.s 10)),B 12 .lss 9 11]
def ZJo:=R [0,3,4,5] [M 15 3,M 16 0,M 17 4,M 18 5,I 19 (.ixS 1 (.s 17) (.s 18)),L 20 19,I 21 (.slcS (.s 16) none (some (.s 20))),I 22 (.bslice false 1 [(.str [])] [(0,(.s 21))]),I 23 (.app 1 16 (.s 15) (.s 22)),M 3 23]
def ZJp:=R [0,3,4,5] [M 24 0,M 25 4,M 26 5,I 27 (.ixS 1 (.s 25) (.s 26)),L 28 27,I 29 (.slcS (.s 24) (some (.s 28)) none),M 0 29]
def ZJq:=R [0,3,4,5] [M 13 5,W 14 .add 13 1,M 5 14]
def ZJr:PC:=(D (D ZJn
 (E 12
 .skip
 (.exit 0)))
 (D (.block 1
 (D ZJo
 ZJp))
 ZJq))
def ZJs:=R [2] [M 30 3,M 2 30]
def ZBf:PF:=⟨false,
 (D ZJj
 (D ZJk
 (D ZJl
 (D (D ZJm
 (.block 0
 (.loop ZJr)))
 (D ZJs
 .ret))))),
 [.s 2]⟩
theorem ZP3:ck0 false [(1,⟨[0,3],[0],[],[],[],[]⟩)] ZBf Tryz.f170=some ZBf:=by kernel_rfl
def ZP4:=R [0,2] [I 2 (.box (.v ZT))]
def ZP5:=R [2] [M 3 0,I 4 (.build [(.int .u64 0),(.int .i64 0),(.int .i64 0),(.int .i64 0),(.int .i64 0),(.str []),.nils] [(5,1,(.s 3))]),N 7 2 4]
def ZEl:PF:=⟨false,
 (D ZP4
 (D ZP5
 .ret)),
 [.c 2 true 7]⟩
theorem ZUT:ck0 false [] ZEl Tryz.f171=some ZEl:=by kernel_rfl
def ZNN:=R [0,1] [I 4 (.mv (.v .nils))]
def ZNO:=R [0,1,10] [M 9 0,W 10 .eql 9 0]
def ZNP:=R [4] [I 4 (.mv (.v .nils))]
def ZNQ:=R [0,5] [M 11 0,W 12 .sub 11 1,M 13 1,B 14 .quo 12 13,W 15 .add 14 1,M 5 15]
def ZNR:=R [0,5,6] [I 6 (.onil 1)]
def ZNS:=R [0,5,6,7] [K 7 0]
def ZNT:=R [0,5,6,7,18] [M 16 7,M 17 5,B 18 .lss 16 17]
def ZNU:=R [0,5,6,7,8] [M 21 0,M 22 5,B 23 .quo 21 22,M 8 23]
def ZNV:=R [0,5,6,7,8,28] [M 24 7,M 25 0,M 26 5,B 27 .rem 25 26,B 28 .lss 24 27]
def ZNW:=R [0,5,6,7,8] [M 29 8,W 30 .add 29 1,M 8 30]
def ZJt:=R [0,5,6,7] [M 31 6,M 32 8,I 33 (.bslice false 1 [(.int .i64 0)] [(0,(.s 32))]),I 34 (.app 1 8 (.s 31) (.s 33)),M 6 34]
def ZJu:=R [0,5,6,7] [M 19 7,W 20 .add 19 1,M 7 20]
def ZJv:PC:=(D (D ZNT
 (E 18
 .skip
 (.exit 0)))
 (D (.block 1
 (D ZNU
 (D (D ZNV
 (E 28
 ZNW
 .skip))
 ZJt)))
 ZJu))
def ZJw:=R [4] [M 35 6,M 4 35]
def ZCA:PF:=⟨false,
 (D ZNN
 (D (D ZNO
 (E 10
 (D ZNP
 .ret)
 .skip))
 (D ZNQ
 (D ZNR
 (D (D ZNS
 (.block 0
 (.loop ZJv)))
 (D ZJw
 .ret)))))),
 [.s 4]⟩
theorem ZSQ:ck0 false [(4,⟨[0,5,6],[0],[],[],[],[]⟩)] ZCA Tryz.f172=some ZCA:=by kernel_rfl
def ZNX:=R [0,2] [I 2 (.box (.v ZT))]
def ZNY:=R [2] [M 3 0,I 4 (.ixS 7 (.s 3) (V 0)),F 5 1 4,L 6 5,W 7 .add 6 1,I 8 (.w .imm (.bslice false 7 [] [])),M 9 0,I 10 (.w .app0 (.app 7 80 (.s 8) (.s 9))),I 11 (.build [(.int .u64 0),(.int .i64 0),(.int .i64 0),(.int .i64 0),(.int .i64 0),(.str []),.nils] [(1,1,(.s 7)),(6,1,(.s 10))]),N 7 2 11]
def ZCB:PF:=⟨false,
 (D ZNX
 (D ZNY
 .ret)),
 [.c 2 true 7]⟩
theorem ZSS:ck0 false [(1,⟨[2],[],[],[],[(7,.app0),(5,.imm)],[]⟩)] ZCB Tryz.f173=some ZCB:=by kernel_rfl
def ZNZ:=R [0,2] [I 2 (.box (.v ZT))]
def ZNa:=R [0,2,5] [M 3 0,I 4 (.len 1 (.s 3)),W 5 .eql 4 0]
def ZNb:=R [2] [I 6 (.build [(.int .u64 0),(.int .i64 0),(.int .i64 0),(.int .i64 0),(.int .i64 0),(.str []),.nils] []),N 7 2 6]
def ZNc:=R [0,2,9] [M 7 0,I 8 (.len 1 (.s 7)),W 9 .eql 8 1]
def ZNd:=R [2] [M 10 0,I 11 (.ixS 7 (.s 10) (V 0)),T 12 7 11,N 7 2 12]
def ZNe:=R [2] [M 13 0,I 14 (C Qd [(.s 13)]),N 7 2 14]
def ZCC:PF:=⟨false,
 (D ZNZ
 (D (D ZNa
 (E 5
 (D ZNb
 .ret)
 .skip))
 (D (D ZNc
 (E 9
 (D ZNd
 .ret)
 .skip))
 (D ZNe
 .ret)))),
 [.c 2 true 7]⟩
theorem ZSU:ck0 false [] ZCC Tryz.f174=some ZCC:=by kernel_rfl
def ZHP:=R [0,2] [I 2 (.box (.v ZM))]
def ZHQ:=R [0,2,3] [M 5 0,I 6 (.len 0 (.s 5)),I 7 (.build [(.int .i64 0),(.int .i64 0),(.int .i64 0)] [(0,1,(.s 6))]),I 3 (.box (.v ZM)),N 3 3 7]
def ZHR:=R [0,2,3,4] [K 4 0]
def ZHS:=R [0,2,3,4,11] [M 8 4,M 9 0,I 10 (.len 0 (.s 9)),B 11 .lss 8 10]
def ZHT:=R [0,2,3,4,23] [M 14 0,M 15 4,I 16 (.ixStr (.s 14) (.s 15)),I 17 (.bin .lss (.s 16) (.v (.int .u8 128))),M 18 17,U 19 18 false 0,U 20 18 false 4,G 21 18 false (.ixStr (.s 19) (.s 20)),G 22 18 false (.bin .geq (.s 21) (.v (.int .u8 192))),I 23 (.pick (.s 18) (.v (.bool true)) (.s 22))]
def ZHU:=R [0,2,3,4] [F 24 1 3,L 25 24,W 26 .add 25 1,F 27 1 3,N 1 27 26]
def ZHV:=R [0,2,3,4,31] [M 28 0,M 29 4,I 30 (.ixStr (.s 28) (.s 29)),I 31 (.bin .eql (.s 30) (.v (.int .u8 10)))]
def ZHW:=R [0,2,3,4] [F 32 2 3,L 33 32,W 34 .add 33 1,F 35 2 3,N 1 35 34]
def ZHX:=R [0,2,3,4] [M 12 4,W 13 .add 12 1,M 4 13]
def ZHY:PC:=(D (D ZHS
 (E 11
 .skip
 (.exit 0)))
 (D (.block 1
 (D (D ZHT
 (E 23
 ZHU
 .skip))
 (D ZHV
 (E 31
 ZHW
 .skip))))
 ZHX))
def ZGd:=R [2] [T 36 3 3,N 3 2 36]
def ZA3:PF:=⟨false,
 (D ZHP
 (D ZHQ
 (D (D ZHR
 (.block 0
 (.loop ZHY)))
 (D ZGd
 .ret)))),
 [.c 2 true 3]⟩
theorem ZNg:ck0 false [] ZA3 Tryz.f175=some ZA3:=by kernel_rfl
def ZeL:=R [1] [I 1 (.box (.s 0)),K 2 0]
def ZeM:=R [1,5] [T 3 3 1,I 4 (C Xx [(.s 3)]),I 5 (.un .not (.s 4))]
def ZeN:=R [2] [K 2 23]
def ZeO:=R [9] [T 6 3 1,I 7 (C ZBJ [(.s 6)]),I 8 (.fld false 0 1 (.s 7)),W 9 .gtr 8 65536]
def ZeP:=R [2] [K 2 5]
def ZeQ:=R [2] [K 2 0]
def ZWH:PF:=⟨false,
 (D ZeL
 (D (D ZeM
 (E 5
 (D ZeN
 .ret)
 .skip))
 (D (D ZeO
 (E 9
 (D ZeP
 .ret)
 .skip))
 (D ZeQ
 .ret)))),
 [.s 2]⟩
theorem ZkV:ck0 false [] ZWH Tryz.f176=some ZWH:=by kernel_rfl
def ZYH:=R [1,2] [I 1 (.box (.s 0)),I 2 (.box (.v ZM)),K 3 0]
def ZYI:=R [1,2,4] [T 5 3 1,I 6 (C ZAi [(.s 5)]),M 4 6]
def ZYJ:=R [1,2,4,8] [M 7 4,W 8 .neq 7 0]
def ZYK:=R [2,3] [I 9 (.build [(.int .i64 0),(.int .i64 0),(.int .i64 0)] []),M 10 4,N 3 2 9,M 3 10]
def ZYL:=R [2,3] [T 11 3 1,I 12 (C ZBJ [(.s 11)]),N 3 2 12,K 3 0]
def ZP6:PF:=⟨false,
 (D ZYH
 (D (D ZYI
 (D ZYJ
 (E 8
 (D ZYK
 .ret)
 .skip)))
 (D ZYL
 .ret))),
 [.c 2 true 3,.s 3]⟩
theorem ZeS:ck0 false [] ZP6 Tryz.f177=some ZP6:=by kernel_rfl
def ZJx:=R [0] [I 2 (.mv (.v (.int .u64 0))),K 3 0]
def ZJy:=R [0,6] [M 5 0,I 6 (.eqs false 3 [] (.s 5) (.v .nilptr))]
def ZJz:=R [2,3] [I 2 (.mv (.v (.int .u64 0))),K 3 1]
def ZJ0:=R [0,12] [M 7 0,I 8 (.nilck (.s 7)),F 9 0 8,L 10 9,I 11 (.len 1 (.s 10)),W 12 .eql 11 0]
def ZJ1:=R [2,3] [I 2 (.mv (.v (.int .u64 0))),K 3 6]
def ZJ2:=R [0,4] [M 13 0,I 14 (.nilck (.s 13)),F 15 0 14,L 16 15,M 17 0,I 18 (.nilck (.s 17)),F 19 0 18,L 20 19,I 21 (.len 1 (.s 20)),W 22 .sub 21 1,I 23 (.ixS 1 (.s 16) (.s 22)),L 24 23,M 4 24]
def ZJ3:=R [0,4] [M 25 0,M 26 0,I 27 (.nilck (.s 26)),F 28 0 27,L 29 28,M 30 0,I 31 (.nilck (.s 30)),F 32 0 31,L 33 32,I 34 (.len 1 (.s 33)),W 35 .sub 34 1,I 36 (.slc 1 (.s 29) none (some (.s 35))),I 37 (.nilck (.s 25)),F 38 0 37,N 1 38 36]
def ZJ4:=R [0,4] [M 39 0,I 40 (.nilck (.s 39)),F 41 1 40,L 42 41,M 43 4,I 44 (.ixS 1 (.s 42) (.s 43)),J (.st 1 (.s 44) (.v (.int .u8 1)))]
def ZJ5:=R [2,3] [M 45 4,M 46 0,I 47 (.nilck (.s 46)),F 48 2 47,L 49 48,M 50 4,I 51 (.ixS 1 (.s 49) (.s 50)),L 52 51,I 53 (C ZGR [(.s 45),(.s 52)]),X 54 53 0,X 55 53 1,M 2 54,M 3 55]
def ZBg:PF:=⟨false,
 (D ZJx
 (D (D ZJy
 (E 6
 (D ZJz
 .ret)
 .skip))
 (D (D ZJ0
 (E 12
 (D ZJ1
 .ret)
 .skip))
 (D ZJ2
 (D ZJ3
 (D ZJ4
 (D ZJ5
 .ret))))))),
 [.s 2,.s 3]⟩
theorem ZP8:ck0 false [] ZBg Tryz.f178=some ZBg:=by kernel_rfl
def ZNh:=R [1] [I 1 (.box (.s 0)),K 2 0]
def ZNi:=R [1,5] [T 3 3 1,I 4 (C JW [(.s 3)]),I 5 (.un .not (.s 4))]
def ZNj:=R [2] [K 2 23]
def ZNk:=R [12] [T 6 3 1,F 7 2 1,L 8 7,I 9 (.len 1 (.s 8)),I 10 (C Jc [(.s 6),(.s 9)]),I 11 (.fld false 0 1 (.s 10)),W 12 .gtr 11 65536]
def ZNl:=R [2] [K 2 5]
def ZNm:=R [2] [K 2 0]
def ZCD:PF:=⟨false,
 (D ZNh
 (D (D ZNi
 (E 5
 (D ZNj
 .ret)
 .skip))
 (D (D ZNk
 (E 12
 (D ZNl
 .ret)
 .skip))
 (D ZNm
 .ret)))),
 [.s 2]⟩
theorem ZSW:ck0 false [] ZCD Tryz.f180=some ZCD:=by kernel_rfl
def ZEm:=R [0,3] [I 3 (.box (.s 1)),K 4 0]
def ZEn:=R [0,3,5] [K 5 0]
def ZEo:=R [0,3,5,14] [M 10 5,F 11 2 3,L 12 11,I 13 (.len 1 (.s 12)),B 14 .lss 10 13]
def ZEp:=R [0,3,5,6] [M 17 0,F 18 2 3,L 19 18,M 20 5,I 21 (.ixS 4 (.s 19) (.s 20)),F 22 0 21,L 23 22,I 24 (C JT [(.s 17),(.s 23)]),M 6 24]
def ZEq:=R [0,3,5,6,26] [M 25 6,W 26 .lss 25 0]
def ZEr:=R [4] [K 4 10]
def ZEs:=R [0,3,5,7] [M 27 0,I 28 (.nilck (.s 27)),F 29 1 28,L 30 29,M 31 6,I 32 (.ixS 4 (.s 30) (.s 31)),F 33 1 32,T 34 3 33,I 7 (.box (.v ZN)),N 3 7 34]
def ZEt:=R [0,3,5,7,8] [T 36 3 7,I 37 (C J3 [(.s 36)]),M 35 37,X 38 35 0,X 39 35 1,I 8 (.box (.v ZM)),N 3 8 38,M 9 39]
def ZEu:=R [0,3,5,55] [F 40 0 7,L 41 40,F 42 0 3,L 43 42,W 44 .sub 43 1,B 45 .neq 41 44,M 46 45,G 47 46 false (.ld true 3 (.s 8)),G 48 46 false (.fadr 2 (.s 3)),G 49 46 false (.ld false 1 (.s 48)),U 50 46 false 5,G 51 46 false (.ixS 4 (.s 49) (.s 50)),G 52 46 false (.fadr 1 (.s 51)),G 53 46 false (.ld true 3 (.s 52)),G 54 46 false (.eqs true 0 [(0,0),(1,0),(2,0)] (.s 47) (.s 53)),I 55 (.pick (.s 46) (.v (.bool true)) (.s 54))]
def ZEv:=R [4] [K 4 23]
def ZCk:=R [0,3,5] [M 15 5,W 16 .add 15 1,M 5 16]
def ZCl:PC:=(D (D ZEo
 (E 14
 .skip
 (.exit 0)))
 (D (.block 1
 (D ZEp
 (D (D ZEq
 (E 26
 (D ZEr
 .ret)
 .skip))
 (D ZEs
 (D ZEt
 (D ZEu
 (E 55
 (D ZEv
 .ret)
 .skip)))))))
 ZCk))
def ZCm:=R [4] [K 4 0]
def Xz:PF:=⟨false,
 (D ZEm
 (D (D ZEn
 (.block 0
 (.loop ZCl)))
 (D ZCm
 .ret))),
 [.s 4]⟩
theorem ZGf:ck0 false [] Xz Tryz.f181=some Xz:=by kernel_rfl
def ZFh:=R [0] [I 2 (.mv (.v (.int .u64 0))),K 3 0]
def ZFi:=R [0,6] [M 5 0,I 6 (.eqs false 3 [] (.s 5) (.v .nilptr))]
def ZFj:=R [2,3] [I 2 (.mv (.v (.int .u64 0))),K 3 1]
def ZFk:=R [0,12] [M 7 0,I 8 (.nilck (.s 7)),F 9 3 8,L 10 9,I 11 (.len 1 (.s 10)),W 12 .eql 11 0]
def ZFl:=R [2,3] [I 2 (.mv (.v (.int .u64 0))),K 3 6]
def ZFm:=R [0,4] [M 13 0,I 14 (.nilck (.s 13)),F 15 3 14,L 16 15,M 17 0,I 18 (.nilck (.s 17)),F 19 3 18,L 20 19,I 21 (.len 1 (.s 20)),W 22 .sub 21 1,I 23 (.ixS 1 (.s 16) (.s 22)),L 24 23,M 4 24]
def ZFn:=R [0,4] [M 25 0,M 26 0,I 27 (.nilck (.s 26)),F 28 3 27,L 29 28,M 30 0,I 31 (.nilck (.s 30)),F 32 3 31,L 33 32,I 34 (.len 1 (.s 33)),W 35 .sub 34 1,I 36 (.slc 1 (.s 29) none (some (.s 35))),I 37 (.nilck (.s 25)),F 38 3 37,N 1 38 36]
def ZFo:=R [0,4] [M 39 0,I 40 (.nilck (.s 39)),F 41 1 40,L 42 41,M 43 4,I 44 (.ixS 1 (.s 42) (.s 43)),J (.st 1 (.s 44) (V 1))]
def ZFp:=R [2,3] [M 45 4,M 46 0,I 47 (.nilck (.s 46)),F 48 2 47,L 49 48,M 50 4,I 51 (.ixS 1 (.s 49) (.s 50)),L 52 51,I 53 (C ZAM [(.s 45),(.s 52)]),X 54 53 0,X 55 53 1,M 2 54,M 3 55]
def ZAW:PF:=⟨false,
 (D ZFh
 (D (D ZFi
 (E 6
 (D ZFj
 .ret)
 .skip))
 (D (D ZFk
 (E 12
 (D ZFl
 .ret)
 .skip))
 (D ZFm
 (D ZFn
 (D ZFo
 (D ZFp
 .ret))))))),
 [.s 2,.s 3]⟩
theorem ZHa:ck0 false [] ZAW Tryz.f182=some ZAW:=by kernel_rfl
def ZGg:=R [1,2] [I 1 (.box (.s 0)),I 2 (.box (.v ZN))]
def ZGh:=R [2] [F 3 0 1,L 4 3,F 5 1 1,L 6 5,F 7 2 1,L 8 7,I 9 (.call .pure (.v (.func (.func JX) [] [])) [(.s 8)]),I 10 (.build [(.int .i64 0),(.str []),.nils] [(0,1,(.s 4)),(1,1,(.s 6)),(2,1,(.s 9))]),N 3 2 10]
def ZAu:PF:=⟨false,
 (D ZGg
 (D ZGh
 .ret)),
 [.c 2 true 3]⟩
theorem ZJ7:ck0 false [(1,⟨[2],[],[(6,.pure)],[],[],[]⟩)] ZAu Tryz.f183=some ZAu:=by kernel_rfl
def Zg4:=R [0,1,2,7] [I 7 (.box (.s 3)),K 8 0]
def Zg5:=R [2,7,9,10] [M 13 0,M 14 1,I 15 (C Jb [(.s 13),(.s 14)]),M 12 15,X 16 12 0,X 17 12 1,I 9 (.box (.v ZN)),N 3 9 16,M 10 17]
def Zg6:=R [2,7,9,10,19] [M 18 10,W 19 .neq 18 0]
def Zg7:=R [8] [M 20 10,M 8 20]
def Zg8:=R [2,7,9,10,11] [T 22 3 9,I 23 (C ZAj [(.s 22)]),M 21 23,X 24 21 0,X 25 21 1,I 11 (.box (.v ZM)),N 3 11 24,M 10 25]
def Zg9:=R [38] [M 26 10,W 27 .neq 26 0,M 28 27,G 29 28 false (.fadr 0 (.s 9)),G 30 28 false (.ld false 1 (.s 29)),U 31 28 false 2,G 32 28 false (.bin .neq (.s 30) (.s 31)),I 33 (.pick (.s 28) (.v (.bool true)) (.s 32)),M 34 33,G 35 34 false (.ld true 3 (.s 11)),G 36 34 false (.ld true 3 (.s 7)),G 37 34 false (.eqs true 0 [(0,0),(1,0),(2,0)] (.s 35) (.s 36)),I 38 (.pick (.s 34) (.v (.bool true)) (.s 37))]
def ZhA:=R [8] [K 8 23]
def ZhB:=R [8] [K 8 0]
def ZZP:PF:=⟨false,
 (D Zg4
 (D Zg5
 (D (D Zg6
 (E 19
 (D Zg7
 .ret)
 .skip))
 (D Zg8
 (D (D Zg9
 (E 38
 (D ZhA
 .ret)
 .skip))
 (D ZhB
 .ret)))))),
 [.s 8]⟩
theorem Zm4:ck0 false [] ZZP Tryz.f184=some ZZP:=by kernel_rfl
def ZhC:=R [0,3,5,6] [I 5 (.box (.s 1)),I 6 (.box (.s 2)),K 8 0]
def ZhD:=R [0,3,5,6,14,15,16] [T 12 7 5,T 13 7 6,I 14 (.bslice false 7 [ZT,ZT] [(0,(.s 12)),(1,(.s 13))]),I 15 (.len 1 (.s 14)),K 16 0]
def ZhE:=R [0,3,5,6,14,15,16,17] [B 17 .lss 16 15]
def ZhF:=R [0,3,5,6,10,14,15,16] [I 18 (.ixS 7 (.s 14) (.s 16)),T 19 7 18,I 10 (.box (.v ZT)),N 7 10 19]
def ZhG:=R [0,3,5,6,11,14,15,16] [M 20 0,T 21 7 10,I 22 (C Js [(.s 20),(.s 21)]),M 11 22]
def ZhH:=R [0,3,5,6,11,14,15,16,24] [M 23 11,W 24 .neq 23 0]
def ZhI:=R [8] [M 25 11,M 8 25]
def ZhJ:=R [0,3,5,6,14,15,16] [W 26 .add 16 1,M 16 26]
def ZhK:PC:=(D ZhE
 (D (E 17
 .skip
 (.exit 0))
 (D (.block 1
 (D ZhF
 (D ZhG
 (D ZhH
 (E 24
 (D ZhI
 .ret)
 .skip)))))
 ZhJ)))
def ZhL:=R [5,6,38] [M 27 3,I 28 (.un .not (.s 27)),M 29 28,G 30 29 true (.ld true 7 (.s 5)),G 31 29 true (C QQ [(.s 30)]),G 32 29 true (.bin .eql (.s 31) (V 1)),U 33 29 true 32,G 34 33 false (.ld true 7 (.s 6)),G 35 33 false (C QQ [(.s 34)]),G 36 33 false (.bin .eql (.s 35) (V 1)),G 37 29 true (.pick (.s 33) (.v (.bool true)) (.s 36)),I 38 (.pick (.s 29) (.s 37) (.v (.bool false)))]
def ZeT:=R [8] [K 8 2]
def ZeU:=R [44] [T 39 7 5,I 40 (.call .pure (.v (.func (.func QU) [] [])) [(.s 39)]),T 41 7 6,I 42 (C QU [(.s 41)]),B 43 .add 40 42,W 44 .gtr 43 65536]
def ZeV:=R [8] [K 8 5]
def ZeW:=R [8] [K 8 0]
def ZZQ:PF:=⟨false,
 (D ZhC
 (D (D ZhD
 (.block 0
 (.loop ZhK)))
 (D (D ZhL
 (E 38
 (D ZeT
 .ret)
 .skip))
 (D (D ZeU
 (E 44
 (D ZeV
 .ret)
 .skip))
 (D ZeW
 .ret))))),
 [.s 8]⟩
theorem Zm6:ck0 false [(10,⟨[44],[],[(1,.pure)],[],[],[]⟩)] ZZQ Tryz.f185=some ZZQ:=by kernel_rfl
def ZaP:=R [0,4,5,6] [I 4 (.box (.s 1)),I 5 (.box (.s 2)),I 6 (.box (.v ZT)),K 7 0]
def ZaQ:=R [0,4,5,6,12] [T 10 7 4,I 11 (C QQ [(.s 10)]),W 12 .eql 11 1]
def ZaR:=R [6,7] [T 13 7 5,N 7 6 13,K 7 0]
def ZaS:=R [0,4,5,6,16] [T 14 7 5,I 15 (C QQ [(.s 14)]),W 16 .eql 15 1]
def ZaT:=R [6,7] [T 17 7 4,N 7 6 17,K 7 0]
def ZaU:=R [6,8,9] [M 19 0,T 20 7 4,T 21 7 5,I 22 (C Xf [(.s 19),(.s 20),(.s 21)]),M 18 22,X 23 18 0,X 24 18 1,M 8 23,M 9 24]
def ZaV:=R [6,8,9,26] [M 25 9,W 26 .neq 25 0]
def ZaW:=R [6,7] [I 27 (.build [(.int .u64 0),(.int .i64 0),(.int .i64 0),(.int .i64 0),(.int .i64 0),(.str []),.nils] []),M 28 9,N 7 6 27,M 7 28]
def ZaX:=R [6,7] [M 29 8,I 30 (C QJ [(.s 29)]),N 7 6 30,K 7 0]
def ZTJ:PF:=⟨false,
 (D ZaP
 (D (D ZaQ
 (E 12
 (D ZaR
 .ret)
 .skip))
 (D (D ZaS
 (E 16
 (D ZaT
 .ret)
 .skip))
 (D ZaU
 (D (D ZaV
 (E 26
 (D ZaW
 .ret)
 .skip))
 (D ZaX
 .ret)))))),
 [.c 6 true 7,.s 7]⟩
theorem ZhN:ck0 false [] ZTJ Tryz.f186=some ZTJ:=by kernel_rfl
def ZkW:=R [1,2] [I 1 (.box (.s 0)),I 2 (.box (.v ZT))]
def ZkX:=R [1,2,9] [F 6 6 1,L 7 6,I 8 (.len 1 (.s 7)),W 9 .eql 8 0]
def ZkY:=R [1,2] [F 10 6 1,J (.st 1 (.s 10) (.v .nils))]
def ZkZ:=R [2] [T 11 7 1,N 7 2 11]
def Zka:=R [1,2,3] [F 12 6 1,L 13 12,I 14 (.len 1 (.s 13)),I 15 (.mkslice 7 80 ZT (.s 14) (.s 14)),M 3 15]
def Zkb:=R [1,2,3,17,18,19] [F 16 6 1,L 17 16,I 18 (.len 1 (.s 17)),K 19 0]
def Zkc:=R [1,2,3,17,18,19,20] [B 20 .lss 19 18]
def Zkd:=R [1,2,3,4,5,17,18,19] [M 21 19,I 22 (.ixS 7 (.s 17) (.s 19)),T 23 7 22,I 5 (.box (.v ZT)),M 4 21,N 7 5 23]
def Zke:=R [1,2,3,17,18,19] [M 24 3,M 25 4,T 26 7 5,I 27 (C Yp [(.s 26)]),I 28 (.ixS 7 (.s 24) (.s 25)),N 7 28 27]
def Zkf:=R [1,2,3,17,18,19] [W 29 .add 19 1,M 19 29]
def ZhO:PC:=(D Zkc
 (D (E 20
 .skip
 (.exit 0))
 (D (.block 1
 (D Zkd
 Zke))
 Zkf)))
def ZhP:=R [1,2] [M 30 3,F 31 6 1,N 1 31 30]
def ZhQ:=R [2] [T 32 7 1,N 7 2 32]
def ZeX:PF:=⟨false,
 (D ZkW
 (D (D ZkX
 (E 9
 (D ZkY
 (D ZkZ
 .ret))
 .skip))
 (D Zka
 (D (D Zkb
 (.block 0
 (.loop ZhO)))
 (D ZhP
 (D ZhQ
 .ret)))))),
 [.c 2 true 7]⟩
theorem ZpF:ck0 false [] ZeX Tryz.f187=some ZeX:=by kernel_rfl
def ZP9:=R [0,4,5] [I 4 (.box (.s 1)),I 5 (.box (.s 2)),K 6 0]
def ZQA:=R [0,5,7] [M 8 0,T 9 7 4,I 10 (C Jk [(.s 8),(.s 9)]),M 7 10]
def ZQB:=R [0,5,7,12] [M 11 7,W 12 .neq 11 0]
def ZQC:=R [6] [M 13 7,M 6 13]
def ZQD:=R [6] [M 14 0,T 15 7 5,I 16 (C Jk [(.s 14),(.s 15)]),M 6 16]
def ZEw:PF:=⟨false,
 (D ZP9
 (D ZQA
 (D (D ZQB
 (E 12
 (D ZQC
 .ret)
 .skip))
 (D ZQD
 .ret)))),
 [.s 6]⟩
theorem ZUV:ck0 false [] ZEw Tryz.f188=some ZEw:=by kernel_rfl
def ZJ8:=R [0,4,5,6] [I 4 (.box (.s 1)),I 5 (.box (.s 2)),I 6 (.box (.v ZT))]
def ZJ9:=R [0,4,5,6,8] [T 7 7 4,I 8 (C Zy [(.s 7)])]
def ZKA:=R [6] [T 9 7 5,N 7 6 9]
def ZKB:=R [0,4,5,6,11] [T 10 7 5,I 11 (C Zy [(.s 10)])]
def ZKC:=R [6] [T 12 7 4,N 7 6 12]
def ZKD:=R [6] [M 13 0,T 14 7 4,T 15 7 5,I 16 (.call .inner (.v (.func (.func Qi) [] [])) [(.s 13),(.s 14),(.s 15)]),I 17 (C Z3 [(.s 16)]),N 7 6 17]
def ZBh:PF:=⟨false,
 (D ZJ8
 (D (D ZJ9
 (E 8
 (D ZKA
 .ret)
 .skip))
 (D (D ZKB
 (E 11
 (D ZKC
 .ret)
 .skip))
 (D ZKD
 .ret)))),
 [.c 6 true 7]⟩
theorem ZQF:ck0 false [(5,⟨[6],[],[(3,.inner)],[],[],[]⟩)] ZBh Tryz.f189=some ZBh:=by kernel_rfl
def ZeY:=R [0,4,5] [I 4 (.box (.s 1)),I 5 (.box (.s 2)),I 6 (.mv (.v .nils)),K 7 0]
def ZeZ:=R [0,4,5,22] [F 15 1 4,L 16 15,W 17 .eql 16 0,M 18 17,G 19 18 true (.fadr 1 (.s 5)),G 20 18 true (.ld false 1 (.s 19)),G 21 18 true (.bin .eql (.s 20) (V 0)),I 22 (.pick (.s 18) (.s 21) (.v (.bool false)))]
def Zea:=R [6,7] [M 23 0,T 24 7 4,T 25 7 5,I 26 (C ZGS [(.s 23),(.s 24),(.s 25)]),X 27 26 0,X 28 26 1,M 6 27,M 7 28]
def Zeb:=R [0,4,5,8,9] [I 8 (.mv (.v .nils)),I 9 (.mv (.v .nils))]
def Zec:=R [0,4,5,8,9] [K 10 0]
def Zed:=R [0,4,5,8,9,33] [F 29 1 4,L 30 29,F 31 1 5,L 32 31,B 33 .geq 30 32]
def Zee:=R [0,4,5,8,9,10] [M 35 0,T 36 7 4,I 37 (C J7 [(.s 35),(.s 36)]),M 34 37,X 38 34 0,X 39 34 1,M 8 38,M 10 39]
def Zef:=R [0,4,5,8,9,10,41] [M 40 10,W 41 .neq 40 0]
def Zeg:=R [6,7] [M 42 10,I 6 (.mv (.v .nils)),M 7 42]
def Zeh:=R [0,4,5,8,9,47] [F 43 1 5,L 44 43,F 45 1 4,L 46 45,B 47 .geq 44 46]
def ZaY:=R [0,4,5,8,9,10] [M 49 0,T 50 7 5,I 51 (C J7 [(.s 49),(.s 50)]),M 48 51,X 52 48 0,X 53 48 1,M 9 52,M 10 53]
def ZaZ:=R [0,4,5,8,9,10,55] [M 54 10,W 55 .neq 54 0]
def Zaa:=R [6,7] [M 56 10,I 6 (.mv (.v .nils)),M 7 56]
def Zab:=R [0,4,5,8,9,57] [F 58 1 4,L 59 58,F 60 1 5,L 61 60,B 62 .eql 59 61,M 63 62,U 64 63 true 8,G 65 63 true (.len 1 (.s 64)),U 66 63 true 9,G 67 63 true (.len 1 (.s 66)),G 68 63 true (.bin .add (.s 65) (.s 67)),G 69 63 true (.bin .leq (.s 68) (V 4)),I 70 (.pick (.s 63) (.s 69) (.v (.bool false))),M 57 70]
def Zac:=R [6,7] [I 71 (.bslice false 7 [] []),M 72 8,I 73 (.app 7 80 (.s 71) (.s 72)),M 74 9,I 75 (.app 7 80 (.s 73) (.s 74)),I 76 (C QJ [(.s 75)]),I 77 (.bslice false 7 [ZT] [(0,(.s 76))]),M 6 77,K 7 0]
def Zad:=R [0,4,5,8,9,78] [F 79 1 4,L 80 79,F 81 1 5,L 82 81,B 83 .eql 80 82,M 78 83]
def Zae:=R [6,7] [T 84 7 4,T 85 7 5,I 86 (.bslice false 7 [ZT,ZT] [(0,(.s 84)),(1,(.s 85))]),M 6 86,K 7 0]
def Zaf:=R [0,4,5,8,9,87] [F 88 1 4,L 89 88,F 90 1 5,L 91 90,B 92 .gtr 89 91,M 87 92]
def Zag:=R [0,5,8,11] [M 93 8,I 94 (.len 1 (.s 93)),W 95 .sub 94 1,M 11 95]
def Zah:=R [8,11,12,13] [M 97 0,M 98 8,M 99 11,I 100 (.ixS 7 (.s 98) (.s 99)),T 101 7 100,T 102 7 5,I 103 (C Xf [(.s 97),(.s 101),(.s 102)]),M 96 103,X 104 96 0,X 105 96 1,M 12 104,M 13 105]
def Zai:=R [8,11,12,13,107] [M 106 13,W 107 .neq 106 0]
def Zaj:=R [6,7] [M 108 13,I 6 (.mv (.v .nils)),M 7 108]
def Zak:=R [6,7] [I 109 (.bslice false 7 [] []),M 110 8,M 111 11,I 112 (.slc 7 (.s 110) none (some (.s 111))),I 113 (.app 7 80 (.s 109) (.s 112)),M 114 12,I 115 (.app 7 80 (.s 113) (.s 114)),I 116 (C ZF7 [(.s 115)]),M 6 116,K 7 0]
def Zal:=R [9,10,14] [M 118 0,T 119 7 4,M 120 9,I 121 (.ixS 7 (.s 120) (V 0)),T 122 7 121,I 123 (C Xf [(.s 118),(.s 119),(.s 122)]),M 117 123,X 124 117 0,X 125 117 1,M 14 124,M 10 125]
def Zam:=R [9,10,14,127] [M 126 10,W 127 .neq 126 0]
def Zan:=R [6,7] [M 128 10,I 6 (.mv (.v .nils)),M 7 128]
def Zao:=R [6,7] [I 129 (.w .imm (.bslice false 7 [] [])),M 130 14,I 131 (.w .app0 (.app 7 80 (.s 129) (.s 130))),M 132 9,I 133 (.w .blind (.slc 7 (.s 132) (some (V 1)) none)),I 134 (.app 7 80 (.s 131) (.s 133)),I 135 (C ZF7 [(.s 134)]),M 6 135,K 7 0]
def ZWI:PF:=⟨false,
 (D ZeY
 (D (D ZeZ
 (E 22
 (D Zea
 .ret)
 .skip))
 (D Zeb
 (D Zec
 (D (D Zed
 (E 33
 (D Zee
 (D Zef
 (E 41
 (D Zeg
 .ret)
 .skip)))
 .skip))
 (D (D Zeh
 (E 47
 (D ZaY
 (D ZaZ
 (E 55
 (D Zaa
 .ret)
 .skip)))
 .skip))
 (D (.block 0
 (D Zab
 (E 57
 (D Zac
 .ret)
 (D Zad
 (E 78
 (D Zae
 .ret)
 (D Zaf
 (E 87
 (D Zag
 (D Zah
 (D (D Zai
 (E 107
 (D Zaj
 .ret)
 .skip))
 (D Zak
 .ret))))
 .skip)))))))
 (D Zal
 (D (D Zam
 (E 127
 (D Zan
 .ret)
 .skip))
 (D Zao
 .ret)))))))))),
 [.s 6,.s 7]⟩
theorem Zkh:ck0 false [(26,⟨[6,7],[],[],[],[(4,.blind),(2,.app0),(0,.imm)],[]⟩)] ZWI Tryz.f190=some ZWI:=by kernel_rfl
def Zki:=R [0] [I 2 (.mv (.v .nils))]
def Zkj:=R [0,3] [I 3 (.onil 7)]
def Zkk:=R [3,6,7,8] [M 6 0,I 7 (.len 1 (.s 6)),K 8 0]
def Zkl:=R [3,6,7,8,9] [B 9 .lss 8 7]
def Zkm:=R [3,5,6,7,8] [I 10 (.ixS 7 (.s 6) (.s 8)),T 11 7 10,I 5 (.box (.v ZT)),N 7 5 11]
def Zkn:=R [3,6,7,8] [M 12 3,T 13 7 5,I 14 (C Yp [(.s 13)]),I 15 (.bslice false 7 [ZT] [(0,(.s 14))]),I 16 (.app 7 80 (.s 12) (.s 15)),M 3 16]
def Zko:=R [3,6,7,8] [W 17 .add 8 1,M 8 17]
def Zkp:PC:=(D Zkl
 (D (E 9
 .skip
 (.exit 0))
 (D (.block 1
 (D Zkm
 Zkn))
 Zko)))
def Zkq:=R [2] [M 18 3,M 2 18]
def Zei:PF:=⟨false,
 (D Zki
 (D Zkj
 (D (D Zkk
 (.block 0
 (.loop Zkp)))
 (D Zkq
 .ret)))),
 [.s 2]⟩
theorem ZpH:ck0 false [(1,⟨[0,3],[0],[],[],[],[]⟩)] Zei Tryz.f191=some Zei:=by kernel_rfl
def ZKE:=R [0,4,5] [I 4 (.box (.s 1)),I 5 (.box (.s 2)),I 6 (.mv (.v .nils))]
def ZKF:=R [0,4,5,24] [F 17 1 4,L 18 17,W 19 .eql 18 0,M 20 19,G 21 20 true (.fadr 1 (.s 5)),G 22 20 true (.ld false 1 (.s 21)),G 23 20 true (.bin .eql (.s 22) (V 0)),I 24 (.pick (.s 20) (.s 23) (.v (.bool false)))]
def ZKG:=R [4,5,7,8] [M 25 0,T 26 7 4,I 27 (.call .pure (.v (.func (.func Qc) [] [])) [(.s 25),(.s 26)]),M 28 0,T 29 7 5,I 30 (C Qc [(.s 28),(.s 29)]),M 7 27,M 8 30]
def ZKH:=R [4,5,7,8,46] [M 31 7,I 32 (.len 0 (.s 31)),M 33 8,I 34 (.len 0 (.s 33)),B 35 .add 32 34,W 36 .gtr 35 16,M 37 36,U 38 37 true 7,G 39 37 true (.len 0 (.s 38)),G 40 37 true (.bin .geq (.s 39) (V 8)),I 41 (.pick (.s 37) (.s 40) (.v (.bool false))),M 42 41,U 43 42 true 8,G 44 42 true (.len 0 (.s 43)),G 45 42 true (.bin .geq (.s 44) (V 8)),I 46 (.pick (.s 42) (.s 45) (.v (.bool false)))]
def ZKI:=R [6] [T 47 7 4,T 48 7 5,I 49 (.bslice true 7 [ZT,ZT] [(0,(.s 47)),(1,(.s 48))]),M 6 49]
def ZKJ:=R [9] [M 51 7,M 52 8,I 53 (C ZAN [(.s 51),(.s 52)]),M 50 53,X 54 50 0,X 55 50 1,M 9 54,M 10 55]
def ZKK:=R [9,11] [I 11 (.onil 7)]
def ZKL:=R [9,11,12] [K 12 0]
def ZKM:=R [9,11,12,59] [M 56 12,M 57 9,I 58 (.len 1 (.s 57)),B 59 .lss 56 58]
def ZKN:=R [9,11,12] [M 62 11,M 63 9,M 64 12,I 65 (.ixS 1 (.s 63) (.s 64)),L 66 65,I 67 (C JM [(.s 66)]),I 68 (.bslice false 7 [ZT] [(0,(.s 67))]),I 69 (.app 7 80 (.s 62) (.s 68)),M 11 69]
def ZHb:=R [9,11,12] [M 60 12,W 61 .add 60 1,M 12 61]
def p_quartoref15_Merged_11:PC:=(D (D ZKM
 (E 59
 .skip
 (.exit 0)))
 (D (.block 1
 ZKN)
 ZHb))
def ZHc:=R [6] [M 70 11,M 6 70]
def ZHd:=R [0,4,5,75] [F 71 1 4,L 72 71,F 73 1 5,L 74 73,B 75 .eql 72 74]
def ZHe:=R [4,5,13] [M 76 0,T 77 7 4,I 78 (.call (.give 2) (.v (.func (.func QA) [] [])) [(.s 76),(.s 77)]),M 79 0,I 80 (.w (.first (.s 5) 2) (.ld true 7 (.s 5))),I 81 (.call .inner (.v (.func (.func QA) [] [])) [(.s 79),(.s 80)]),I 82 (.app 7 80 (.s 78) (.s 81)),M 13 82]
def ZHf:=R [4,5,13,85] [M 83 13,I 84 (.len 1 (.s 83)),W 85 .leq 84 4]
def ZHg:=R [6] [M 86 13,I 87 (C Qd [(.s 86)]),I 88 (.bslice true 7 [ZT] [(0,(.s 87))]),M 6 88]
def ZHh:=R [6] [T 89 7 4,T 90 7 5,I 91 (.bslice true 7 [ZT,ZT] [(0,(.s 89)),(1,(.s 90))]),M 6 91]
def ZHi:=R [0,4,5,96] [F 92 1 4,L 93 92,F 94 1 5,L 95 94,B 96 .gtr 93 95]
def ZHj:=R [0,5,14] [M 97 0,T 98 7 4,I 99 (.call .inner (.v (.func (.func QA) [] [])) [(.s 97),(.s 98)]),M 14 99]
def ZHk:=R [0,5,14,15] [M 100 14,I 101 (.len 1 (.s 100)),W 102 .sub 101 1,M 15 102]
def ZHl:=R [6] [I 103 (.w .imm (.bslice false 7 [] [])),M 104 14,M 105 15,I 106 (.slc 7 (.s 104) none (some (.s 105))),I 107 (.w (.app0n 2) (.app 7 80 (.s 103) (.s 106))),M 108 0,M 109 14,M 110 15,I 111 (.w .blind (.ixS 7 (.s 109) (.s 110))),I 112 (.w .blind (.ld true 7 (.s 111))),I 113 (.w (.first (.s 5) 2) (.ld true 7 (.s 5))),I 114 (.call .move (.v (.func (.func Qi) [] [])) [(.s 108),(.s 112),(.s 113)]),I 115 (.app 7 80 (.s 107) (.s 114)),I 116 (.call .move (.v (.func (.func Jm) [] [])) [(.s 115)]),M 6 116]
def ZHm:=R [0,4,16] [M 117 0,T 118 7 5,I 119 (.call .inner (.v (.func (.func QA) [] [])) [(.s 117),(.s 118)]),M 16 119]
def ZHn:=R [6] [M 120 0,T 121 7 4,M 122 16,I 123 (.ixS 7 (.s 122) (V 0)),T 124 7 123,I 125 (.call .move (.v (.func (.func Qi) [] [])) [(.s 120),(.s 121),(.s 124)]),M 126 16,I 127 (.w .blind (.slc 7 (.s 126) (some (V 1)) none)),I 128 (.app 7 80 (.s 125) (.s 127)),I 129 (.call .move (.v (.func (.func Jm) [] [])) [(.s 128)]),M 6 129]
def ZBi:PF:=⟨true,
 (D ZKE
 (D (D ZKF
 (E 24
 (D ZKG
 (D (D ZKH
 (E 46
 (D ZKI
 .ret)
 .skip))
 (D ZKJ
 (D ZKK
 (D (D ZKL
 (.block 0
 (.loop p_quartoref15_Merged_11)))
 (D ZHc
 .ret))))))
 .skip))
 (D (D ZHd
 (E 75
 (D ZHe
 (D (D ZHf
 (E 85
 (D ZHg
 .ret)
 .skip))
 (D ZHh
 .ret)))
 .skip))
 (D (D ZHi
 (E 96
 (D ZHj
 (D ZHk
 (D ZHl
 .ret)))
 .skip))
 (D ZHm
 (D ZHn
 .ret)))))),
 [.s 6]⟩
theorem ZQH:ck0 true [(2,⟨[4,5,7,8],[],[(2,.pure)],[],[],[]⟩),(4,⟨[6],[2],[],[],[],[]⟩),(6,⟨[9,11],[0],[],[],[],[]⟩),(13,⟨[4,5,13],[],[(2,(.give 2)),(5,.inner)],[],[(4,(.first (.s 5) 2))],[]⟩),(15,⟨[6],[2],[],[],[],[]⟩),(16,⟨[6],[2],[],[],[],[]⟩),(18,⟨[0,5,14],[],[(2,.inner)],[],[],[]⟩),(20,⟨[6],[],[(13,.move),(11,.move)],[],[(10,(.first (.s 5) 2)),(4,(.app0n 2)),(9,.blind),(8,.blind),(0,.imm)],[]⟩),(21,⟨[0,4,16],[],[(2,.inner)],[],[],[]⟩),(22,⟨[6],[],[(9,.move),(5,.move)],[],[(7,.blind)],[]⟩)] ZBi Tryz.f192=some ZBi:=by kernel_rfl
def Zej:=R [1] [I 1 (.box (.s 0)),K 2 0]
def Zek:=R [1,3] [F 6 2 1,F 7 0 6,L 8 7,F 9 5 1,L 10 9,I 11 (.len 0 (.s 10)),B 12 .add 8 11,M 3 12]
def Zel:=R [3,14,15,16] [F 13 6 1,L 14 13,I 15 (.len 1 (.s 14)),K 16 0]
def Zem:=R [3,14,15,16,17] [B 17 .lss 16 15]
def Zen:=R [3,5,14,15,16] [I 18 (.ixS 7 (.s 14) (.s 16)),T 19 7 18,I 5 (.box (.v ZT)),N 7 5 19]
def Zeo:=R [3,14,15,16] [M 20 3,T 21 7 5,I 22 (C QU [(.s 21)]),B 23 .add 20 22,M 3 23]
def Zep:=R [3,14,15,16] [W 24 .add 16 1,M 16 24]
def Zeq:PC:=(D Zem
 (D (E 17
 .skip
 (.exit 0))
 (D (.block 1
 (D Zen
 Zeo))
 Zep)))
def Zer:=R [2] [M 25 3,M 2 25]
def ZWJ:PF:=⟨false,
 (D Zej
 (D Zek
 (D (D Zel
 (.block 0
 (.loop Zeq)))
 (D Zer
 .ret)))),
 [.s 2]⟩
theorem Zks:ck0 false [] ZWJ Tryz.f193=some ZWJ:=by kernel_rfl
def Zkt:=R [0,2,4,6,7] [I 4 (.box (.s 1)),I 6 (.box (.v ZT)),I 7 (.box (.v ZT)),K 8 0]
def Zku:=R [0,2,4,6,7,18] [M 17 2,W 18 .eql 17 0]
def Zkv:=R [6,7,8] [I 19 (.build [(.int .u64 0),(.int .i64 0),(.int .i64 0),(.int .i64 0),(.int .i64 0),(.str []),.nils] []),I 20 (.w (.hide [(.s 6)]) (.ld true 7 (.s 4))),J (.w (.plain (.s 6)) (.st 7 (.s 6) (.s 19))),N 7 7 20,K 8 0]
def Zkw:=R [0,2,4,6,7,24] [M 21 2,T 22 7 4,I 23 (C QU [(.s 22)]),B 24 .eql 21 23]
def Zkx:=R [6,7,8] [T 25 7 4,I 26 (.build [(.int .u64 0),(.int .i64 0),(.int .i64 0),(.int .i64 0),(.int .i64 0),(.str []),.nils] []),N 7 6 25,N 7 7 26,K 8 0]
def Zky:=R [0,2,4,6,7,29] [F 27 1 4,L 28 27,W 29 .eql 28 0]
def Zkz:=R [2,6,7,9,10] [M 31 0,T 32 7 4,I 33 (C ZAT [(.s 31),(.s 32)]),M 30 33,X 34 30 0,X 35 30 1,M 9 34,M 10 35]
def Zk0:=R [2,6,7,9,10,37] [M 36 10,W 37 .neq 36 0]
def Zk1:=R [6,7,8] [I 38 (.build [(.int .u64 0),(.int .i64 0),(.int .i64 0),(.int .i64 0),(.int .i64 0),(.str []),.nils] []),I 39 (.build [(.int .u64 0),(.int .i64 0),(.int .i64 0),(.int .i64 0),(.int .i64 0),(.str []),.nils] []),M 40 10,N 7 6 38,N 7 7 39,M 8 40]
def Zk2:=R [6,7,10,11,12] [M 42 9,M 43 2,I 44 (C ZOR [(.s 42),(.s 43)]),M 41 44,X 45 41 0,X 46 41 1,X 47 41 2,M 11 45,M 12 46,M 10 47]
def ZhR:=R [6,7,8] [M 48 11,I 49 (.build [(.int .u64 0),(.int .i64 0),(.int .i64 0),(.int .i64 0),(.int .i64 0),(.str []),.nils] [(5,1,(.s 48))]),M 50 12,I 51 (.build [(.int .u64 0),(.int .i64 0),(.int .i64 0),(.int .i64 0),(.int .i64 0),(.str []),.nils] [(5,1,(.s 50))]),M 52 10,N 7 6 49,N 7 7 51,M 8 52]
def ZhS:=R [0,2,6,7,8,13] [M 54 0,T 55 7 4,I 56 (C J7 [(.s 54),(.s 55)]),M 53 56,X 57 53 0,X 58 53 1,M 13 57,M 8 58]
def ZhT:=R [0,2,6,7,8,13,60] [M 59 8,W 60 .neq 59 0]
def ZhU:=R [6,7,8] [I 61 (.build [(.int .u64 0),(.int .i64 0),(.int .i64 0),(.int .i64 0),(.int .i64 0),(.str []),.nils] []),I 62 (.build [(.int .u64 0),(.int .i64 0),(.int .i64 0),(.int .i64 0),(.int .i64 0),(.str []),.nils] []),M 63 8,N 7 6 61,N 7 7 62,M 8 63]
def ZhV:=R [0,2,6,7,13,14] [K 14 0]
def ZhW:=R [0,2,6,7,13,14,77] [M 64 14,W 65 .add 64 1,M 66 13,I 67 (.len 1 (.s 66)),B 68 .lss 65 67,M 69 68,U 70 69 true 2,U 71 69 true 13,U 72 69 true 14,G 73 69 true (.ixS 7 (.s 71) (.s 72)),G 74 69 true (.ld true 7 (.s 73)),G 75 69 true (C QU [(.s 74)]),G 76 69 true (.bin .geq (.s 70) (.s 75)),I 77 (.pick (.s 69) (.s 76) (.v (.bool false)))]
def ZhX:=R [0,2,6,7,13,14] [M 78 2,M 79 13,M 80 14,I 81 (.ixS 7 (.s 79) (.s 80)),T 82 7 81,I 83 (C QU [(.s 82)]),B 84 .sub 78 83,M 2 84]
def ZhY:=R [0,2,6,7,13,14] [M 85 14,W 86 .add 85 1,M 14 86]
def ZTK:PC:=(D (D ZhW
 (E 77
 .skip
 (.exit 0)))
 (.block 1
 (D ZhX
 ZhY)))
def ZhZ:=R [0,2,6,7,13,14,88] [M 87 2,W 88 .eql 87 0]
def Zha:=R [6,7,8] [M 89 13,M 90 14,I 91 (.slc 7 (.s 89) none (some (.s 90))),I 92 (.call .pure (.v (.func (.func QJ) [] [])) [(.s 91)]),M 93 13,M 94 14,I 95 (.slc 7 (.s 93) (some (.s 94)) none),I 96 (C QJ [(.s 95)]),N 7 6 92,N 7 7 96,K 8 0]
def Zhb:=R [0,6,7,8,13,14,15,16] [M 98 0,M 99 13,M 100 14,I 101 (.ixS 7 (.s 99) (.s 100)),T 102 7 101,M 103 2,I 104 (C ZAK [(.s 98),(.s 102),(.s 103)]),M 97 104,X 105 97 0,X 106 97 1,X 107 97 2,I 15 (.box (.v ZT)),I 16 (.box (.v ZT)),N 7 15 105,N 7 16 106,M 8 107]
def Zhc:=R [0,6,7,8,13,14,15,16,109] [M 108 8,W 109 .neq 108 0]
def Zhd:=R [6,7,8] [I 110 (.build [(.int .u64 0),(.int .i64 0),(.int .i64 0),(.int .i64 0),(.int .i64 0),(.str []),.nils] []),I 111 (.build [(.int .u64 0),(.int .i64 0),(.int .i64 0),(.int .i64 0),(.int .i64 0),(.str []),.nils] []),M 112 8,N 7 6 110,N 7 7 111,M 8 112]
def Zhe:=R [0,6,7,8,13,14,16] [M 114 0,M 115 13,M 116 14,I 117 (.slc 7 (.s 115) none (some (.s 116))),I 118 (.call .pure (.v (.func (.func QJ) [] [])) [(.s 117)]),T 119 7 15,I 120 (C YI [(.s 114),(.s 118),(.s 119)]),M 113 120,X 121 113 0,X 122 113 1,N 7 6 121,M 8 122]
def Zhf:=R [0,6,7,8,13,14,16,124] [M 123 8,W 124 .neq 123 0]
def Zhg:=R [6,7,8] [I 125 (.build [(.int .u64 0),(.int .i64 0),(.int .i64 0),(.int .i64 0),(.int .i64 0),(.str []),.nils] []),I 126 (.build [(.int .u64 0),(.int .i64 0),(.int .i64 0),(.int .i64 0),(.int .i64 0),(.str []),.nils] []),M 127 8,N 7 6 125,N 7 7 126,M 8 127]
def Zhh:=R [6,7,8] [M 129 0,T 130 7 16,M 131 13,M 132 14,W 133 .add 132 1,I 134 (.slc 7 (.s 131) (some (.s 133)) none),I 135 (.call .pure (.v (.func (.func QJ) [] [])) [(.s 134)]),I 136 (C YI [(.s 129),(.s 130),(.s 135)]),M 128 136,X 137 128 0,X 138 128 1,N 7 7 137,M 8 138]
def Zhi:=R [6,7,8,140] [M 139 8,W 140 .neq 139 0]
def Zhj:=R [6,7,8] [I 141 (.build [(.int .u64 0),(.int .i64 0),(.int .i64 0),(.int .i64 0),(.int .i64 0),(.str []),.nils] []),I 142 (.build [(.int .u64 0),(.int .i64 0),(.int .i64 0),(.int .i64 0),(.int .i64 0),(.str []),.nils] []),M 143 8,N 7 6 141,N 7 7 142,M 8 143]
def Zhk:=R [6,7,8] [T 144 7 6,I 145 (.w (.hide [(.s 6)]) (.ld true 7 (.s 7))),J (.w (.plain (.s 6)) (.st 7 (.s 6) (.s 144))),N 7 7 145,K 8 0]
def Zes:PF:=⟨false,
 (D Zkt
 (D (D Zku
 (E 18
 (D Zkv
 .ret)
 .skip))
 (D (D Zkw
 (E 24
 (D Zkx
 .ret)
 .skip))
 (D (D Zky
 (E 29
 (D Zkz
 (D (D Zk0
 (E 37
 (D Zk1
 .ret)
 .skip))
 (D Zk2
 (D ZhR
 .ret))))
 .skip))
 (D ZhS
 (D (D ZhT
 (E 60
 (D ZhU
 .ret)
 .skip))
 (D ZhV
 (D (.block 0
 (.loop ZTK))
 (D (D ZhZ
 (E 88
 (D Zha
 .ret)
 .skip))
 (D Zhb
 (D (D Zhc
 (E 109
 (D Zhd
 .ret)
 .skip))
 (D (D Zhe
 (D Zhf
 (E 124
 (D Zhg
 .ret)
 .skip)))
 (D (D Zhh
 (D Zhi
 (E 140
 (D Zhj
 .ret)
 .skip)))
 (D Zhk
 .ret)))))))))))))),
 [.c 6 true 7,.c 7 true 7,.s 8]⟩
theorem ZpJ:ck0 false [(2,⟨[6,7,8],[],[],[],[(1,(.hide [(.s 6)])),(2,(.plain (.s 6)))],[]⟩),(19,⟨[6,7,8],[],[(3,.pure)],[],[],[]⟩),(23,⟨[0,6,7,8,13,14,16],[],[(4,.pure)],[],[],[]⟩),(26,⟨[6,7,8],[],[(6,.pure)],[],[],[]⟩),(29,⟨[6,7,8],[],[],[],[(1,(.hide [(.s 6)])),(2,(.plain (.s 6)))],[]⟩)] Zes Tryz.f194=some Zes:=by kernel_rfl
def Zet:=R [0,2,3,5] [I 5 (.box (.s 1)),K 8 0]
def Zeu:=R [0,2,3,5,9] [T 14 7 5,I 15 (C QQ [(.s 14)]),M 9 15]
def Zev:=R [0,2,5,9,30] [M 16 9,W 17 .eql 16 0,M 18 17,U 19 18 false 9,G 20 18 false (.bin .eql (.s 19) (V 1)),I 21 (.pick (.s 18) (.v (.bool true)) (.s 20)),M 22 21,U 23 22 false 2,U 24 22 false 23,G 25 24 true (.fadr 1 (.s 5)),G 26 24 true (.ld false 1 (.s 25)),U 27 24 true 3,G 28 24 true (.bin .neq (.s 26) (.s 27)),G 29 22 false (.pick (.s 24) (.s 28) (.v (.bool false))),I 30 (.pick (.s 22) (.v (.bool true)) (.s 29))]
def Zew:=R [8] [K 8 23]
def Zex:=R [0,2,5,32] [M 31 9,W 32 .eql 31 2]
def Zey:=R [0,2,5,10] [M 33 0,F 34 0 5,L 35 34,F 36 1 5,L 37 36,F 38 2 5,T 39 3 38,I 40 (C ZF6 [(.s 33),(.s 35),(.s 37),(.s 39)]),M 10 40]
def Zez:=R [0,2,5,10,42] [M 41 10,W 42 .neq 41 0]
def Ze0:=R [8] [M 43 10,M 8 43]
def Ze1:=R [0,5,54] [M 44 2,M 45 44,G 46 45 true (.fadr 1 (.s 5)),G 47 45 true (.ld false 1 (.s 46)),G 48 45 true (.bin .eql (.s 47) (V 0)),I 49 (.pick (.s 45) (.s 48) (.v (.bool false))),M 50 49,G 51 50 true (.ld true 7 (.s 5)),G 52 50 true (C QU [(.s 51)]),G 53 50 true (.bin .lss (.s 52) (V 8)),I 54 (.pick (.s 50) (.s 53) (.v (.bool false)))]
def Ze2:=R [8] [K 8 23]
def Zap:=R [0,5,56,57,58] [F 55 6 5,L 56 55,I 57 (.len 1 (.s 56)),K 58 0]
def Zaq:=R [0,5,56,57,58,59] [B 59 .lss 58 57]
def Zar:=R [0,5,12,56,57,58] [I 60 (.ixS 7 (.s 56) (.s 58)),T 61 7 60,I 12 (.box (.v ZT)),N 7 12 61]
def Zas:=R [0,5,13,56,57,58] [M 62 0,T 63 7 12,F 64 1 5,L 65 64,W 66 .sub 65 1,I 67 (C ZCP [(.s 62),(.s 63),(.v (.bool true)),(.s 66)]),M 13 67]
def Zat:=R [0,5,13,56,57,58,69] [M 68 13,W 69 .neq 68 0]
def Zau:=R [8] [M 70 13,M 8 70]
def Zav:=R [0,5,56,57,58] [W 71 .add 58 1,M 58 71]
def ZLJ:PC:=(D Zaq
 (D (E 59
 .skip
 (.exit 0))
 (D (.block 1
 (D Zar
 (D Zas
 (D Zat
 (E 69
 (D Zau
 .ret)
 .skip)))))
 Zav)))
def Zaw:=R [8] [K 8 0]
def ZWK:PF:=⟨false,
 (D Zet
 (D Zeu
 (D (D Zev
 (E 30
 (D Zew
 .ret)
 .skip))
 (D (D Zex
 (E 32
 (D Zey
 (D Zez
 (E 42
 (D Ze0
 .ret)
 .skip)))
 .skip))
 (D (D Ze1
 (E 54
 (D Ze2
 .ret)
 .skip))
 (D (D Zap
 (.block 0
 (.loop ZLJ)))
 (D Zaw
 .ret))))))),
 [.s 8]⟩
theorem Zk4:ck0 false [] ZWK Tryz.f195=some ZWK:=by kernel_rfl
def ZSX:=R [0,1,4] [I 4 (.box (.v ZN)),K 5 0]
def ZSY:=R [0,1,4,9] [M 8 0,I 9 (.eqs false 3 [] (.s 8) (.v .nilptr))]
def ZSZ:=R [4,5] [I 10 (.build [(.int .i64 0),(.str []),.nils] []),N 3 4 10,K 5 1]
def ZSa:=R [0,4,6,7] [M 12 0,I 13 (.nilck (.s 12)),F 14 2 13,L 15 14,M 16 1,I 17 (.look 0 ZN true (.s 15) (.s 16)),M 11 17,X 18 11 0,X 19 11 1,I 6 (.box (.v ZN)),N 3 6 18,M 7 19]
def ZSb:=R [0,4,6,21] [M 20 7,I 21 (.un .not (.s 20))]
def ZSc:=R [4] [M 22 0,I 23 (.nilck (.s 22)),F 24 5 23,L 25 24,W 26 .add 25 1,I 27 (.nilck (.s 22)),F 28 5 27,N 1 28 26]
def ZSd:=R [4,5] [I 29 (.build [(.int .i64 0),(.str []),.nils] []),N 3 4 29,K 5 10]
def ZSe:=R [4,6] [F 30 2 6,L 31 30,I 32 (C Zu [(.s 31)]),F 33 2 6,N 1 33 32]
def ZSf:=R [4,5] [T 34 3 6,N 3 4 34,K 5 0]
def ZGC:PF:=⟨false,
 (D ZSX
 (D (D ZSY
 (E 9
 (D ZSZ
 .ret)
 .skip))
 (D ZSa
 (D (D ZSb
 (E 21
 (D ZSc
 (D ZSd
 .ret))
 .skip))
 (D ZSe
 (D ZSf
 .ret)))))),
 [.c 4 true 3,.s 5]⟩
theorem ZWM:ck0 false [] ZGC Tryz.f196=some ZGC:=by kernel_rfl
def ZSg:=R [0,1] [I 4 (.mv (.v (.bool false)))]
def ZSh:=R [0,1,5] [K 5 0]
def ZSi:=R [0,1,5,9] [M 6 5,M 7 0,I 8 (.len 1 (.s 7)),B 9 .lss 6 8]
def ZSj:=R [0,1,5,17] [M 12 0,M 13 5,I 14 (.ixS 1 (.s 12) (.s 13)),L 15 14,M 16 1,B 17 .eql 15 16]
def ZSk:=R [4] [I 4 (.mv (.v (.bool true)))]
def ZSl:=R [0,1,5] [M 10 5,W 11 .add 10 1,M 5 11]
def ZSm:PC:=(D (D ZSi
 (E 9
 .skip
 (.exit 0)))
 (D (.block 1
 (D ZSj
 (E 17
 (D ZSk
 .ret)
 .skip)))
 ZSl))
def ZSn:=R [4] [I 4 (.mv (.v (.bool false)))]
def ZGD:PF:=⟨false,
 (D ZSg
 (D (D ZSh
 (.block 0
 (.loop ZSm)))
 (D ZSn
 .ret))),
 [.s 4]⟩
theorem ZWO:ck0 false [] ZGD Tryz.f197=some ZGD:=by kernel_rfl
def ZUW:=R [0,1,2,7] [I 7 (.box (.s 3)),K 8 0]
def ZUX:=R [2,7,9,10] [M 14 0,M 15 1,I 16 (C Ya [(.s 14),(.s 15)]),M 13 16,X 17 13 0,X 18 13 1,I 9 (.box (.v ZN)),N 3 9 17,M 10 18]
def ZUY:=R [2,7,9,20] [M 19 10,W 20 .neq 19 0]
def ZUZ:=R [8] [K 8 10]
def ZUa:=R [2,7,9,11] [T 22 3 9,I 23 (C J3 [(.s 22)]),M 21 23,X 24 21 0,X 25 21 1,I 11 (.box (.v ZM)),N 3 11 24,M 12 25]
def ZUb:=R [34] [F 26 0 9,L 27 26,M 28 2,B 29 .neq 27 28,M 30 29,G 31 30 false (.ld true 3 (.s 11)),G 32 30 false (.ld true 3 (.s 7)),G 33 30 false (.eqs true 0 [(0,0),(1,0),(2,0)] (.s 31) (.s 32)),I 34 (.pick (.s 30) (.v (.bool true)) (.s 33))]
def ZUc:=R [8] [K 8 23]
def ZUd:=R [8] [K 8 0]
def ZHo:PF:=⟨false,
 (D ZUW
 (D ZUX
 (D (D ZUY
 (E 20
 (D ZUZ
 .ret)
 .skip))
 (D ZUa
 (D (D ZUb
 (E 34
 (D ZUc
 .ret)
 .skip))
 (D ZUd
 .ret)))))),
 [.s 8]⟩
theorem ZYN:ck0 false [] ZHo Tryz.f198=some ZHo:=by kernel_rfl
def ZKO:=R [0,2,3,5] [I 5 (.box (.s 1)),K 8 0]
def ZKP:=R [0,2,5,23] [T 12 7 5,I 13 (C XV [(.s 12)]),I 14 (.un .not (.s 13)),M 15 14,U 16 15 false 2,U 17 15 false 16,G 18 17 true (.fadr 1 (.s 5)),G 19 17 true (.ld false 1 (.s 18)),U 20 17 true 3,G 21 17 true (.bin .neq (.s 19) (.s 20)),G 22 15 false (.pick (.s 17) (.s 21) (.v (.bool false))),I 23 (.pick (.s 15) (.v (.bool true)) (.s 22))]
def ZKQ:=R [8] [K 8 23]
def ZKR:=R [0,2,5,26] [F 24 0 5,L 25 24,I 26 (.bin .neq (.s 25) (.v (.int .u64 0)))]
def ZKS:=R [0,2,5,9] [M 27 0,F 28 0 5,L 29 28,F 30 1 5,L 31 30,F 32 2 5,T 33 3 32,I 34 (C Xg [(.s 27),(.s 29),(.s 31),(.s 33)]),M 9 34]
def ZKT:=R [0,2,5,9,36] [M 35 9,W 36 .neq 35 0]
def ZKU:=R [8] [M 37 9,M 8 37]
def ZKV:=R [0,5,48] [M 38 2,M 39 38,G 40 39 true (.fadr 1 (.s 5)),G 41 39 true (.ld false 1 (.s 40)),G 42 39 true (.bin .eql (.s 41) (V 0)),I 43 (.pick (.s 39) (.s 42) (.v (.bool false))),M 44 43,G 45 44 true (.ld true 7 (.s 5)),G 46 44 true (C Zl [(.s 45)]),G 47 44 true (.bin .lss (.s 46) (V 8)),I 48 (.pick (.s 44) (.s 47) (.v (.bool false)))]
def ZKW:=R [8] [K 8 23]
def ZKX:=R [0,5,10] [K 10 0]
def ZHp:=R [0,5,10,53] [M 49 10,F 50 6 5,L 51 50,I 52 (.len 1 (.s 51)),B 53 .lss 49 52]
def ZHq:=R [0,5,10,11] [M 56 0,F 57 6 5,L 58 57,M 59 10,I 60 (.ixS 7 (.s 58) (.s 59)),T 61 7 60,F 62 1 5,L 63 62,W 64 .sub 63 1,I 65 (C Qj [(.s 56),(.s 61),(.v (.bool true)),(.s 64)]),M 11 65]
def ZHr:=R [0,5,10,11,67] [M 66 11,W 67 .neq 66 0]
def ZHs:=R [8] [M 68 11,M 8 68]
def ZHt:=R [0,5,10] [M 54 10,W 55 .add 54 1,M 10 55]
def p_quartoref15_faults_15:PC:=(D (D ZHp
 (E 53
 .skip
 (.exit 0)))
 (D (.block 1
 (D ZHq
 (D ZHr
 (E 67
 (D ZHs
 .ret)
 .skip))))
 ZHt))
def ZHu:=R [8] [K 8 0]
def ZBj:PF:=⟨false,
 (D ZKO
 (D (D ZKP
 (E 23
 (D ZKQ
 .ret)
 .skip))
 (D (D ZKR
 (E 26
 (D ZKS
 (D ZKT
 (E 36
 (D ZKU
 .ret)
 .skip)))
 .skip))
 (D (D ZKV
 (E 48
 (D ZKW
 .ret)
 .skip))
 (D (D ZKX
 (.block 0
 (.loop p_quartoref15_faults_15)))
 (D ZHu
 .ret)))))),
 [.s 8]⟩
theorem ZQJ:ck0 false [] ZBj Tryz.f199=some ZBj:=by kernel_rfl
def ZHv:=R [0,1] [I 4 (.mv (.v .nils))]
def ZHw:=R [0,1,5] [I 5 (.onil 1)]
def ZHx:=R [0,1,5,9] [M 8 0,I 9 (.eqs false 3 [] (.s 8) (.v .nilptr))]
def ZHy:=R [4] [M 10 5,M 4 10]
def ZHz:=R [1,5,14,15,16] [M 11 0,I 12 (.nilck (.s 11)),F 13 1 12,L 14 13,I 15 (.len 1 (.s 14)),K 16 0]
def ZH0:=R [1,5,14,15,16,17] [B 17 .lss 16 15]
def ZH1:=R [1,5,6,7,14,15,16] [M 18 16,I 19 (.ixS 1 (.s 14) (.s 16)),L 20 19,M 6 18,M 7 20]
def ZH2:=R [1,5,6,14,15,16,23] [M 21 7,M 22 1,B 23 .eql 21 22]
def ZH3:=R [1,5,14,15,16] [M 24 5,M 25 6,I 26 (.bslice false 1 [(.int .i64 0)] [(0,(.s 25))]),I 27 (.app 1 8 (.s 24) (.s 26)),M 5 27]
def ZH4:=R [1,5,14,15,16] [W 28 .add 16 1,M 16 28]
def ZGi:PC:=(D ZH0
 (D (E 17
 .skip
 (.exit 0))
 (D (.block 1
 (D ZH1
 (D ZH2
 (E 23
 ZH3
 .skip))))
 ZH4)))
def ZGj:=R [4] [M 29 5,M 4 29]
def ZA4:PF:=⟨false,
 (D ZHv
 (D ZHw
 (D (D ZHx
 (E 9
 (D ZHy
 .ret)
 .skip))
 (D (D ZHz
 (.block 0
 (.loop ZGi)))
 (D ZGj
 .ret))))),
 [.s 4]⟩
theorem ZNo:ck0 false [(1,⟨[0,1,5],[0],[],[],[],[]⟩)] ZA4 Tryz.f200=some ZA4:=by kernel_rfl
def ZUe:=R [0] [I 2 (.mv (.v (.bool false)))]
def ZUf:=R [2] [M 3 0,I 4 (.bin .lss (.s 3) (.v (.int .u8 128))),M 5 4,U 6 5 false 0,G 7 5 false (.bin .gtr (.s 6) (.v (.int .u8 191))),I 8 (.pick (.s 5) (.v (.bool true)) (.s 7)),M 2 8]
def ZH5:PF:=⟨false,
 (D ZUe
 (D ZUf
 .ret)),
 [.s 2]⟩
theorem ZYP:ck0 false [] ZH5 Tryz.f213=some ZH5:=by kernel_rfl
def ZWP:=R [0,1] [K 4 0]
def ZWQ:=R [0,1,5] [K 5 0]
def ZWR:=R [0,1,5,8,9] [M 7 0,I 8 (.len 0 (.s 7)),K 9 0]
def ZWS:=R [0,1,5,8,9,10] [B 10 .lss 9 8]
def ZWT:=R [0,1,5,6,8,9] [M 11 9,M 6 11]
def ZWU:=R [0,1,5,8,9,16] [M 12 1,M 13 0,M 14 6,I 15 (.ixStr (.s 13) (.s 14)),I 16 (.call .norm (.s 12) [(.s 15)])]
def ZWV:=R [0,1,5,8,9] [M 17 5,W 18 .add 17 1,M 5 18]
def ZWW:=R [0,1,5,8,9] [W 19 .add 9 1,M 9 19]
def ZWX:PC:=(D ZWS
 (D (E 10
 .skip
 (.exit 0))
 (D (.block 1
 (D ZWT
 (D ZWU
 (E 16
 ZWV
 .skip))))
 ZWW)))
def ZWY:=R [4] [M 20 5,M 4 20]
def ZLK:PF:=⟨false,
 (D ZWP
 (D ZWQ
 (D (D ZWR
 (.block 0
 (.loop ZWX)))
 (D ZWY
 .ret)))),
 [.s 4]⟩
theorem Zay:ck0 false [] ZLK Tryz.f214=some ZLK:=by kernel_rfl
def ZNp:=R [0] [K 2 0]
def ZNq:=R [0,3] [K 3 0]
def ZNr:=R [0,3,4] [K 4 0]
def ZNs:=R [0,3,4,8] [M 5 4,M 6 0,I 7 (.len 0 (.s 6)),B 8 .lss 5 7]
def ZNt:=R [0,3,4,15] [M 11 0,M 12 4,I 13 (.ixStr (.s 11) (.s 12)),I 14 (C ZAL [(.s 13)]),I 15 (.un .not (.s 14))]
def ZNu:=R [0,3,4] [M 16 3,W 17 .add 16 1,M 3 17]
def ZNv:=R [0,3,4] [M 9 4,W 10 .add 9 1,M 4 10]
def ZNw:PC:=(D (D ZNs
 (E 8
 .skip
 (.exit 0)))
 (D (.block 1
 (D ZNt
 (E 15
 ZNu
 .skip)))
 ZNv))
def ZNx:=R [2] [M 18 3,M 2 18]
def ZCE:PF:=⟨false,
 (D ZNp
 (D ZNq
 (D (D ZNr
 (.block 0
 (.loop ZNw)))
 (D ZNx
 .ret)))),
 [.s 2]⟩
theorem ZSp:ck0 false [] ZCE Tryz.f215=some ZCE:=by kernel_rfl
def ZQK:=R [0] [I 2 (.mv (.v (.bool false)))]
def ZQL:=R [2] [M 3 0,I 4 (.bin .geq (.s 3) (.v (.int .u8 128))),M 5 4,U 6 5 true 0,G 7 5 true (.bin .lss (.s 6) (.v (.int .u8 192))),I 8 (.pick (.s 5) (.s 7) (.v (.bool false))),M 2 8]
def ZEx:PF:=⟨false,
 (D ZQK
 (D ZQL
 .ret)),
 [.s 2]⟩
theorem ZUh:ck0 false [] ZEx Tryz.f216=some ZEx:=by kernel_rfl
def ZWZ:=R [0] [I 2 (.mv (.v (.bool false)))]
def ZWa:=R [2] [M 3 0,I 4 (.bin .eql (.s 3) (.v (.int .u8 10))),M 2 4]
def ZLL:PF:=⟨false,
 (D ZWZ
 (D ZWa
 .ret)),
 [.s 2]⟩
theorem Za0:ck0 false [] ZLL Tryz.f221=some ZLL:=by kernel_rfl
def ZFq:=R [0,1,4] [I 4 (.box (.v ZN)),K 5 0]
def ZFr:=R [0,1,4,8] [M 7 0,I 8 (.eqs false 3 [] (.s 7) (.v .nilptr))]
def ZFs:=R [4,5] [I 9 (.build [(.int .i64 0),(.str []),.nils] []),N 3 4 9,K 5 1]
def ZFt:=R [0,4,6] [M 10 0,M 11 1,I 12 (C JT [(.s 10),(.s 11)]),M 6 12]
def ZFu:=R [0,4,6,14] [M 13 6,W 14 .lss 13 0]
def ZFv:=R [4] [M 15 0,I 16 (.nilck (.s 15)),F 17 2 16,F 18 6 17,L 19 18,W 20 .add 19 1,I 21 (.nilck (.s 15)),F 22 2 21,F 23 6 22,N 1 23 20]
def ZFw:=R [4,5] [I 24 (.build [(.int .i64 0),(.str []),.nils] []),N 3 4 24,K 5 10]
def ZFx:=R [4,5] [M 25 0,I 26 (.nilck (.s 25)),F 27 1 26,L 28 27,M 29 6,I 30 (.ixS 4 (.s 28) (.s 29)),F 31 1 30,T 32 3 31,I 33 (C QT [(.s 32)]),N 3 4 33,K 5 0]
def ZAX:PF:=⟨false,
 (D ZFq
 (D (D ZFr
 (E 8
 (D ZFs
 .ret)
 .skip))
 (D ZFt
 (D (D ZFu
 (E 14
 (D ZFv
 (D ZFw
 .ret))
 .skip))
 (D ZFx
 .ret))))),
 [.c 4 true 3,.s 5]⟩
theorem ZH7:ck0 false [] ZAX Tryz.f234=some ZAX:=by kernel_rfl
def Za1:=R [1,2] [I 2 (.box (.s 0)),I 4 (.mv (.v .nils))]
def Za2:=R [1,2,10] [L 9 2,W 10 .eql 9 0]
def Za3:=R [4] [I 4 (.mv (.v .nils))]
def Za4:=R [1,2,5] [L 11 2,M 12 1,B 13 .quo 11 12,I 5 (.box (V 0)),N 1 5 13]
def Za5:=R [2,5,17] [L 14 2,M 15 1,B 16 .rem 14 15,W 17 .gtr 16 0]
def Za6:=R [2,5] [L 18 5,W 19 .add 18 1,N 1 5 19]
def Za7:=R [5,6] [I 20 (.mkf (.func J8) [] [(.s 2),(.s 5)]),M 6 20]
def Za8:=R [5,6,7] [L 21 5,I 22 (.mkslice 1 8 (.int .i64 0) (.s 21) (.s 21)),M 7 22]
def Za9:=R [6,7,23,24] [L 23 5,K 24 0]
def ZbA:=R [6,7,23,24,25] [B 25 .lss 24 23]
def ZYQ:=R [6,7,8,23,24] [M 26 24,M 8 26]
def ZYR:=R [6,7,23,24] [M 27 7,M 28 8,M 29 6,M 30 8,I 31 (.call .norm (.s 29) [(.s 30)]),I 32 (.ixS 1 (.s 27) (.s 28)),N 1 32 31]
def ZYS:=R [6,7,23,24] [W 33 .add 24 1,M 24 33]
def ZH8:PC:=(D ZbA
 (D (E 25
 .skip
 (.exit 0))
 (D (.block 1
 (D ZYQ
 ZYR))
 ZYS)))
def ZYT:=R [4] [M 34 7,M 4 34]
def ZTL:PF:=⟨false,
 (D Za1
 (D (D Za2
 (E 10
 (D Za3
 .ret)
 .skip))
 (D Za4
 (D (D Za5
 (E 17
 Za6
 .skip))
 (D Za7
 (D Za8
 (D (D Za9
 (.block 0
 (.loop ZH8)))
 (D ZYT
 .ret)))))))),
 [.s 4]⟩
theorem Zhm:ck0 false [] ZTL Tryz.f237=some ZTL:=by kernel_rfl
def ZbB:=R [1] [I 1 (.box (.s 0)),I 2 (.mv (.v (.bool false)))]
def ZbC:=R [1,9] [F 7 0 1,L 8 7,W 9 .eql 8 0]
def ZbD:=R [2] [F 10 1 1,L 11 10,I 12 (.len 0 (.s 11)),W 13 .geq 12 1,M 14 13,G 15 14 true (.fadr 1 (.s 1)),G 16 14 true (.ld false 1 (.s 15)),G 17 14 true (.len 0 (.s 16)),G 18 14 true (.bin .leq (.s 17) (V 16)),I 19 (.pick (.s 14) (.s 18) (.v (.bool false))),M 20 19,G 21 20 true (.fadr 2 (.s 1)),G 22 20 true (.ld false 1 (.s 21)),G 23 20 true (.len 1 (.s 22)),G 24 20 true (.bin .eql (.s 23) (V 0)),I 25 (.pick (.s 20) (.s 24) (.v (.bool false))),M 2 25]
def ZbE:=R [1,50] [F 26 0 1,L 27 26,W 28 .lss 27 1,M 29 28,G 30 29 false (.fadr 0 (.s 1)),G 31 29 false (.ld false 1 (.s 30)),G 32 29 false (.bin .gtr (.s 31) (V 16)),I 33 (.pick (.s 29) (.v (.bool true)) (.s 32)),M 34 33,G 35 34 false (.fadr 1 (.s 1)),G 36 34 false (.ld false 1 (.s 35)),G 37 34 false (.bin .neq (.s 36) (.v (.str []))),I 38 (.pick (.s 34) (.v (.bool true)) (.s 37)),M 39 38,G 40 39 false (.fadr 2 (.s 1)),G 41 39 false (.ld false 1 (.s 40)),G 42 39 false (.len 1 (.s 41)),G 43 39 false (.bin .lss (.s 42) (V 2)),I 44 (.pick (.s 39) (.v (.bool true)) (.s 43)),M 45 44,G 46 45 false (.fadr 2 (.s 1)),G 47 45 false (.ld false 1 (.s 46)),G 48 45 false (.len 1 (.s 47)),G 49 45 false (.bin .gtr (.s 48) (V 4)),I 50 (.pick (.s 45) (.v (.bool true)) (.s 49))]
def ZbF:=R [2] [I 2 (.mv (.v (.bool false)))]
def ZbG:=R [1,3,4] [F 52 0 1,L 53 52,W 54 .sub 53 1,I 55 (C ZGT [(.s 54)]),M 51 55,X 56 51 0,X 57 51 1,M 3 56,M 4 57]
def ZbH:=R [3,4,59,60,61] [F 58 2 1,L 59 58,I 60 (.len 1 (.s 59)),K 61 0]
def ZbI:=R [3,4,59,60,61,62] [B 62 .lss 61 60]
def ZbJ:=R [3,4,6,59,60,61] [I 63 (.ixS 4 (.s 59) (.s 61)),T 64 4 63,I 6 (.box (.v ZK)),N 4 6 64]
def ZbK:=R [3,4,59,60,61,112] [F 65 0 6,L 66 65,I 67 (C ZDM [(.s 66)]),W 68 .neq 67 0,M 69 68,G 70 69 false (.fadr 1 (.s 6)),G 71 69 false (.fadr 0 (.s 70)),G 72 69 false (.ld false 1 (.s 71)),U 73 69 false 3,G 74 69 false (.bin .lss (.s 72) (.s 73)),I 75 (.pick (.s 69) (.v (.bool true)) (.s 74)),M 76 75,G 77 76 false (.fadr 1 (.s 6)),G 78 76 false (.fadr 0 (.s 77)),G 79 76 false (.ld false 1 (.s 78)),U 80 76 false 4,G 81 76 false (.bin .gtr (.s 79) (.s 80)),I 82 (.pick (.s 76) (.v (.bool true)) (.s 81)),M 83 82,G 84 83 false (.fadr 1 (.s 6)),G 85 83 false (.fadr 1 (.s 84)),G 86 83 false (.ld false 1 (.s 85)),G 87 83 false (.bin .lss (.s 86) (V 0)),I 88 (.pick (.s 83) (.v (.bool true)) (.s 87)),M 89 88,G 90 89 false (.fadr 1 (.s 6)),G 91 89 false (.fadr 1 (.s 90)),G 92 89 false (.ld false 1 (.s 91)),G 93 89 false (.fadr 1 (.s 6)),G 94 89 false (.fadr 0 (.s 93)),G 95 89 false (.ld false 1 (.s 94)),G 96 89 false (.bin .gtr (.s 92) (.s 95)),I 97 (.pick (.s 89) (.v (.bool true)) (.s 96)),M 98 97,G 99 98 false (.fadr 1 (.s 6)),G 100 98 false (.fadr 2 (.s 99)),G 101 98 false (.ld false 1 (.s 100)),G 102 98 false (.bin .lss (.s 101) (V 0)),I 103 (.pick (.s 98) (.v (.bool true)) (.s 102)),M 104 103,G 105 104 false (.fadr 1 (.s 6)),G 106 104 false (.fadr 2 (.s 105)),G 107 104 false (.ld false 1 (.s 106)),G 108 104 false (.fadr 1 (.s 6)),G 109 104 false (.fadr 1 (.s 108)),G 110 104 false (.ld false 1 (.s 109)),G 111 104 false (.bin .gtr (.s 107) (.s 110)),I 112 (.pick (.s 104) (.v (.bool true)) (.s 111))]
def ZYU:=R [2] [I 2 (.mv (.v (.bool false)))]
def ZYV:=R [3,4,59,60,61] [W 113 .add 61 1,M 61 113]
def ZYW:PC:=(D ZbI
 (D (E 62
 .skip
 (.exit 0))
 (D (.block 1
 (D ZbJ
 (D ZbK
 (E 112
 (D ZYU
 .ret)
 .skip))))
 ZYV)))
def ZYX:=R [2] [I 2 (.mv (.v (.bool true)))]
def ZTM:PF:=⟨false,
 (D ZbB
 (D (D ZbC
 (E 9
 (D ZbD
 .ret)
 .skip))
 (D (D ZbE
 (E 50
 (D ZbF
 .ret)
 .skip))
 (D ZbG
 (D (D ZbH
 (.block 0
 (.loop ZYW)))
 (D ZYX
 .ret)))))),
 [.s 2]⟩
theorem Zho:ck0 false [] ZTM Tryz.f238=some ZTM:=by kernel_rfl
def Zk5:=R [1,2] [I 1 (.box (.s 0)),I 2 (.box (.v ZM))]
def Zk6:=R [1,2,8] [F 6 0 1,L 7 6,W 8 .eql 7 0]
def Zk7:=R [2] [F 9 1 1,L 10 9,I 11 (C ZIl [(.s 10)]),N 3 2 11]
def Zk8:=R [1,2,3] [I 3 (.onil 3)]
def Zk9:=R [2,3,13,14,15] [F 12 2 1,L 13 12,I 14 (.len 1 (.s 13)),K 15 0]
def ZlA:=R [2,3,13,14,15,16] [B 16 .lss 15 14]
def ZlB:=R [2,3,5,13,14,15] [I 17 (.ixS 4 (.s 13) (.s 15)),T 18 4 17,I 5 (.box (.v ZK)),N 4 5 18]
def ZlC:=R [2,3,13,14,15] [M 19 3,F 20 1 5,T 21 3 20,I 22 (.bslice false 3 [ZM] [(0,(.s 21))]),I 23 (.app 3 24 (.s 19) (.s 22)),M 3 23]
def ZlD:=R [2,3,13,14,15] [W 24 .add 15 1,M 15 24]
def ZlE:PC:=(D ZlA
 (D (E 16
 .skip
 (.exit 0))
 (D (.block 1
 (D ZlB
 ZlC))
 ZlD)))
def Zhp:=R [2] [M 25 3,I 26 (C ZGU [(.s 25)]),N 3 2 26]
def Ze3:PF:=⟨false,
 (D Zk5
 (D (D Zk6
 (E 8
 (D Zk7
 .ret)
 .skip))
 (D Zk8
 (D (D Zk9
 (.block 0
 (.loop ZlE)))
 (D Zhp
 .ret))))),
 [.c 2 true 3]⟩
theorem ZpL:ck0 false [(3,⟨[1,2,3],[0],[],[],[],[]⟩)] Ze3 Tryz.f239=some Ze3:=by kernel_rfl
def ZbL:=R [0,1] [I 4 (.mv (.v (.int .u64 0))),K 5 0]
def ZbM:=R [0,1,19] [M 6 0,W 7 .lss 6 0,M 8 7,U 9 8 false 0,G 10 8 false (.bin .geq (.s 9) (V 16384)),I 11 (.pick (.s 8) (.v (.bool true)) (.s 10)),M 12 11,U 13 12 false 1,G 14 12 false (.bin .lss (.s 13) (.v (.int .u64 1))),I 15 (.pick (.s 12) (.v (.bool true)) (.s 14)),M 16 15,U 17 16 false 1,G 18 16 false (.bin .gtr (.s 17) (.v (.int .u64 4294967295))),I 19 (.pick (.s 16) (.v (.bool true)) (.s 18))]
def ZbN:=R [4,5] [I 4 (.mv (.v (.int .u64 0))),K 5 3]
def ZbO:=R [4,5] [M 20 1,I 21 (.bin .shl (.s 20) (.v (.int .u64 16))),M 22 0,I 23 (.cint .u64 (.s 22)),B 24 .or 21 23,M 4 24,K 5 0]
def ZTN:PF:=⟨false,
 (D ZbL
 (D (D ZbM
 (E 19
 (D ZbN
 .ret)
 .skip))
 (D ZbO
 .ret))),
 [.s 4,.s 5]⟩
theorem Zhr:ck0 false [] ZTN Tryz.f240=some ZTN:=by kernel_rfl
end Go.Q15
