/- Resolved code, printed by program. No condition. -/
import Derived.Test.YtbogmijilfefnaaProg
import Derived.KernelRfl
import Derived.Test.YtbogmijilfefnaaPeT3
set_option linter.unusedVariables false
set_option linter.unusedSimpArgs false
namespace Go.Q15
open Go Go.QAbs
set_option maxRecDepth 100000
abbrev Qp:FuncId:=3
abbrev YJ:FuncId:=4
abbrev Yg:FuncId:=5
abbrev ZBT:FuncId:=6
abbrev ZBE:FuncId:=7
abbrev JG:FuncId:=8
abbrev Y4:FuncId:=9
abbrev ZDr:FuncId:=10
abbrev ZAG:FuncId:=11
abbrev ZDs:FuncId:=12
abbrev Yt:FuncId:=13
abbrev YP:FuncId:=14
abbrev Jx:FuncId:=15
abbrev Qq:FuncId:=16
abbrev QN:FuncId:=17
abbrev Yy:FuncId:=18
abbrev YK:FuncId:=19
abbrev J6:FuncId:=20
abbrev ZAH:FuncId:=21
abbrev ZCe:FuncId:=22
abbrev ZAa:FuncId:=23
abbrev ZAb:FuncId:=24
abbrev ZAc:FuncId:=25
abbrev Ya:FuncId:=26
abbrev X5:FuncId:=27
abbrev Qd:FuncId:=28
abbrev ZAd:FuncId:=29
abbrev YQ:FuncId:=30
abbrev Z7:FuncId:=31
abbrev Yz:FuncId:=32
abbrev ZCf:FuncId:=33
abbrev ZCg:FuncId:=34
abbrev ZFS:FuncId:=35
abbrev QL:FuncId:=36
abbrev ZAe:FuncId:=37
abbrev X6:FuncId:=38
abbrev ZBi:FuncId:=39
abbrev ZDt:FuncId:=40
abbrev Xh:FuncId:=41
abbrev ZHB:FuncId:=42
abbrev ZDc:FuncId:=43
abbrev ZDu:FuncId:=44
abbrev ZDv:FuncId:=45
abbrev ZJT:FuncId:=46
abbrev ZDw:FuncId:=47
abbrev Jd:FuncId:=48
abbrev ZHC:FuncId:=49
abbrev JK:FuncId:=50
abbrev YS:FuncId:=51
abbrev YT:FuncId:=52
abbrev Jy:FuncId:=53
abbrev ZBK:FuncId:=54
abbrev ZAf:FuncId:=55
abbrev ZFT:FuncId:=56
abbrev ZBL:FuncId:=57
abbrev ZBF:FuncId:=58
abbrev Xo:FuncId:=59
abbrev Qr:FuncId:=60
abbrev ZCh:FuncId:=61
abbrev XS:FuncId:=62
abbrev QS:FuncId:=63
abbrev ZAI:FuncId:=64
abbrev XT:FuncId:=65
abbrev ZHD:FuncId:=66
abbrev YH:FuncId:=67
abbrev Qe:FuncId:=68
abbrev ZBy:FuncId:=69
abbrev Yu:FuncId:=70
abbrev ZBz:FuncId:=71
abbrev J7:FuncId:=72
abbrev XU:FuncId:=73
abbrev J4:FuncId:=74
abbrev ZAg:FuncId:=75
abbrev Js:FuncId:=76
abbrev JH:FuncId:=77
abbrev ZB0:FuncId:=78
abbrev ZCi:FuncId:=79
abbrev ZBU:FuncId:=80
abbrev ZHE:FuncId:=81
abbrev Yq:FuncId:=82
abbrev ZAh:FuncId:=83
abbrev JO:FuncId:=84
abbrev YU:FuncId:=85
abbrev Xi:FuncId:=86
abbrev JZ:FuncId:=87
abbrev ZBM:FuncId:=88
abbrev ZFU:FuncId:=89
abbrev ZDx:FuncId:=90
abbrev ZAi:FuncId:=91
abbrev ZDy:FuncId:=92
abbrev ZDd:FuncId:=93
abbrev XV:FuncId:=94
abbrev ZDz:FuncId:=95
abbrev ZCj:FuncId:=96
abbrev X7:FuncId:=97
abbrev Xj:FuncId:=98
abbrev X8:FuncId:=99
abbrev ZBj:FuncId:=100
abbrev Yh:FuncId:=101
abbrev ZFV:FuncId:=102
abbrev ZCk:FuncId:=103
abbrev I (d:Nat) (o:PO):PI:=⟨some d,none,false,o⟩
abbrev G (d g:Nat) (b:Bool) (o:PO):PI:=⟨some d,some (g,b),false,o⟩
abbrev J (o:PO):PI:=⟨none,none,false,o⟩
abbrev C (f:FuncId) (a:List Opd):PO:=.call .norm (.v (.func (.func f) [] [])) a
abbrev H (k:List Nat):Hint:=⟨k,[],[],[],[],[]⟩
abbrev V (i:Int):Opd:=.v (.int .i64 i)
abbrev M (d s:Nat):PI:=I d (.mv (.s s))
abbrev X (d s i:Nat):PI:=I d (.ext (.s s) i)
abbrev L (d s:Nat):PI:=I d (.ld false 1 (.s s))
abbrev T (d n s:Nat):PI:=I d (.ld true n (.s s))
abbrev F (d n s:Nat):PI:=I d (.fadr n (.s s))
abbrev U (d g:Nat) (b:Bool) (s:Nat):PI:=G d g b (.mv (.s s))
abbrev W (d:Nat) (o:BinOp) (s:Nat) (i:Int):PI:=I d (.bin o (.s s) (V i))
abbrev B (d:Nat) (o:BinOp) (s t:Nat):PI:=I d (.bin o (.s s) (.s t))
abbrev K (d:Nat) (i:Int):PI:=I d (.mv (V i))
abbrev N (n a x:Nat):PI:=J (.st n (.s a) (.s x))
abbrev E (c:Nat) (a b:PC):PC:=.ite (.s c) a b
abbrev D (a b:PC):PC:=.seq a b
abbrev R (k:List Nat) (l:List PI):PC:=.reg k l
abbrev ZT:AV:=.agg [(.int .u64 0),(.int .i64 0),(.int .i64 0),(.int .i64 0),(.int .i64 0),(.str []),.nils]
abbrev ZR:AV:=.agg [(.int .u64 0),(.int .i64 0),(.int .i64 0),(.int .i64 0),(.int .i64 0)]
abbrev ZM:AV:=.agg [(.int .i64 0),(.int .i64 0),(.int .i64 0)]
abbrev ZN:AV:=.agg [(.int .i64 0),(.str []),.nils]
abbrev ZK:AV:=.agg [(.int .u64 0),(.int .i64 0),(.int .i64 0),(.int .i64 0)]
def ZD0:List Hint:=[H [0,1,2,3],H [0,1,2,3,33],H [8],H [0,1,2,3],H [0,1,2,3],H [0,1,2,3,9],H [0,1,2,3,9,46],H [0,1,2,3,9,10,11],H [0,1,2,3,9,10,11,12,13],H [0,1,2,3,9,10,12,70],H [8],H [0,1,2,3,9,10,11,12,14],H [0,1,2,3,9,10,11,12,13,14,15],H [0,1,2,3,9,10,12,14,15,93],H [8],⟨[0,1,2,3,9,10,12,14,15,16],[0],[],[],[],[]⟩,H [0,1,2,3,9,10,12,14,15,16,17],H [0,1,2,3,9,10,12,14,15,16,17,95],H [0,1,2,3,9,10,12,14,15,16,17],H [0,1,2,3,9,10,12,14,15,16,17,18],H [0,1,2,3,9,10,12,14,15,16,17,18,106],H [0,1,2,3,9,10,12,14,15,16,17,18,108],H [0,1,2,3,9,10,12,14,15,16,17,18],H [0,1,2,3,9,10,11,12,15,16,17,18],H [0,1,2,3,9,10,12,14,15,16,17,18,123],H [0,1,2,3,9,10,12,14,15,16,17,18],H [0,1,2,3,9,10,12,14,15,16,17,18],H [0,1,2,3,9,10,11,12,15,16,17,18],H [0,1,2,3,9,10,11,12,15,16,17,18,141],H [0,1,2,3,9,10,11,12,15,16,17],H [0,1,2,3,9,10,11,12,13,17,19],H [0,1,2,3,9,10,12,165],H [8],H [0,1,2,3,9,10,12,20],H [0,1,2,3,9,10,12,20,172],H [8],H [0,1,2,3,9,10,12,20,21],H [0,1,2,3,9,10,12,20,21,176],H [0,1,2,3,9,10,12,20,21,22],H [0,1,2,3,9,10,12,20,21,22,24],H [0,1,2,3,9,10,12,20,21,200],H [8],H [0,1,2,3,9,10,12,20,21],H [0,1,2,3,9],H [8]]
def ZCl:PC :=
 (R [0,1,2,3] [I 8 (.mv (.v (.bool false)))])
def ZCm:PC :=
 (R [0,1,2,3,33] [M 26 0,I 27 (.len 0 (.s 26)),W 28 .gtr 27 900,M 29 28,U 30 29 false 3,G 31 29 false (.len 0 (.s 30)),G 32 29 false (.bin .gtr (.s 31) (V 300)),I 33 (.pick (.s 29) (.v (.bool true)) (.s 32))])
def ZCn:PC :=
 (R [8] [I 34 (C YJ []),M 8 34])
def ZCo:PC :=
 (R [0,1,2,3] [M 35 1,M 36 0,I 37 (.len 0 (.s 36)),I 38 (C Yg [(.s 35),(.s 37)]),M 1 38])
def ZCp:PC :=
 (R [0,1,2,3] [M 39 2,M 40 0,I 41 (.len 0 (.s 40)),M 42 1,B 43 .sub 41 42,I 44 (C Yg [(.s 39),(.s 43)]),M 2 44])
def ZCq:PC :=
 (R [0,1,2,3,9] [K 9 0])
def ZCr:PC :=
 (R [0,1,2,3,9,46] [M 45 9,W 46 .lss 45 2])
def XW:PC :=
 (R [0,1,2,3,9,10,11] [I 50 (C ZBT [(V 600),(.v (.int .u64 2))]),M 49 50,X 51 49 0,X 52 49 1,M 10 51,M 11 52])
def XY:PC :=
 (R [0,1,2,3,9,10,11,12,13] [I 54 (C ZBT [(V 600),(.v (.int .u64 2))]),M 53 54,X 55 53 0,X 56 53 1,M 12 55,M 13 56])
def XZ:PC :=
 (R [0,1,2,3,9,10,12,70] [M 57 10,I 58 (.eqs false 3 [] (.s 57) (.v .nilptr)),M 59 58,U 60 59 false 12,G 61 59 false (.eqs false 3 [] (.s 60) (.v .nilptr)),I 62 (.pick (.s 59) (.v (.bool true)) (.s 61)),M 63 62,U 64 63 false 11,G 65 63 false (.bin .neq (.s 64) (V 0)),I 66 (.pick (.s 63) (.v (.bool true)) (.s 65)),M 67 66,U 68 67 false 13,G 69 67 false (.bin .neq (.s 68) (V 0)),I 70 (.pick (.s 67) (.v (.bool true)) (.s 69))])
def Y5:PC :=
 (R [8] [I 8 (.mv (.v (.bool false)))])
def Y6:PC :=
 (R [0,1,2,3,9,10,11,12,14] [M 72 10,M 73 0,I 74 (C ZBE [(.s 72),(.s 73)]),M 71 74,X 75 71 0,X 76 71 1,I 14 (.box (.v ZR)),N 5 14 75,M 11 76])
def Y7:PC :=
 (R [0,1,2,3,9,10,11,12,13,14,15] [M 78 12,M 79 0,I 80 (C ZBE [(.s 78),(.s 79)]),M 77 80,X 81 77 0,X 82 77 1,I 15 (.box (.v ZR)),N 5 15 81,M 13 82])
def Y8:PC :=
 (R [0,1,2,3,9,10,12,14,15,93] [M 83 11,W 84 .neq 83 0,M 85 84,U 86 85 false 13,G 87 85 false (.bin .neq (.s 86) (V 0)),I 88 (.pick (.s 85) (.v (.bool true)) (.s 87)),M 89 88,G 90 89 false (.ld true 5 (.s 14)),G 91 89 false (.ld true 5 (.s 15)),G 92 89 false (.eqs true 0 [(0,0),(1,0),(2,0),(3,0),(4,0)] (.s 90) (.s 91)),I 93 (.pick (.s 89) (.v (.bool true)) (.s 92))])
def Y9:PC :=
 (R [8] [I 8 (.mv (.v (.bool false)))])
def XA:PC :=
 (R [0,1,2,3,9,10,12,14,15,16] [I 16 (.onil 3)])
def XB:PC :=
 (R [0,1,2,3,9,10,12,14,15,16,17] [I 17 (.box (.v (.agg [(.int .u64 0),(.int .i64 0),(.int .i64 0),(.int .i64 0),(.int .i64 0),.nils,.nils])))])
def Je:PC :=
 (R [0,1,2,3,9,10,12,14,15,16,17,95] [M 94 1,W 95 .gtr 94 0])
def Jf:PC :=
 (R [0,1,2,3,9,10,12,14,15,16,17] [M 96 16,M 97 1,I 98 (C JG [(.s 97)]),I 99 (.bslice false 3 [(.agg [(.int .u8 0),(.int .i64 0),(.str [])])] [(0,(.s 98))]),I 100 (.app 3 32 (.s 96) (.s 99)),M 16 100])
def XC:PC :=
 (R [0,1,2,3,9,10,12,14,15,16,17,18] [M 101 0,I 102 (.len 0 (.s 101)),M 103 1,B 104 .sub 102 103,M 18 104])
def XD:PC :=
 (R [0,1,2,3,9,10,12,14,15,16,17,18,106] [M 105 9,W 106 .eql 105 0])
def XE:PC :=
 (R [0,1,2,3,9,10,12,14,15,16,17,18,108] [M 107 3,I 108 (.bin .eql (.s 107) (.v (.str [])))])
def XF:PC :=
 (R [0,1,2,3,9,10,12,14,15,16,17,18] [M 109 16,M 110 3,I 111 (C Y4 [(.s 110)]),I 112 (.bslice false 3 [(.agg [(.int .u8 0),(.int .i64 0),(.str [])])] [(0,(.s 111))]),I 113 (.app 3 32 (.s 109) (.s 112)),M 16 113])
def XG:PC :=
 (R [0,1,2,3,9,10,11,12,15,16,17,18] [M 115 10,T 116 5 14,M 117 1,M 118 3,I 119 (C ZDr [(.s 115),(.s 116),(.s 117),(.s 118)]),M 114 119,X 120 114 0,X 121 114 1,N 7 17 120,M 11 121])
def XH:PC :=
 (R [0,1,2,3,9,10,12,14,15,16,17,18,123] [M 122 2,W 123 .eql 122 0])
def XI:PC :=
 (R [0,1,2,3,9,10,12,14,15,16,17,18] [M 124 16,M 125 2,I 126 (C ZAG [(.s 125)]),I 127 (.bslice false 3 [(.agg [(.int .u8 0),(.int .i64 0),(.str [])])] [(0,(.s 126))]),I 128 (.app 3 32 (.s 124) (.s 127)),M 16 128])
def XJ:PC :=
 (R [0,1,2,3,9,10,12,14,15,16,17,18] [M 129 18,M 130 2,B 131 .sub 129 130,M 18 131])
def XK:PC :=
 (R [0,1,2,3,9,10,11,12,15,16,17,18] [M 133 10,T 134 5 14,M 135 1,M 136 2,I 137 (C ZDs [(.s 133),(.s 134),(.s 135),(.s 136)]),M 132 137,X 138 132 0,X 139 132 1,N 7 17 138,M 11 139])
def Q0:PC :=
 (R [0,1,2,3,9,10,11,12,15,16,17,18,141] [M 140 18,W 141 .gtr 140 0])
def Q1:PC :=
 (R [0,1,2,3,9,10,11,12,15,16,17] [M 142 16,M 143 18,I 144 (C JG [(.s 143)]),I 145 (.bslice false 3 [(.agg [(.int .u8 0),(.int .i64 0),(.str [])])] [(0,(.s 144))]),I 146 (.app 3 32 (.s 142) (.s 145)),M 16 146])
def Jg:PC :=
 (R [0,1,2,3,9,10,11,12,13,17,19] [M 148 12,T 149 5 15,M 150 16,I 151 (C Yt [(.s 148),(.s 149),(.s 150)]),M 147 151,X 152 147 0,X 153 147 1,I 19 (.box (.v (.agg [(.int .u64 0),(.int .i64 0),(.int .i64 0),(.int .i64 0),(.int .i64 0),.nils,.nils]))),N 7 19 152,M 13 153])
def Jh:PC :=
 (R [0,1,2,3,9,10,12,165] [M 154 11,W 155 .neq 154 0,M 156 155,U 157 156 false 13,G 158 156 false (.bin .neq (.s 157) (V 0)),I 159 (.pick (.s 156) (.v (.bool true)) (.s 158)),M 160 159,G 161 160 false (.ld true 7 (.s 17)),G 162 160 false (.ld true 7 (.s 19)),G 163 160 false (C YP [(.s 161),(.s 162)]),G 164 160 false (.un .not (.s 163)),I 165 (.pick (.s 160) (.v (.bool true)) (.s 164))])
def Ji:PC :=
 (R [8] [I 8 (.mv (.v (.bool false)))])
def Jj:PC :=
 (R [0,1,2,3,9,10,12,20] [M 166 10,I 167 (C Jx [(.s 166)]),M 20 167])
def Jl:PC :=
 (R [0,1,2,3,9,10,12,20,172] [M 168 20,M 169 12,I 170 (C Jx [(.s 169)]),I 171 (C Qq [(.s 168),(.s 170)]),I 172 (.un .not (.s 171))])
def Jm:PC :=
 (R [8] [I 8 (.mv (.v (.bool false)))])
def Jn:PC :=
 (R [0,1,2,3,9,10,12,20,21] [K 21 0])
def ZB1:PC :=
 (R [0,1,2,3,9,10,12,20,21,176] [M 173 21,M 174 20,I 175 (.len 1 (.s 174)),B 176 .lss 173 175])
def ZB2:PC :=
 (R [0,1,2,3,9,10,12,20,21,22] [M 180 10,M 181 20,M 182 21,I 183 (.ixS 1 (.s 181) (.s 182)),L 184 183,I 185 (C QN [(.s 180),(.s 184)]),M 179 185,X 186 179 0,X 187 179 1,I 22 (.box (.v ZN)),N 3 22 186,M 23 187])
def ZB3:PC :=
 (R [0,1,2,3,9,10,12,20,21,22,24] [M 189 12,M 190 20,M 191 21,I 192 (.ixS 1 (.s 190) (.s 191)),L 193 192,I 194 (C QN [(.s 189),(.s 193)]),M 188 194,X 195 188 0,X 196 188 1,I 24 (.box (.v ZN)),N 3 24 195,M 25 196])
def ZB4:PC :=
 (R [0,1,2,3,9,10,12,20,21,200] [T 197 3 22,T 198 3 24,I 199 (C Yy [(.s 197),(.s 198)]),I 200 (.un .not (.s 199))])
def ZB5:PC :=
 (R [8] [I 8 (.mv (.v (.bool false)))])
def ZB6:PC :=
 (R [0,1,2,3,9,10,12,20,21] [M 177 21,W 178 .add 177 1,M 21 178])
def p_quartolaw20_PatchEdits_43:PC :=
 (D (D ZB1
 (E 176
 .skip
 (.exit 2)))
 (D (.block 3
 (D ZB2
 (D ZB3
 (D ZB4
 (E 200
 (D ZB5
 .ret)
 .skip)))))
 ZB6))
def ZB7:PC :=
 (R [0,1,2,3,9] [M 47 9,W 48 .add 47 1,M 9 48])
def ZB8:PC :=
 (D (D ZCr
 (E 46
 .skip
 (.exit 0)))
 (D (.block 1
 (D XW
 (D XY
 (D (D XZ
 (E 70
 (D Y5
 .ret)
 .skip))
 (D Y6
 (D Y7
 (D (D Y8
 (E 93
 (D Y9
 .ret)
 .skip))
 (D XA
 (D XB
 (D (D Je
 (E 95
 Jf
 .skip))
 (D XC
 (D (D XD
 (E 106
 (D (D XE
 (E 108
 (.exit 1)
 .skip))
 (D XF
 XG))
 (D (D XH
 (E 123
 (.exit 1)
 .skip))
 (D XI
 (D XJ
 XK)))))
 (D (D Q0
 (E 141
 Q1
 .skip))
 (D Jg
 (D (D Jh
 (E 165
 (D Ji
 .ret)
 .skip))
 (D Jj
 (D (D Jl
 (E 172
 (D Jm
 .ret)
 .skip))
 (D Jn
 (.block 2
 (.loop p_quartolaw20_PatchEdits_43))))))))))))))))))))
 ZB7))
def ZB9:PC :=
 (R [8] [I 201 (C YJ []),M 8 201])
def JL:PF:=⟨false,
 (D ZCl
 (D (D ZCm
 (E 33
 (D ZCn
 .ret)
 .skip))
 (D ZCo
 (D ZCp
 (D (D ZCq
 (.block 0
 (.loop ZB8)))
 (D ZB9
 .ret)))))),
 [.s 8]⟩
theorem ZD1:Zv Proofs.Try.prog false ZD0 Proofs.Try.f3=some JL:=by kernel_rfl
def ZIT:List Hint:=[H [],H [1,2,3],H [1,2,14],H [0],⟨[1,2,4,5],[],[(6,.inner),(4,.pin),(3,.pin),(2,.pin)],[],[(10,(.here 10)),(5,.imm)],[10]⟩,H [5,6,7],H [0]]
def ZGU:PC :=
 (R [] [I 0 (.mv (.v (.bool false)))])
def ZGV:PC :=
 (R [1,2,3] [I 9 (C YK []),M 8 9,X 10 8 0,X 11 8 1,X 12 8 2,I 2 (.box (.v ZR)),M 1 10,N 5 2 11,M 3 12])
def ZGW:PC :=
 (R [1,2,14] [M 13 3,I 14 (.un .not (.s 13))])
def ZGX:PC :=
 (R [0] [I 0 (.mv (.v (.bool false)))])
def ZGY:PC :=
 (.regH [10] [1,2,4,5] [M 16 1,T 17 5 2,I 18 (.call .pin (.v (.func (.func JG) [] [])) [(V 9)]),I 19 (.call .pin (.v (.func (.func Y4) [] [])) [(.v (.str [120,121,122]))]),I 20 (.call .pin (.v (.func (.func JG) [] [])) [(V 8)]),I 21 (.w .imm (.bslice false 3 [(.agg [(.int .u8 0),(.int .i64 0),(.str [])]),(.agg [(.int .u8 0),(.int .i64 0),(.str [])]),(.agg [(.int .u8 0),(.int .i64 0),(.str [])])] [(0,(.s 18)),(1,(.s 19)),(2,(.s 20))])),I 22 (.call .inner (.v (.func (.func Yt) [] [])) [(.s 16),(.s 17),(.s 21)]),M 15 22,X 23 15 0,X 24 15 1,I 4 (.w (.here 10) (.box (.v (.agg [(.int .u64 0),(.int .i64 0),(.int .i64 0),(.int .i64 0),(.int .i64 0),.nils,.nils])))),N 7 4 23,M 5 24])
def ZGZ:PC :=
 (R [5,6,7] [M 26 1,T 27 5 2,F 28 0 4,T 29 5 28,I 30 (C J6 [(.s 26),(.s 27),(.s 29)]),M 25 30,X 31 25 0,X 32 25 1,M 6 31,M 7 32])
def ZGa:PC :=
 (R [0] [M 33 5,W 34 .eql 33 0,M 35 34,U 36 35 true 7,G 37 35 true (.bin .eql (.s 36) (V 0)),I 38 (.pick (.s 35) (.s 37) (.v (.bool false))),M 39 38,U 40 39 true 6,G 41 39 true (.bin .eql (.s 40) (V 4)),I 42 (.pick (.s 39) (.s 41) (.v (.bool false))),M 0 42])
def ZBn:PF:=⟨false,
 (D ZGU
 (D ZGV
 (D (D ZGW
 (E 14
 (D ZGX
 .ret)
 .skip))
 (D ZGY
 (D ZGZ
 (D ZGa
 .ret)))))),
 [.s 0]⟩
theorem ZIU:Zv Proofs.Try.prog false ZIT Proofs.Try.f4=some ZBn:=by kernel_rfl
def ZJU:List Hint:=[H [0,1],H [4]]
def ZHF:PC :=
 (R [0,1] [K 4 0])
def ZHG:PC :=
 (R [4] [M 5 0,M 6 1,I 7 (C ZAH [(.s 5),(.s 6)]),M 4 7])
def ZCs:PF:=⟨false,
 (D ZHF
 (D ZHG
 .ret)),
 [.s 4]⟩
theorem ZJV:Zv Proofs.Try.prog false ZJU Proofs.Try.f5=some ZCs:=by kernel_rfl
def Zeo:List Hint:=[H [0,1],H [0,6,7],H [0,6,7,15],H [4,5],H [4,5]]
def ZYb:PC :=
 (R [0,1] [I 4 (.mv (.v .nilptr)),K 5 0])
def ZYc:PC :=
 (R [0,6,7] [M 9 0,M 10 1,I 11 (C ZCe [(.s 9),(.s 10)]),M 8 11,X 12 8 0,X 13 8 1,M 6 12,M 7 13])
def ZYd:PC :=
 (R [0,6,7,15] [M 14 7,W 15 .neq 14 0])
def ZYe:PC :=
 (R [4,5] [M 16 7,I 4 (.mv (.v .nilptr)),M 5 16])
def ZYf:PC :=
 (R [4,5] [M 17 0,M 18 6,I 19 (.mkmap),I 20 (.build [(.int .i64 0),.nilptr,.nilmap,(.int .i64 0),(.int .i64 0),(.int .i64 0)] [(0,1,(.s 17)),(1,1,(.s 18)),(2,1,(.s 19))]),I 21 (.box (.s 20)),M 4 21,K 5 0])
def ZQi:PF:=⟨true,
 (D ZYb
 (D ZYc
 (D (D ZYd
 (E 15
 (D ZYe
 .ret)
 .skip))
 (D ZYf
 .ret)))),
 [.s 4,.s 5]⟩
theorem Zep:Zv Proofs.Try.prog true Zeo Proofs.Try.f6=some ZQi:=by kernel_rfl
def Zgf:List Hint:=[H [0,1,4],H [0,1,4,11],H [4,5],H [0,4,6,7],H [0,4,6,7,19],H [4,5],H [4,7,8],H [4,5]]
def ZcC:PC :=
 (R [0,1,4] [I 4 (.box (.v ZR)),K 5 0])
def ZcD:PC :=
 (R [0,1,4,11] [M 10 0,I 11 (.eqs false 3 [] (.s 10) (.v .nilptr))])
def ZcE:PC :=
 (R [4,5] [I 12 (.build [(.int .u64 0),(.int .i64 0),(.int .i64 0),(.int .i64 0),(.int .i64 0)] []),N 5 4 12,K 5 1])
def ZcF:PC :=
 (R [0,4,6,7] [M 14 1,I 15 (C ZAa [(.s 14)]),M 13 15,X 16 13 0,X 17 13 1,I 6 (.box (.v ZT)),N 7 6 16,M 7 17])
def ZcG:PC :=
 (R [0,4,6,7,19] [M 18 7,W 19 .neq 18 0])
def ZcH:PC :=
 (R [4,5] [I 20 (.build [(.int .u64 0),(.int .i64 0),(.int .i64 0),(.int .i64 0),(.int .i64 0)] []),M 21 7,N 5 4 20,M 5 21])
def ZcI:PC :=
 (R [4,7,8] [M 23 0,T 24 7 6,I 25 (C ZAb [(.s 23),(.s 24)]),M 22 25,X 26 22 0,X 27 22 1,X 28 22 2,I 8 (.box (.v ZR)),N 5 8 26,M 9 27,M 7 28])
def ZcJ:PC :=
 (R [4,5] [T 29 5 8,M 30 7,N 5 4 29,M 5 30])
def ZU1:PF:=⟨false,
 (D ZcC
 (D (D ZcD
 (E 11
 (D ZcE
 .ret)
 .skip))
 (D ZcF
 (D (D ZcG
 (E 19
 (D ZcH
 .ret)
 .skip))
 (D ZcI
 (D ZcJ
 .ret)))))),
 [.c 4 true 5,.s 5]⟩
theorem Zgg:Zv Proofs.Try.prog false Zgf Proofs.Try.f7=some ZU1:=by kernel_rfl
def ZJW:List Hint:=[H [0,2],H [2]]
def ZHH:PC :=
 (R [0,2] [I 2 (.box (.v (.agg [(.int .u8 0),(.int .i64 0),(.str [])])))])
def ZHI:PC :=
 (R [2] [M 3 0,I 4 (.build [(.int .u8 0),(.int .i64 0),(.str [])] [(0,1,(.v (.int .u8 1))),(1,1,(.s 3))]),N 3 2 4])
def ZCt:PF:=⟨false,
 (D ZHH
 (D ZHI
 .ret)),
 [.c 2 true 3]⟩
theorem ZJX:Zv Proofs.Try.prog false ZJW Proofs.Try.f8=some ZCt:=by kernel_rfl
def ZKz:List Hint:=[H [0,2],H [2]]
def ZIV:PC :=
 (R [0,2] [I 2 (.box (.v (.agg [(.int .u8 0),(.int .i64 0),(.str [])])))])
def ZIW:PC :=
 (R [2] [M 3 0,I 4 (.build [(.int .u8 0),(.int .i64 0),(.str [])] [(0,1,(.v (.int .u8 2))),(2,1,(.s 3))]),N 3 2 4])
def ZDe:PF:=⟨false,
 (D ZIV
 (D ZIW
 .ret)),
 [.c 2 true 3]⟩
theorem ZK0:Zv Proofs.Try.prog false ZKz Proofs.Try.f9=some ZDe:=by kernel_rfl
def ZYg:List Hint:=[H [0,2,3,5,8],H [8,9]]
def ZQ8:PC :=
 (R [0,2,3,5,8] [I 5 (.box (.s 1)),I 8 (.box (.v (.agg [(.int .u64 0),(.int .i64 0),(.int .i64 0),(.int .i64 0),(.int .i64 0),.nils,.nils]))),K 9 0])
def ZQ9:PC :=
 (R [8,9] [M 10 0,T 11 5 5,M 12 2,M 13 3,I 14 (C ZAc [(.s 10),(.s 11),(.s 12),(V 0),(.s 13)]),X 15 14 0,X 16 14 1,N 7 8 15,M 9 16])
def ZIv:PF:=⟨false,
 (D ZQ8
 (D ZQ9
 .ret)),
 [.c 8 true 7,.s 9]⟩
theorem ZYh:Zv Proofs.Try.prog false ZYg Proofs.Try.f10=some ZIv:=by kernel_rfl
def ZJY:List Hint:=[H [0,2],H [2]]
def ZHJ:PC :=
 (R [0,2] [I 2 (.box (.v (.agg [(.int .u8 0),(.int .i64 0),(.str [])])))])
def ZHK:PC :=
 (R [2] [M 3 0,I 4 (.build [(.int .u8 0),(.int .i64 0),(.str [])] [(0,1,(.v (.int .u8 3))),(1,1,(.s 3))]),N 3 2 4])
def ZCu:PF:=⟨false,
 (D ZHJ
 (D ZHK
 .ret)),
 [.c 2 true 3]⟩
theorem ZJZ:Zv Proofs.Try.prog false ZJY Proofs.Try.f11=some ZCu:=by kernel_rfl
def ZYi:List Hint:=[H [0,2,3,5,8],H [8,9]]
def ZRA:PC :=
 (R [0,2,3,5,8] [I 5 (.box (.s 1)),I 8 (.box (.v (.agg [(.int .u64 0),(.int .i64 0),(.int .i64 0),(.int .i64 0),(.int .i64 0),.nils,.nils]))),K 9 0])
def ZRB:PC :=
 (R [8,9] [M 10 0,T 11 5 5,M 12 2,M 13 3,I 14 (C ZAc [(.s 10),(.s 11),(.s 12),(.s 13),(.v (.str []))]),X 15 14 0,X 16 14 1,N 7 8 15,M 9 16])
def ZIw:PF:=⟨false,
 (D ZRA
 (D ZRB
 .ret)),
 [.c 8 true 7,.s 9]⟩
theorem ZYj:Zv Proofs.Try.prog false ZYi Proofs.Try.f12=some ZIw:=by kernel_rfl
def ZYk:List Hint:=[H [0,2,4,6],H [0,2,4,6,8,9],H [0,2,4,6,8,9,26],H [6,7],H [0,2,4,6,8,9,10,11],H [0,2,4,6,8,9,10,11,35],H [6,7],H [0,2,4,6,8,11,40],H [6,7],H [0,2,4,6,8,47],H [6,7],H [0,2,4,6,12],H [0,4,6,12,55,56,57],H [0,4,6,12,55,56,57,58],H [0,4,6,12,14,55,56,57],H [0,4,6,12,15,55,56,57],H [0,4,6,12,15,55,56,57,65],H [6,7],H [0,4,6,12,55,56,57],H [0,6,9,12,16],H [0,6,9,12,16,80],H [6,7],H [6,9,16,17,18],H [6,9,16,17,18,94],H [6,7],H [6,7]]
def ZRC:PC :=
 (R [0,2,4,6] [I 4 (.box (.s 1)),I 6 (.box (.v (.agg [(.int .u64 0),(.int .i64 0),(.int .i64 0),(.int .i64 0),(.int .i64 0),.nils,.nils]))),K 7 0])
def ZRD:PC :=
 (R [0,2,4,6,8,9] [M 20 0,T 21 5 4,I 22 (C Ya [(.s 20),(.s 21)]),M 19 22,X 23 19 0,X 24 19 1,I 8 (.box (.v ZT)),N 7 8 23,M 9 24])
def ZRE:PC :=
 (R [0,2,4,6,8,9,26] [M 25 9,W 26 .neq 25 0])
def ZRF:PC :=
 (R [6,7] [I 27 (.build [(.int .u64 0),(.int .i64 0),(.int .i64 0),(.int .i64 0),(.int .i64 0),.nils,.nils] []),M 28 9,N 7 6 27,M 7 28])
def ZRG:PC :=
 (R [0,2,4,6,8,9,10,11] [M 30 2,I 31 (C X5 [(.s 30)]),M 29 31,X 32 29 0,X 33 29 1,X 34 29 2,M 10 32,M 11 33,M 9 34])
def ZRH:PC :=
 (R [0,2,4,6,8,9,10,11,35] [M 36 9,W 37 .neq 36 0,M 35 37])
def ZRI:PC :=
 (R [6,7] [I 38 (.build [(.int .u64 0),(.int .i64 0),(.int .i64 0),(.int .i64 0),(.int .i64 0),.nils,.nils] []),M 39 9,N 7 6 38,M 7 39])
def ZRJ:PC :=
 (R [0,2,4,6,8,11,40] [M 41 10,F 42 2 4,F 43 0 42,L 44 43,B 45 .neq 41 44,M 40 45])
def ZRK:PC :=
 (R [6,7] [I 46 (.build [(.int .u64 0),(.int .i64 0),(.int .i64 0),(.int .i64 0),(.int .i64 0),.nils,.nils] []),N 7 6 46,K 7 21])
def ZRL:PC :=
 (R [0,2,4,6,8,47] [M 48 11,W 49 .gtr 48 65536,M 47 49])
def ZNl:PC :=
 (R [6,7] [I 50 (.build [(.int .u64 0),(.int .i64 0),(.int .i64 0),(.int .i64 0),(.int .i64 0),.nils,.nils] []),N 7 6 50,K 7 5])
def ZNm:PC :=
 (R [0,2,4,6,12] [M 51 0,T 52 7 8,I 53 (.build [.nilptr,(.int .u64 0),(.int .i64 0),(.int .i64 0),(.int .i64 0),(.int .i64 0),(.str []),.nils,(.int .u64 0),(.int .i64 0),(.int .i64 0),(.int .i64 0),(.int .i64 0),(.str []),.nils] [(0,1,(.s 51)),(8,7,(.s 52))]),I 54 (.box (.s 53)),M 12 54])
def ZNn:PC :=
 (R [0,4,6,12,55,56,57] [M 55 2,I 56 (.len 1 (.s 55)),K 57 0])
def ZNo:PC :=
 (R [0,4,6,12,55,56,57,58] [B 58 .lss 57 56])
def ZNp:PC :=
 (R [0,4,6,12,14,55,56,57] [I 59 (.ixS 3 (.s 55) (.s 57)),T 60 3 59,I 14 (.box (.v (.agg [(.int .u8 0),(.int .i64 0),(.str [])]))),N 3 14 60])
def ZNq:PC :=
 (R [0,4,6,12,15,55,56,57] [M 61 12,T 62 3 14,I 63 (C Qd [(.s 61),(.s 62)]),M 15 63])
def ZNr:PC :=
 (R [0,4,6,12,15,55,56,57,65] [M 64 15,W 65 .neq 64 0])
def ZNs:PC :=
 (R [6,7] [I 66 (.build [(.int .u64 0),(.int .i64 0),(.int .i64 0),(.int .i64 0),(.int .i64 0),.nils,.nils] []),M 67 15,N 7 6 66,M 7 67])
def ZNt:PC :=
 (R [0,4,6,12,55,56,57] [W 68 .add 57 1,M 57 68])
def ZNu:PC :=
 (D ZNo
 (D (E 58
 .skip
 (.exit 1))
 (D (.block 2
 (D ZNp
 (D ZNq
 (D ZNr
 (E 65
 (D ZNs
 .ret)
 .skip)))))
 ZNt)))
def ZNv:PC :=
 (R [0,6,9,12,16] [M 70 0,T 71 5 4,M 72 12,I 73 (.nilck (.s 72)),F 74 1 73,T 75 7 74,I 76 (C ZAd [(.s 70),(.s 71),(.s 75)]),M 69 76,X 77 69 0,X 78 69 1,M 16 77,M 9 78])
def ZNw:PC :=
 (R [0,6,9,12,16,80] [M 79 9,W 80 .neq 79 0])
def ZNx:PC :=
 (R [6,7] [I 81 (.build [(.int .u64 0),(.int .i64 0),(.int .i64 0),(.int .i64 0),(.int .i64 0),.nils,.nils] []),M 82 9,N 7 6 81,M 7 82])
def ZNy:PC :=
 (R [6,9,16,17,18] [M 84 0,M 85 12,I 86 (.nilck (.s 85)),F 87 1 86,T 88 7 87,I 89 (C ZAb [(.s 84),(.s 88)]),M 83 89,X 90 83 0,X 91 83 1,X 92 83 2,I 17 (.box (.v ZR)),N 5 17 90,M 18 91,M 9 92])
def ZNz:PC :=
 (R [6,9,16,17,18,94] [M 93 9,W 94 .neq 93 0])
def ZN0:PC :=
 (R [6,7] [I 95 (.build [(.int .u64 0),(.int .i64 0),(.int .i64 0),(.int .i64 0),(.int .i64 0),.nils,.nils] []),M 96 9,N 7 6 95,M 7 96])
def ZN1:PC :=
 (R [6,7] [T 97 5 17,M 98 18,M 99 16,I 100 (.build [(.int .u64 0),(.int .i64 0),(.int .i64 0),(.int .i64 0),(.int .i64 0),.nils,.nils] [(0,5,(.s 97)),(5,1,(.s 98)),(6,1,(.s 99))]),N 7 6 100,K 7 0])
def ZIx:PF:=⟨false,
 (D ZRC
 (D ZRD
 (D (D ZRE
 (E 26
 (D ZRF
 .ret)
 .skip))
 (D ZRG
 (D (.block 0
 (D ZRH
 (E 35
 (D ZRI
 .ret)
 (D ZRJ
 (E 40
 (D ZRK
 .ret)
 (D ZRL
 (E 47
 (D ZNl
 .ret)
 .skip)))))))
 (D ZNm
 (D (D ZNn
 (.block 1
 (.loop ZNu)))
 (D ZNv
 (D (D ZNw
 (E 80
 (D ZNx
 .ret)
 .skip))
 (D ZNy
 (D (D ZNz
 (E 94
 (D ZN0
 .ret)
 .skip))
 (D ZN1
 .ret)))))))))))),
 [.c 6 true 7,.s 7]⟩
theorem ZYl:Zv Proofs.Try.prog false ZYk Proofs.Try.f13=some ZIx:=by kernel_rfl
def ZEM:List Hint:=[H [2,3],H [4]]
def ZDI:PC :=
 (R [2,3] [I 2 (.box (.s 0)),I 3 (.box (.s 1)),I 4 (.mv (.v (.bool false)))])
def ZDJ:PC :=
 (R [4] [F 5 0 2,T 6 5 5,F 7 0 3,T 8 5 7,I 9 (.eqs false 0 [(0,0),(1,0),(2,0),(3,0),(4,0)] (.s 6) (.s 8)),M 10 9,G 11 10 true (.fadr 5 (.s 2)),G 12 10 true (.ld false 1 (.s 11)),G 13 10 true (.fadr 5 (.s 3)),G 14 10 true (.ld false 1 (.s 13)),G 15 10 true (C Qq [(.s 12),(.s 14)]),I 16 (.pick (.s 10) (.s 15) (.v (.bool false))),M 17 16,G 18 17 true (.fadr 6 (.s 2)),G 19 17 true (.ld false 1 (.s 18)),G 20 17 true (.fadr 6 (.s 3)),G 21 17 true (.ld false 1 (.s 20)),G 22 17 true (C Qq [(.s 19),(.s 21)]),I 23 (.pick (.s 17) (.s 22) (.v (.bool false))),M 4 23])
def ZAO:PF:=⟨false,
 (D ZDI
 (D ZDJ
 .ret)),
 [.s 4]⟩
theorem ZEN:Zv Proofs.Try.prog false ZEM Proofs.Try.f14=some ZAO:=by kernel_rfl
def ZGb:List Hint:=[H [0],H [0,4],H [2],H [2]]
def ZEO:PC :=
 (R [0] [I 2 (.mv (.v .nils))])
def ZEP:PC :=
 (R [0,4] [M 3 0,I 4 (.eqs false 3 [] (.s 3) (.v .nilptr))])
def ZEQ:PC :=
 (R [2] [I 2 (.mv (.v .nils))])
def ZER:PC :=
 (R [2] [M 5 0,I 6 (.nilck (.s 5)),F 7 1 6,L 8 7,I 9 (C YQ [(.s 8)]),M 2 9])
def ZAx:PF:=⟨false,
 (D ZEO
 (D (D ZEP
 (E 4
 (D ZEQ
 .ret)
 .skip))
 (D ZER
 .ret))),
 [.s 2]⟩
theorem ZGc:Zv Proofs.Try.prog false ZGb Proofs.Try.f15=some ZAx:=by kernel_rfl
def ZD2:List Hint:=[H [0,1],H [0,1,10],H [4],H [0,1,5],H [0,1,5,14],H [0,1,5,25],H [4],H [0,1,5],H [4]]
def ZCv:PC :=
 (R [0,1] [I 4 (.mv (.v (.bool false)))])
def ZCw:PC :=
 (R [0,1,10] [M 6 0,I 7 (.len 1 (.s 6)),M 8 1,I 9 (.len 1 (.s 8)),B 10 .neq 7 9])
def ZCx:PC :=
 (R [4] [I 4 (.mv (.v (.bool false)))])
def ZCy:PC :=
 (R [0,1,5] [K 5 0])
def ZCz:PC :=
 (R [0,1,5,14] [M 11 5,M 12 0,I 13 (.len 1 (.s 12)),B 14 .lss 11 13])
def ZC0:PC :=
 (R [0,1,5,25] [M 17 0,M 18 5,I 19 (.ixS 1 (.s 17) (.s 18)),L 20 19,M 21 1,M 22 5,I 23 (.ixS 1 (.s 21) (.s 22)),L 24 23,B 25 .neq 20 24])
def ZC1:PC :=
 (R [4] [I 4 (.mv (.v (.bool false)))])
def ZC2:PC :=
 (R [0,1,5] [M 15 5,W 16 .add 15 1,M 5 16])
def ZC3:PC :=
 (D (D ZCz
 (E 14
 .skip
 (.exit 0)))
 (D (.block 1
 (D ZC0
 (E 25
 (D ZC1
 .ret)
 .skip)))
 ZC2))
def ZC4:PC :=
 (R [4] [I 4 (.mv (.v (.bool true)))])
def Xt:PF:=⟨false,
 (D ZCv
 (D (D ZCw
 (E 10
 (D ZCx
 .ret)
 .skip))
 (D (D ZCy
 (.block 0
 (.loop ZC3)))
 (D ZC4
 .ret)))),
 [.s 4]⟩
theorem ZD3:Zv Proofs.Try.prog false ZD2 Proofs.Try.f16=some Xt:=by kernel_rfl
def ZK1:List Hint:=[H [0,1,4],H [0,1,4,9],H [4,5],H [0,4,6,7],H [0,4,6,21],H [4],H [4,5],H [4,6],H [4,5]]
def ZIX:PC :=
 (R [0,1,4] [I 4 (.box (.v ZN)),K 5 0])
def ZIY:PC :=
 (R [0,1,4,9] [M 8 0,I 9 (.eqs false 3 [] (.s 8) (.v .nilptr))])
def ZIZ:PC :=
 (R [4,5] [I 10 (.build [(.int .i64 0),(.str []),.nils] []),N 3 4 10,K 5 1])
def ZIa:PC :=
 (R [0,4,6,7] [M 12 0,I 13 (.nilck (.s 12)),F 14 2 13,L 15 14,M 16 1,I 17 (.look 0 ZN true (.s 15) (.s 16)),M 11 17,X 18 11 0,X 19 11 1,I 6 (.box (.v ZN)),N 3 6 18,M 7 19])
def ZIb:PC :=
 (R [0,4,6,21] [M 20 7,I 21 (.un .not (.s 20))])
def ZIc:PC :=
 (R [4] [M 22 0,I 23 (.nilck (.s 22)),F 24 5 23,L 25 24,W 26 .add 25 1,I 27 (.nilck (.s 22)),F 28 5 27,N 1 28 26])
def ZId:PC :=
 (R [4,5] [I 29 (.build [(.int .i64 0),(.str []),.nils] []),N 3 4 29,K 5 10])
def ZIe:PC :=
 (R [4,6] [F 30 2 6,L 31 30,I 32 (C Z7 [(.s 31)]),F 33 2 6,N 1 33 32])
def ZIf:PC :=
 (R [4,5] [T 34 3 6,N 3 4 34,K 5 0])
def ZDf:PF:=⟨false,
 (D ZIX
 (D (D ZIY
 (E 9
 (D ZIZ
 .ret)
 .skip))
 (D ZIa
 (D (D ZIb
 (E 21
 (D ZIc
 (D ZId
 .ret))
 .skip))
 (D ZIe
 (D ZIf
 .ret)))))),
 [.c 4 true 3,.s 5]⟩
theorem ZK2:Zv Proofs.Try.prog false ZK1 Proofs.Try.f17=some ZDf:=by kernel_rfl
def ZGd:List Hint:=[H [2,3],H [4]]
def ZES:PC :=
 (R [2,3] [I 2 (.box (.s 0)),I 3 (.box (.s 1)),I 4 (.mv (.v (.bool false)))])
def ZET:PC :=
 (R [4] [F 5 0 2,L 6 5,F 7 0 3,L 8 7,B 9 .eql 6 8,M 10 9,G 11 10 true (.fadr 1 (.s 2)),G 12 10 true (.ld false 1 (.s 11)),G 13 10 true (.fadr 1 (.s 3)),G 14 10 true (.ld false 1 (.s 13)),G 15 10 true (.bin .eql (.s 12) (.s 14)),I 16 (.pick (.s 10) (.s 15) (.v (.bool false))),M 17 16,G 18 17 true (.fadr 2 (.s 2)),G 19 17 true (.ld false 1 (.s 18)),G 20 17 true (.fadr 2 (.s 3)),G 21 17 true (.ld false 1 (.s 20)),G 22 17 true (C Yz [(.s 19),(.s 21)]),I 23 (.pick (.s 17) (.s 22) (.v (.bool false))),M 4 23])
def ZAy:PF:=⟨false,
 (D ZES
 (D ZET
 .ret)),
 [.s 4]⟩
theorem ZGe:Zv Proofs.Try.prog false ZGd Proofs.Try.f18=some ZAy:=by kernel_rfl
def ZIg:List Hint:=[H [1],H [1,3,4],H [1,3,15],H [0,1,2],H [1,3,4,5],⟨[0,1,2],[],[],[],[(6,(.hide [(.s 1)])),(10,(.plain (.s 1)))],[]⟩]
def ZGf:PC :=
 (R [1] [I 0 (.mv (.v .nilptr)),I 1 (.box (.v ZR)),I 2 (.mv (.v (.bool false)))])
def ZGg:PC :=
 (R [1,3,4] [I 7 (C ZBT [(V 8),(.v (.int .u64 4))]),M 6 7,X 8 6 0,X 9 6 1,M 3 8,M 4 9])
def ZGh:PC :=
 (R [1,3,15] [M 10 3,I 11 (.eqs false 3 [] (.s 10) (.v .nilptr)),M 12 11,U 13 12 false 4,G 14 12 false (.bin .neq (.s 13) (V 0)),I 15 (.pick (.s 12) (.v (.bool true)) (.s 14))])
def ZGi:PC :=
 (R [0,1,2] [I 16 (.build [(.int .u64 0),(.int .i64 0),(.int .i64 0),(.int .i64 0),(.int .i64 0)] []),I 0 (.mv (.v .nilptr)),N 5 1 16,I 2 (.mv (.v (.bool false)))])
def ZGj:PC :=
 (R [1,3,4,5] [M 18 3,I 19 (C ZBE [(.s 18),(.v (.str [97,98,99,100,101,102,103,104,105,106,107,108,109,110,111,112,113]))]),M 17 19,X 20 17 0,X 21 17 1,I 5 (.box (.v ZR)),N 5 5 20,M 4 21])
def ZGk:PC :=
 (R [0,1,2] [M 22 3,T 23 5 5,M 24 4,W 25 .eql 24 0,M 26 25,G 27 26 true (.fadr 0 (.s 5)),G 28 26 true (.w (.hide [(.s 1)]) (.ld false 1 (.s 27))),G 29 26 true (.bin .eql (.s 28) (.v (.int .u64 65538))),I 30 (.pick (.s 26) (.s 29) (.v (.bool false))),M 0 22,J (.w (.plain (.s 1)) (.st 5 (.s 1) (.s 23))),M 2 30])
def ZBo:PF:=⟨true,
 (D ZGf
 (D ZGg
 (D (D ZGh
 (E 15
 (D ZGi
 .ret)
 .skip))
 (D ZGj
 (D ZGk
 .ret))))),
 [.s 0,.c 1 true 5,.s 2]⟩
theorem ZIh:Zv Proofs.Try.prog true ZIg Proofs.Try.f19=some ZBo:=by kernel_rfl
def ZJa:List Hint:=[H [0,1],H [4]]
def ZHL:PC :=
 (R [0,1] [K 4 0])
def ZHM:PC :=
 (R [4] [M 5 0,I 6 (.cint .u64 (.s 5)),M 7 1,W 8 .add 7 1,I 9 (.cint .u64 (.s 8)),B 10 .rem 6 9,I 11 (.cint .i64 (.s 10)),M 4 11])
def ZC5:PF:=⟨false,
 (D ZHL
 (D ZHM
 .ret)),
 [.s 4]⟩
theorem ZJb:Zv Proofs.Try.prog false ZJa Proofs.Try.f21=some ZC5:=by kernel_rfl
def ZU2:List Hint:=[H [0,1],H [0,1,21],H [4,5],⟨[0,6],[],[],[],[(1,(.here 1)),(5,(.here 5)),(3,(.here 3))],[3,1,5]⟩,H [0,6,31,32],H [0,6,31,32,33],H [0,6,7,31,32],H [0,6,7,31,32],H [0,6,31,32],H [0,6,31,32],H [4,5]]
def ZN2:PC :=
 (R [0,1] [I 4 (.mv (.v .nilptr)),K 5 0])
def ZN3:PC :=
 (R [0,1,21] [M 8 0,W 9 .lss 8 1,M 10 9,U 11 10 false 0,G 12 10 false (.bin .gtr (.s 11) (V 16384)),I 13 (.pick (.s 10) (.v (.bool true)) (.s 12)),M 14 13,U 15 14 false 1,G 16 14 false (.bin .lss (.s 15) (.v (.int .u64 1))),I 17 (.pick (.s 14) (.v (.bool true)) (.s 16)),M 18 17,U 19 18 false 1,G 20 18 false (.bin .gtr (.s 19) (.v (.int .u64 4294967295))),I 21 (.pick (.s 18) (.v (.bool true)) (.s 20))])
def ZN4:PC :=
 (R [4,5] [I 4 (.mv (.v .nilptr)),K 5 3])
def ZN5:PC :=
 (.regH [3,1,5] [0,6] [M 22 0,I 23 (.w (.here 1) (.mkslice 1 8 (.int .i64 0) (.s 22) (.s 22))),M 24 0,I 25 (.w (.here 3) (.mkslice 1 1 (.int .u8 0) (.s 24) (.s 24))),M 26 0,I 27 (.w (.here 5) (.mkslice 1 8 (.int .u64 0) (.s 26) (.s 26))),M 28 1,I 29 (.build [.nils,.nils,.nils,(.int .u64 0)] [(0,1,(.s 23)),(1,1,(.s 25)),(2,1,(.s 27)),(3,1,(.s 28))]),I 30 (.box (.s 29)),M 6 30])
def ZN6:PC :=
 (R [0,6,31,32] [M 31 0,K 32 0])
def ZN7:PC :=
 (R [0,6,31,32,33] [B 33 .lss 32 31])
def ZN8:PC :=
 (R [0,6,7,31,32] [M 34 32,M 7 34])
def ZN9:PC :=
 (R [0,6,7,31,32] [M 35 6,I 36 (.nilck (.s 35)),F 37 0 36,L 38 37,M 39 7,M 40 0,W 41 .sub 40 1,M 42 7,B 43 .sub 41 42,I 44 (.ixS 1 (.s 38) (.s 39)),N 1 44 43])
def ZOA:PC :=
 (R [0,6,31,32] [M 45 6,I 46 (.nilck (.s 45)),F 47 2 46,L 48 47,M 49 7,I 50 (.ixS 1 (.s 48) (.s 49)),J (.st 1 (.s 50) (.v (.int .u64 1)))])
def ZOB:PC :=
 (R [0,6,31,32] [W 51 .add 32 1,M 32 51])
def ZK3:PC :=
 (D ZN7
 (D (E 33
 .skip
 (.exit 0))
 (D (.block 1
 (D ZN8
 (D ZN9
 ZOA)))
 ZOB)))
def ZK4:PC :=
 (R [4,5] [M 52 6,M 4 52,K 5 0])
def ZHN:PF:=⟨true,
 (D ZN2
 (D (D ZN3
 (E 21
 (D ZN4
 .ret)
 .skip))
 (D ZN5
 (D (D ZN6
 (.block 0
 (.loop ZK3)))
 (D ZK4
 .ret))))),
 [.s 4,.s 5]⟩
theorem ZU3:Zv Proofs.Try.prog true ZU2 Proofs.Try.f22=some ZHN:=by kernel_rfl
def ZcK:List Hint:=[H [0,2],H [0,2,14],H [2,3],⟨[0,2,4],[0],[],[],[],[]⟩,H [2,4,17,18,19],H [2,4,17,18,19,20],H [2,4,6,17,18,19],H [2,4,17,18,19],H [2,4,17,18,19],H [2,4,31],H [2,4,7,8],H [2,4,7,8,39],H [2,3],⟨[2,4,7,9],[0],[],[],[],[]⟩,H [2,4,9,42,43,44],H [2,4,9,42,43,44,45],H [2,4,9,11,42,43,44],H [2,4,9,11,42,43,44],H [2,4,9,42,43,44],H [2,4,9,42,43,44],H [2,4],H [2,3]]
def ZU4:PC :=
 (R [0,2] [I 2 (.box (.v ZT)),K 3 0])
def ZU5:PC :=
 (R [0,2,14] [M 12 0,I 13 (.len 0 (.s 12)),W 14 .gtr 13 65536])
def ZU6:PC :=
 (R [2,3] [I 15 (.build [(.int .u64 0),(.int .i64 0),(.int .i64 0),(.int .i64 0),(.int .i64 0),(.str []),.nils] []),N 7 2 15,K 3 5])
def ZU7:PC :=
 (R [0,2,4] [I 4 (.onil 7)])
def ZU8:PC :=
 (R [2,4,17,18,19] [M 16 0,I 17 (C ZCg [(.s 16)]),I 18 (.len 1 (.s 17)),K 19 0])
def ZU9:PC :=
 (R [2,4,17,18,19,20] [B 20 .lss 19 18])
def ZVA:PC :=
 (R [2,4,6,17,18,19] [I 21 (.ixS 1 (.s 17) (.s 19)),L 22 21,M 6 22])
def ZVB:PC :=
 (R [2,4,17,18,19] [M 23 4,M 24 6,I 25 (.build [(.int .u64 0),(.int .i64 0),(.int .i64 0),(.int .i64 0),(.int .i64 0),(.str []),.nils] [(5,1,(.s 24))]),I 26 (.bslice false 7 [ZT] [(0,(.s 25))]),I 27 (.app 7 80 (.s 23) (.s 26)),M 4 27])
def ZVC:PC :=
 (R [2,4,17,18,19] [W 28 .add 19 1,M 19 28])
def ZVD:PC :=
 (D ZU9
 (D (E 20
 .skip
 (.exit 0))
 (D (.block 1
 (D ZVA
 ZVB))
 ZVC)))
def ZRM:PC :=
 (R [2,4,31] [M 29 4,I 30 (.len 1 (.s 29)),W 31 .gtr 30 1])
def ZRN:PC :=
 (R [2,4,7,8] [M 33 4,I 34 (.len 1 (.s 33)),I 35 (C ZFS [(.s 34),(V 4)]),M 32 35,X 36 32 0,X 37 32 1,M 7 36,M 8 37])
def ZRO:PC :=
 (R [2,4,7,8,39] [M 38 8,W 39 .neq 38 0])
def ZRP:PC :=
 (R [2,3] [I 40 (.build [(.int .u64 0),(.int .i64 0),(.int .i64 0),(.int .i64 0),(.int .i64 0),(.str []),.nils] []),M 41 8,N 7 2 40,M 3 41])
def ZRQ:PC :=
 (R [2,4,7,9] [I 9 (.onil 7)])
def ZRR:PC :=
 (R [2,4,9,42,43,44] [M 42 7,I 43 (.len 1 (.s 42)),K 44 0])
def ZRS:PC :=
 (R [2,4,9,42,43,44,45] [B 45 .lss 44 43])
def ZRT:PC :=
 (R [2,4,9,11,42,43,44] [I 46 (.ixS 1 (.s 42) (.s 44)),L 47 46,M 11 47])
def ZRU:PC :=
 (R [2,4,9,11,42,43,44] [M 48 9,M 49 4,M 50 11,I 51 (.slc 7 (.s 49) none (some (.s 50))),I 52 (C QL [(.s 51)]),I 53 (.bslice false 7 [ZT] [(0,(.s 52))]),I 54 (.app 7 80 (.s 48) (.s 53)),M 9 54])
def ZRV:PC :=
 (R [2,4,9,42,43,44] [M 55 4,M 56 11,I 57 (.slc 7 (.s 55) (some (.s 56)) none),M 4 57])
def ZRW:PC :=
 (R [2,4,9,42,43,44] [W 58 .add 44 1,M 44 58])
def ZRX:PC :=
 (D ZRS
 (D (E 45
 .skip
 (.exit 4))
 (D (.block 5
 (D ZRT
 (D ZRU
 ZRV)))
 ZRW)))
def ZRY:PC :=
 (R [2,4] [M 59 9,M 4 59])
def ZGH:PC :=
 (D (D ZRM
 (E 31
 .skip
 (.exit 2)))
 (.block 3
 (D ZRN
 (D (D ZRO
 (E 39
 (D ZRP
 .ret)
 .skip))
 (D ZRQ
 (D (D ZRR
 (.block 4
 (.loop ZRX)))
 ZRY))))))
def ZGI:PC :=
 (R [2,3] [M 60 4,I 61 (C QL [(.s 60)]),N 7 2 61,K 3 0])
def ZK5:PF:=⟨false,
 (D ZU4
 (D (D ZU5
 (E 14
 (D ZU6
 .ret)
 .skip))
 (D ZU7
 (D (D ZU8
 (.block 0
 (.loop ZVD)))
 (D (.block 2
 (.loop ZGH))
 (D ZGI
 .ret)))))),
 [.c 2 true 7,.s 3]⟩
theorem ZcL:Zv Proofs.Try.prog false ZcK Proofs.Try.f23=some ZK5:=by kernel_rfl
def ZcM:List Hint:=[⟨[0,3,4,5],[2],[],[],[],[]⟩,H [4,5,6,7],H [4,5,6,7,18],⟨[4,5,6],[3],[],[],[],[]⟩,H [4,5,7,26],H [4,5,7,8,10],H [4,5,7,8,10,34],⟨[4,5,6],[3],[],[],[],[]⟩,H [4,5,7],H [4,5,6],H [4,5,6]]
def ZVE:PC :=
 (R [0,3,4,5] [I 3 (.box (.s 1)),I 4 (.box (.v ZR)),I 5 (.onil 1),K 6 0])
def ZVF:PC :=
 (R [4,5,6,7] [M 12 0,T 13 7 3,I 14 (C ZAe [(.s 12),(.s 13)]),M 11 14,X 15 11 0,X 16 11 1,M 7 15,M 6 16])
def ZVG:PC :=
 (R [4,5,6,7,18] [M 17 6,W 18 .neq 17 0])
def ZVH:PC :=
 (R [4,5,6] [I 19 (.build [(.int .u64 0),(.int .i64 0),(.int .i64 0),(.int .i64 0),(.int .i64 0)] []),M 20 6,N 5 4 19,I 5 (.onil 1),M 6 20])
def ZVI:PC :=
 (R [4,5,7,26] [M 21 7,I 22 (.nilck (.s 21)),F 23 1 22,L 24 23,I 25 (.len 1 (.s 24)),W 26 .gtr 25 0])
def ZVJ:PC :=
 (R [4,5,7,8,10] [M 28 7,I 29 (C X6 [(.s 28)]),M 27 29,X 30 27 0,X 31 27 1,X 32 27 2,M 8 30,M 9 31,M 10 32])
def ZVK:PC :=
 (R [4,5,7,8,10,34] [M 33 10,W 34 .neq 33 0])
def ZVL:PC :=
 (R [4,5,6] [I 35 (.build [(.int .u64 0),(.int .i64 0),(.int .i64 0),(.int .i64 0),(.int .i64 0)] []),M 36 10,N 5 4 35,I 5 (.onil 1),M 6 36])
def ZVM:PC :=
 (R [4,5,7] [M 37 5,M 38 8,I 39 (.bslice false 1 [(.int .u64 0)] [(0,(.s 38))]),I 40 (.app 1 8 (.s 37) (.s 39)),M 5 40])
def ZVN:PC :=
 (D (D ZVI
 (E 26
 .skip
 (.exit 0)))
 (.block 1
 (D ZVJ
 (D (D ZVK
 (E 34
 (D ZVL
 .ret)
 .skip))
 ZVM))))
def ZRZ:PC :=
 (R [4,5,6] [M 42 7,I 43 (C ZBi [(.s 42)]),M 41 43,X 44 41 0,X 45 41 1,N 5 4 44,M 6 45])
def ZRa:PC :=
 (R [4,5,6] [T 46 5 4,M 47 5,M 48 6,N 5 4 46,M 5 47,M 6 48])
def ZK6:PF:=⟨false,
 (D ZVE
 (D ZVF
 (D (D ZVG
 (E 18
 (D ZVH
 .ret)
 .skip))
 (D (.block 0
 (.loop ZVN))
 (D ZRZ
 (D ZRa
 .ret)))))),
 [.c 4 true 5,.s 5,.s 6]⟩
theorem ZcN:Zv Proofs.Try.prog false ZcM Proofs.Try.f24=some ZK6:=by kernel_rfl
def ZVO:List Hint:=[H [5,6,7,8,9,10],H [10,11]]
def ZOC:PC :=
 (R [5,6,7,8,9,10] [I 5 (.box (.s 0)),I 6 (.box (.s 1)),I 7 (.box (.s 2)),I 8 (.box (.s 3)),I 9 (.box (.s 4)),I 10 (.box (.v (.agg [(.int .u64 0),(.int .i64 0),(.int .i64 0),(.int .i64 0),(.int .i64 0),.nils,.nils]))),K 11 0])
def ZOD:PC :=
 (R [10,11] [L 12 5,I 13 (.mkf (.func Xh) [] [(.s 5),(.s 6),(.s 7),(.s 8),(.s 9)]),T 14 5 6,I 15 (.bslice false 5 [ZR] [(0,(.s 14))]),I 16 (C ZDt [(.s 12),(.s 13),(.s 15)]),X 17 16 0,X 18 16 1,N 7 10 17,M 11 18])
def ZHO:PF:=⟨false,
 (D ZOC
 (D ZOD
 .ret)),
 [.c 10 true 7,.s 11]⟩
theorem ZVP:Zv Proofs.Try.prog false ZVO Proofs.Try.f25=some ZHO:=by kernel_rfl
def Zeq:List Hint:=[H [0,3,4],H [0,3,4,8],H [4,5],H [0,3,4,12],H [4,5],H [0,3,4,16],H [4,5],H [3,4,6],H [3,4,6,27],H [4,5],H [4,5]]
def ZYm:PC :=
 (R [0,3,4] [I 3 (.box (.s 1)),I 4 (.box (.v ZT)),K 5 0])
def ZYn:PC :=
 (R [0,3,4,8] [M 7 0,I 8 (.eqs false 3 [] (.s 7) (.v .nilptr))])
def ZYo:PC :=
 (R [4,5] [I 9 (.build [(.int .u64 0),(.int .i64 0),(.int .i64 0),(.int .i64 0),(.int .i64 0),(.str []),.nils] []),N 7 4 9,K 5 1])
def ZYp:PC :=
 (R [0,3,4,12] [T 10 5 3,I 11 (.build [(.int .u64 0),(.int .i64 0),(.int .i64 0),(.int .i64 0),(.int .i64 0)] []),I 12 (.eqs false 0 [(0,0),(1,0),(2,0),(3,0),(4,0)] (.s 10) (.s 11))])
def ZYq:PC :=
 (R [4,5] [I 13 (.build [(.int .u64 0),(.int .i64 0),(.int .i64 0),(.int .i64 0),(.int .i64 0),(.str []),.nils] []),N 7 4 13,K 5 0])
def ZYr:PC :=
 (R [0,3,4,16] [F 14 0 3,L 15 14,I 16 (.bin .eql (.s 15) (.v (.int .u64 0)))])
def ZYs:PC :=
 (R [4,5] [I 17 (.build [(.int .u64 0),(.int .i64 0),(.int .i64 0),(.int .i64 0),(.int .i64 0),(.str []),.nils] []),N 7 4 17,K 5 2])
def ZYt:PC :=
 (R [3,4,6] [M 18 0,F 19 0 3,L 20 19,F 21 1 3,L 22 21,F 23 2 3,T 24 3 23,I 25 (C ZDc [(.s 18),(.s 20),(.s 22),(.s 24)]),M 6 25])
def ZYu:PC :=
 (R [3,4,6,27] [M 26 6,W 27 .neq 26 0])
def ZYv:PC :=
 (R [4,5] [I 28 (.build [(.int .u64 0),(.int .i64 0),(.int .i64 0),(.int .i64 0),(.int .i64 0),(.str []),.nils] []),M 29 6,N 7 4 28,M 5 29])
def ZVQ:PC :=
 (R [4,5] [F 30 0 3,L 31 30,F 32 1 3,L 33 32,F 34 2 3,T 35 3 34,I 36 (.build [(.int .u64 0),(.int .i64 0),(.int .i64 0),(.int .i64 0),(.int .i64 0),(.str []),.nils] [(0,1,(.s 31)),(1,1,(.s 33)),(2,3,(.s 35))]),N 7 4 36,K 5 0])
def ZQj:PF:=⟨false,
 (D ZYm
 (D (D ZYn
 (E 8
 (D ZYo
 .ret)
 .skip))
 (D (D ZYp
 (E 12
 (D ZYq
 .ret)
 .skip))
 (D (D ZYr
 (E 16
 (D ZYs
 .ret)
 .skip))
 (D (D ZYt
 (D ZYu
 (E 27
 (D ZYv
 .ret)
 .skip)))
 (D ZVQ
 .ret)))))),
 [.c 4 true 7,.s 5]⟩
theorem Zer:Zv Proofs.Try.prog false Zeq Proofs.Try.f26=some ZQj:=by kernel_rfl
def ZRb:List Hint:=[H [0,2,3],H [0,2,3,11],H [2,3,4],H [2,3,12,13,14],H [2,3,12,13,14,15],H [2,3,6,12,13,14],H [2,3,6,12,13,14,20],H [2,3,4],H [2,3,7,8,12,13,14],H [2,3,7,8,12,13,14,35],H [2,3,4],H [2,3,8,12,13,14],H [2,3,12,13,14],H [2,3,12,13,14],H [2,3,4]]
def ZK7:PC :=
 (R [0,2,3] [K 2 0,K 3 0,K 4 0])
def ZK8:PC :=
 (R [0,2,3,11] [M 9 0,I 10 (.len 1 (.s 9)),W 11 .gtr 10 4096])
def ZK9:PC :=
 (R [2,3,4] [K 2 0,K 3 0,K 4 5])
def ZLA:PC :=
 (R [2,3,12,13,14] [M 12 0,I 13 (.len 1 (.s 12)),K 14 0])
def ZLB:PC :=
 (R [2,3,12,13,14,15] [B 15 .lss 14 13])
def ZLC:PC :=
 (R [2,3,6,12,13,14] [I 16 (.ixS 3 (.s 12) (.s 14)),T 17 3 16,I 6 (.box (.v (.agg [(.int .u8 0),(.int .i64 0),(.str [])]))),N 3 6 17])
def ZLD:PC :=
 (R [2,3,6,12,13,14,20] [T 18 3 6,I 19 (C ZDu [(.s 18)]),I 20 (.un .not (.s 19))])
def ZLE:PC :=
 (R [2,3,4] [K 2 0,K 3 0,K 4 2])
def ZLF:PC :=
 (R [2,3,7,8,12,13,14] [T 22 3 6,I 23 (C ZDv [(.s 22)]),M 21 23,X 24 21 0,X 25 21 1,M 7 24,M 8 25])
def ZLG:PC :=
 (R [2,3,7,8,12,13,14,35] [M 26 7,M 27 2,I 28 (.bin .sub (V 1048576) (.s 27)),B 29 .gtr 26 28,M 30 29,U 31 30 false 8,U 32 30 false 3,G 33 30 false (.bin .sub (V 1048576) (.s 32)),G 34 30 false (.bin .gtr (.s 31) (.s 33)),I 35 (.pick (.s 30) (.v (.bool true)) (.s 34))])
def ZJc:PC :=
 (R [2,3,4] [K 2 0,K 3 0,K 4 5])
def ZJd:PC :=
 (R [2,3,8,12,13,14] [M 36 2,M 37 7,B 38 .add 36 37,M 2 38])
def ZJe:PC :=
 (R [2,3,12,13,14] [M 39 3,M 40 8,B 41 .add 39 40,M 3 41])
def ZJf:PC :=
 (R [2,3,12,13,14] [W 42 .add 14 1,M 14 42])
def ZJg:PC :=
 (D ZLB
 (D (E 15
 .skip
 (.exit 0))
 (D (.block 1
 (D ZLC
 (D (D ZLD
 (E 20
 (D ZLE
 .ret)
 .skip))
 (D ZLF
 (D (D ZLG
 (E 35
 (D ZJc
 .ret)
 .skip))
 (D ZJd
 ZJe))))))
 ZJf)))
def ZJh:PC :=
 (R [2,3,4] [M 43 2,M 44 3,M 2 43,M 3 44,K 4 0])
def ZGJ:PF:=⟨false,
 (D ZK7
 (D (D ZK8
 (E 11
 (D ZK9
 .ret)
 .skip))
 (D (D ZLA
 (.block 0
 (.loop ZJg)))
 (D ZJh
 .ret)))),
 [.s 2,.s 3,.s 4]⟩
theorem ZRc:Zv Proofs.Try.prog false ZRb Proofs.Try.f27=some ZGJ:=by kernel_rfl
def ZJi:List Hint:=[H [0,3],H [0,3,5],H [0,3,5,10],H [0,3,5,6],H [0,3,5,6],H [0,5,6,41],H [4],H [6],H [4]]
def ZHP:PC :=
 (R [0,3] [I 3 (.box (.s 1)),K 4 0])
def ZHQ:PC :=
 (R [0,3,5] [I 7 (.build [(.int .u64 0),(.int .i64 0),(.int .i64 0),(.int .i64 0),(.int .i64 0),(.str []),.nils] []),I 5 (.box (.v ZT)),N 7 5 7,K 6 0])
def ZHR:PC :=
 (R [0,3,5,10] [F 8 0 3,L 9 8,I 10 (.bin .eql (.s 9) (.v (.int .u8 2)))])
def ZHS:PC :=
 (R [0,3,5,6] [F 12 2 3,L 13 12,I 14 (C ZAa [(.s 13)]),M 11 14,X 15 11 0,X 16 11 1,N 7 5 15,M 6 16])
def ZHT:PC :=
 (R [0,3,5,6] [M 18 0,M 19 0,I 20 (.nilck (.s 19)),F 21 0 20,L 22 21,M 23 0,I 24 (.nilck (.s 23)),F 25 8 24,T 26 7 25,F 27 1 3,L 28 27,I 29 (C ZJT [(.s 22),(.s 26),(.s 28)]),M 17 29,X 30 17 0,X 31 17 1,X 32 17 2,N 7 5 30,I 33 (.nilck (.s 18)),F 34 8 33,N 7 34 31,M 6 32])
def ZHU:PC :=
 (R [0,5,6,41] [M 35 6,W 36 .neq 35 0,M 37 36,G 38 37 false (.fadr 0 (.s 3)),G 39 37 false (.ld false 1 (.s 38)),G 40 37 false (.bin .eql (.s 39) (.v (.int .u8 3))),I 41 (.pick (.s 37) (.v (.bool true)) (.s 40))])
def ZHV:PC :=
 (R [4] [M 42 6,M 4 42])
def ZHW:PC :=
 (R [6] [M 44 0,M 45 0,I 46 (.nilck (.s 45)),F 47 0 46,L 48 47,M 49 0,I 50 (.nilck (.s 49)),F 51 1 50,T 52 7 51,T 53 7 5,I 54 (C ZDw [(.s 48),(.s 52),(.s 53)]),M 43 54,X 55 43 0,X 56 43 1,I 57 (.nilck (.s 44)),F 58 1 57,N 7 58 55,M 6 56])
def ZHX:PC :=
 (R [4] [M 59 6,M 4 59])
def ZC6:PF:=⟨false,
 (D ZHP
 (D ZHQ
 (D (D ZHR
 (E 10
 ZHS
 ZHT))
 (D (D ZHU
 (E 41
 (D ZHV
 .ret)
 .skip))
 (D ZHW
 (D ZHX
 .ret)))))),
 [.s 4]⟩
theorem ZJj:Zv Proofs.Try.prog false ZJi Proofs.Try.f28=some ZC6:=by kernel_rfl
def ZVR:List Hint:=[H [0,4,5],H [0,4,5,9],H [0,4,5,9,24],H [6,7],H [0,4,5,10],H [0,4,5,10,30],H [6,7],H [0,4,5,11],H [0,4,11,34,35,36],H [0,4,11,34,35,36,37],H [0,4,11,13,34,35,36],H [0,4,11,14,34,35,36],H [0,4,11,14,34,35,36,45],H [6,7],H [0,4,11,34,35,36],⟨[0,4,11,15],[0],[],[],[],[]⟩,H [0,4,11,15,50],H [6,7],H [15,16],H [15,16,58],H [6,7],H [6,7]]
def ZOE:PC :=
 (R [0,4,5] [I 4 (.box (.s 1)),I 5 (.box (.s 2)),I 6 (.mv (.v .nils)),K 7 0])
def ZOF:PC :=
 (R [0,4,5,9] [M 18 0,T 19 5 4,I 20 (C Ya [(.s 18),(.s 19)]),M 17 20,X 21 17 0,X 22 17 1,I 8 (.box (.v ZT)),N 7 8 21,M 9 22])
def ZOG:PC :=
 (R [0,4,5,9,24] [M 23 9,W 24 .neq 23 0])
def ZOH:PC :=
 (R [6,7] [M 25 9,I 6 (.mv (.v .nils)),M 7 25])
def ZOI:PC :=
 (R [0,4,5,10] [M 26 0,T 27 7 5,I 28 (C Jd [(.s 26),(.s 27)]),M 10 28])
def ZOJ:PC :=
 (R [0,4,5,10,30] [M 29 10,W 30 .neq 29 0])
def ZOK:PC :=
 (R [6,7] [M 31 10,I 6 (.mv (.v .nils)),M 7 31])
def ZOL:PC :=
 (R [0,4,5,11] [I 32 (.mkmap),I 11 (.box (.v .nilmap)),N 1 11 32])
def ZOM:PC :=
 (R [0,4,11,34,35,36] [T 33 7 5,I 34 (C ZHC [(.s 33)]),I 35 (.len 1 (.s 34)),K 36 0])
def ZON:PC :=
 (R [0,4,11,34,35,36,37] [B 37 .lss 36 35])
def ZLH:PC :=
 (R [0,4,11,13,34,35,36] [I 38 (.ixS 1 (.s 34) (.s 36)),L 39 38,M 13 39])
def ZLI:PC :=
 (R [0,4,11,14,34,35,36] [M 40 0,M 41 13,L 42 11,I 43 (C JK [(.s 40),(.s 41),(.s 42),(.v (.func (.func YS) [] []))]),M 14 43])
def ZLJ:PC :=
 (R [0,4,11,14,34,35,36,45] [M 44 14,W 45 .neq 44 0])
def ZLK:PC :=
 (R [6,7] [M 46 14,I 6 (.mv (.v .nils)),M 7 46])
def ZLL:PC :=
 (R [0,4,11,34,35,36] [W 47 .add 36 1,M 36 47])
def ZLM:PC :=
 (D ZON
 (D (E 37
 .skip
 (.exit 0))
 (D (.block 1
 (D ZLH
 (D ZLI
 (D ZLJ
 (E 45
 (D ZLK
 .ret)
 .skip)))))
 ZLL)))
def ZLN:PC :=
 (R [0,4,11,15] [I 15 (.boxnil 1)])
def ZLO:PC :=
 (R [0,4,11,15,50] [F 48 0 4,L 49 48,I 50 (.bin .eql (.s 49) (.v (.int .u64 0)))])
def ZLP:PC :=
 (R [6,7] [I 6 (.mv (.v .nils)),K 7 0])
def ZLQ:PC :=
 (R [15,16] [M 51 0,F 52 0 4,L 53 52,I 54 (.mkmap),I 55 (.mkf (.func YT) [] [(.s 11),(.s 15)]),I 56 (C JK [(.s 51),(.s 53),(.s 54),(.s 55)]),M 16 56])
def ZLR:PC :=
 (R [15,16,58] [M 57 16,W 58 .neq 57 0])
def ZLS:PC :=
 (R [6,7] [M 59 16,I 6 (.mv (.v .nils)),M 7 59])
def ZLT:PC :=
 (R [6,7] [L 60 15,M 6 60,K 7 0])
def ZHY:PF:=⟨false,
 (D ZOE
 (D (D ZOF
 (D ZOG
 (E 24
 (D ZOH
 .ret)
 .skip)))
 (D (D ZOI
 (D ZOJ
 (E 30
 (D ZOK
 .ret)
 .skip)))
 (D ZOL
 (D (D ZOM
 (.block 0
 (.loop ZLM)))
 (D ZLN
 (D (D ZLO
 (E 50
 (D ZLP
 .ret)
 .skip))
 (D ZLQ
 (D (D ZLR
 (E 58
 (D ZLS
 .ret)
 .skip))
 (D ZLT
 .ret)))))))))),
 [.s 6,.s 7]⟩
theorem ZVS:Zv Proofs.Try.prog false ZVR Proofs.Try.f29=some ZHY:=by kernel_rfl
def ZEU:List Hint:=[H [0],⟨[0,3],[0],[],[],[],[]⟩,H [0,3,9,10,11],H [0,3,9,10,11,12],H [0,3,5,9,10,11],H [0,3,6,9,10,11],H [0,3,9,10,11],H [0,3,9,10,11],H [2]]
def ZDK:PC :=
 (R [0] [I 2 (.mv (.v .nils))])
def ZDL:PC :=
 (R [0,3] [I 3 (.onil 1)])
def ZDM:PC :=
 (R [0,3,9,10,11] [M 8 0,I 9 (C Jy [(.s 8),(.v (.int .u8 1))]),I 10 (.len 1 (.s 9)),K 11 0])
def ZDN:PC :=
 (R [0,3,9,10,11,12] [B 12 .lss 11 10])
def ZDO:PC :=
 (R [0,3,5,9,10,11] [I 13 (.ixS 1 (.s 9) (.s 11)),L 14 13,M 5 14])
def ZDP:PC :=
 (R [0,3,6,9,10,11] [M 16 5,M 17 0,I 18 (.nilck (.s 17)),F 19 2 18,L 20 19,M 21 5,I 22 (.ixS 1 (.s 20) (.s 21)),L 23 22,I 24 (C ZBK [(.s 16),(.s 23)]),M 15 24,X 25 15 0,X 26 15 1,M 6 25,M 7 26])
def ZDQ:PC :=
 (R [0,3,9,10,11] [M 27 3,M 28 6,I 29 (.bslice false 1 [(.int .u64 0)] [(0,(.s 28))]),I 30 (.app 1 8 (.s 27) (.s 29)),M 3 30])
def ZDR:PC :=
 (R [0,3,9,10,11] [W 31 .add 11 1,M 11 31])
def ZDS:PC :=
 (D ZDN
 (D (E 12
 .skip
 (.exit 0))
 (D (.block 1
 (D ZDO
 (D ZDP
 ZDQ)))
 ZDR)))
def ZDT:PC :=
 (R [2] [M 32 3,M 2 32])
def ZAP:PF:=⟨false,
 (D ZDK
 (D ZDL
 (D (D ZDM
 (.block 0
 (.loop ZDS)))
 (D ZDT
 .ret)))),
 [.s 2]⟩
theorem ZEV:Zv Proofs.Try.prog false ZEU Proofs.Try.f30=some ZAP:=by kernel_rfl
def ZGl:List Hint:=[H [0,1],H [0,1,10],H [4],H [0,1,5],H [0,1,5,14],H [0,1,5,25],H [4],H [0,1,5],H [4]]
def ZEW:PC :=
 (R [0,1] [I 4 (.mv (.v (.bool false)))])
def ZEX:PC :=
 (R [0,1,10] [M 6 0,I 7 (.len 1 (.s 6)),M 8 1,I 9 (.len 1 (.s 8)),B 10 .neq 7 9])
def ZEY:PC :=
 (R [4] [I 4 (.mv (.v (.bool false)))])
def ZEZ:PC :=
 (R [0,1,5] [K 5 0])
def ZEa:PC :=
 (R [0,1,5,14] [M 11 5,M 12 0,I 13 (.len 1 (.s 12)),B 14 .lss 11 13])
def ZEb:PC :=
 (R [0,1,5,25] [M 17 0,M 18 5,I 19 (.ixS 4 (.s 17) (.s 18)),T 20 4 19,M 21 1,M 22 5,I 23 (.ixS 4 (.s 21) (.s 22)),T 24 4 23,I 25 (.eqs true 0 [(0,0),(1,0),(2,0),(3,0)] (.s 20) (.s 24))])
def ZEc:PC :=
 (R [4] [I 4 (.mv (.v (.bool false)))])
def ZEd:PC :=
 (R [0,1,5] [M 15 5,W 16 .add 15 1,M 5 16])
def ZEe:PC :=
 (D (D ZEa
 (E 14
 .skip
 (.exit 0)))
 (D (.block 1
 (D ZEb
 (E 25
 (D ZEc
 .ret)
 .skip)))
 ZEd))
def ZEf:PC :=
 (R [4] [I 4 (.mv (.v (.bool true)))])
def ZAz:PF:=⟨false,
 (D ZEW
 (D (D ZEX
 (E 10
 (D ZEY
 .ret)
 .skip))
 (D (D ZEZ
 (.block 0
 (.loop ZEe)))
 (D ZEf
 .ret)))),
 [.s 4]⟩
theorem ZGm:Zv Proofs.Try.prog false ZGl Proofs.Try.f32=some ZAz:=by kernel_rfl
def ZVT:List Hint:=[H [0,4,5],H [0,4,5,8],H [0,4,5,8,21,22,23],H [0,4,5,8,21,22,23,24],H [0,4,5,8,10,21,22,23],H [0,4,5,8,11,21,22,23],H [0,4,5,8,11,21,22,23,31],H [6,7],H [0,4,5,8,21,22,23],H [0,8,36,37,38],H [0,8,36,37,38,39],H [0,8,13,36,37,38],H [0,8,14,15,36,37,38],H [0,8,14,15,36,37,38,49],H [6,7],H [0,8,36,37,38,51,52,53],H [0,8,36,37,38,51,52,53,54],H [0,8,17,36,37,38,51,52,53],H [0,8,36,37,38,51,52,53],H [0,8,36,37,38,51,52,53],H [0,8,36,37,38],H [6,7]]
def ZOO:PC :=
 (R [0,4,5] [I 4 (.box (.s 1)),I 5 (.box (.s 2)),I 6 (.mv (.v .nilmap)),K 7 0])
def ZOP:PC :=
 (R [0,4,5,8] [I 18 (.mkmap),M 8 18])
def ZOQ:PC :=
 (R [0,4,5,8,21,22,23] [T 19 5 4,T 20 5 5,I 21 (.bslice false 5 [ZR,ZR] [(0,(.s 19)),(1,(.s 20))]),I 22 (.len 1 (.s 21)),K 23 0])
def ZOR:PC :=
 (R [0,4,5,8,21,22,23,24] [B 24 .lss 23 22])
def ZOS:PC :=
 (R [0,4,5,8,10,21,22,23] [I 25 (.ixS 5 (.s 21) (.s 23)),T 26 5 25,I 10 (.box (.v ZR)),N 5 10 26])
def ZOT:PC :=
 (R [0,4,5,8,11,21,22,23] [M 27 0,T 28 5 10,I 29 (C ZAf [(.s 27),(.s 28)]),M 11 29])
def ZOU:PC :=
 (R [0,4,5,8,11,21,22,23,31] [M 30 11,W 31 .neq 30 0])
def ZOV:PC :=
 (R [6,7] [M 32 11,I 6 (.mv (.v .nilmap)),M 7 32])
def ZOW:PC :=
 (R [0,4,5,8,21,22,23] [W 33 .add 23 1,M 23 33])
def ZOX:PC :=
 (D ZOR
 (D (E 24
 .skip
 (.exit 0))
 (D (.block 1
 (D ZOS
 (D ZOT
 (D ZOU
 (E 31
 (D ZOV
 .ret)
 .skip)))))
 ZOW)))
def ZLU:PC :=
 (R [0,8,36,37,38] [T 34 5 4,T 35 5 5,I 36 (.bslice false 5 [ZR,ZR] [(0,(.s 34)),(1,(.s 35))]),I 37 (.len 1 (.s 36)),K 38 0])
def ZLV:PC :=
 (R [0,8,36,37,38,39] [B 39 .lss 38 37])
def ZLW:PC :=
 (R [0,8,13,36,37,38] [I 40 (.ixS 5 (.s 36) (.s 38)),T 41 5 40,I 13 (.box (.v ZR)),N 5 13 41])
def ZLX:PC :=
 (R [0,8,14,15,36,37,38] [M 43 0,T 44 5 13,I 45 (C ZFT [(.s 43),(.s 44)]),M 42 45,X 46 42 0,X 47 42 1,M 14 46,M 15 47])
def ZLY:PC :=
 (R [0,8,14,15,36,37,38,49] [M 48 15,W 49 .neq 48 0])
def ZLZ:PC :=
 (R [6,7] [M 50 15,I 6 (.mv (.v .nilmap)),M 7 50])
def ZLa:PC :=
 (R [0,8,36,37,38,51,52,53] [M 51 14,I 52 (.len 1 (.s 51)),K 53 0])
def ZLb:PC :=
 (R [0,8,36,37,38,51,52,53,54] [B 54 .lss 53 52])
def ZLc:PC :=
 (R [0,8,17,36,37,38,51,52,53] [I 55 (.ixS 1 (.s 51) (.s 53)),L 56 55,M 17 56])
def ZLd:PC :=
 (R [0,8,36,37,38,51,52,53] [M 57 8,M 58 17,I 59 (.look 0 (.int .i64 0) false (.s 57) (.s 58)),W 60 .add 59 1,J (.mupd 0 (.s 57) (.s 58) (.s 60))])
def ZLe:PC :=
 (R [0,8,36,37,38,51,52,53] [W 61 .add 53 1,M 53 61])
def ZLf:PC :=
 (D ZLb
 (D (E 54
 .skip
 (.exit 4))
 (D (.block 5
 (D ZLc
 ZLd))
 ZLe)))
def ZLg:PC :=
 (R [0,8,36,37,38] [W 62 .add 38 1,M 38 62])
def ZLh:PC :=
 (D ZLV
 (D (E 39
 .skip
 (.exit 2))
 (D (.block 3
 (D ZLW
 (D ZLX
 (D (D ZLY
 (E 49
 (D ZLZ
 .ret)
 .skip))
 (D ZLa
 (.block 4
 (.loop ZLf)))))))
 ZLg)))
def ZLi:PC :=
 (R [6,7] [M 63 8,M 6 63,K 7 0])
def ZHZ:PF:=⟨true,
 (D ZOO
 (D ZOP
 (D (D ZOQ
 (.block 0
 (.loop ZOX)))
 (D (D ZLU
 (.block 2
 (.loop ZLh)))
 (D ZLi
 .ret))))),
 [.s 6,.s 7]⟩
theorem ZVU:Zv Proofs.Try.prog true ZVT Proofs.Try.f33=some ZHZ:=by kernel_rfl
def ZVV:List Hint:=[H [0],⟨[0,3],[0],[],[],[],[]⟩,H [0,3,8,9,10],H [0,3,8,9,10,11],H [0,3,5,8,9,10],H [0,3,5,8,9,10],H [0,3,8,9,10],H [0,3,8,9,10],H [2]]
def ZOY:PC :=
 (R [0] [I 2 (.mv (.v .nils))])
def ZOZ:PC :=
 (R [0,3] [I 3 (.onil 1)])
def ZOa:PC :=
 (R [0,3,8,9,10] [M 6 0,I 7 (.len 0 (.s 6)),I 8 (C ZBL [(.s 7),(V 16)]),I 9 (.len 1 (.s 8)),K 10 0])
def ZOb:PC :=
 (R [0,3,8,9,10,11] [B 11 .lss 10 9])
def ZOc:PC :=
 (R [0,3,5,8,9,10] [I 12 (.ixS 1 (.s 8) (.s 10)),L 13 12,M 5 13])
def ZOd:PC :=
 (R [0,3,5,8,9,10] [M 14 3,M 15 0,M 16 5,I 17 (.slcS (.s 15) none (some (.s 16))),I 18 (.bslice false 1 [(.str [])] [(0,(.s 17))]),I 19 (.app 1 16 (.s 14) (.s 18)),M 3 19])
def ZOe:PC :=
 (R [0,3,8,9,10] [M 20 0,M 21 5,I 22 (.slcS (.s 20) (some (.s 21)) none),M 0 22])
def ZOf:PC :=
 (R [0,3,8,9,10] [W 23 .add 10 1,M 10 23])
def ZOg:PC :=
 (D ZOb
 (D (E 11
 .skip
 (.exit 0))
 (D (.block 1
 (D ZOc
 (D ZOd
 ZOe)))
 ZOf)))
def ZOh:PC :=
 (R [2] [M 24 3,M 2 24])
def ZHa:PF:=⟨false,
 (D ZOY
 (D ZOZ
 (D (D ZOa
 (.block 0
 (.loop ZOg)))
 (D ZOh
 .ret)))),
 [.s 2]⟩
theorem ZVW:Zv Proofs.Try.prog false ZVV Proofs.Try.f34=some ZHa:=by kernel_rfl
def ZcO:List Hint:=[H [0,1],H [0,1,11],H [4,5],H [0,1,13],H [4,5],H [4,5]]
def ZVX:PC :=
 (R [0,1] [I 4 (.mv (.v .nils)),K 5 0])
def ZVY:PC :=
 (R [0,1,11] [M 6 0,W 7 .lss 6 0,M 8 7,U 9 8 false 1,G 10 8 false (.bin .lss (.s 9) (V 1)),I 11 (.pick (.s 8) (.v (.bool true)) (.s 10))])
def ZVZ:PC :=
 (R [4,5] [I 4 (.mv (.v .nils)),K 5 2])
def ZVa:PC :=
 (R [0,1,13] [M 12 0,W 13 .gtr 12 65536])
def ZVb:PC :=
 (R [4,5] [I 4 (.mv (.v .nils)),K 5 5])
def ZVc:PC :=
 (R [4,5] [M 14 0,M 15 1,I 16 (C ZBL [(.s 14),(.s 15)]),M 4 16,K 5 0])
def ZLj:PF:=⟨false,
 (D ZVX
 (D (D ZVY
 (E 11
 (D ZVZ
 .ret)
 .skip))
 (D (D ZVa
 (E 13
 (D ZVb
 .ret)
 .skip))
 (D ZVc
 .ret)))),
 [.s 4,.s 5]⟩
theorem ZcP:Zv Proofs.Try.prog false ZcO Proofs.Try.f35=some ZLj:=by kernel_rfl
def ZcQ:List Hint:=[H [0,2],H [0,2,3],H [2],H [0,2,8],H [2],⟨[2],[],[],[],[(7,.app0),(5,.imm)],[]⟩]
def ZVd:PC :=
 (R [0,2] [I 2 (.box (.v ZT))])
def ZVe:PC :=
 (R [0,2,3] [M 4 0,I 5 (.len 1 (.s 4)),W 6 .eql 5 0,M 3 6])
def ZVf:PC :=
 (R [2] [I 7 (.build [(.int .u64 0),(.int .i64 0),(.int .i64 0),(.int .i64 0),(.int .i64 0),(.str []),.nils] []),N 7 2 7])
def ZVg:PC :=
 (R [0,2,8] [M 9 0,I 10 (.len 1 (.s 9)),W 11 .eql 10 1,M 8 11])
def ZVh:PC :=
 (R [2] [M 12 0,I 13 (.ixS 7 (.s 12) (V 0)),T 14 7 13,N 7 2 14])
def ZVi:PC :=
 (R [2] [M 15 0,I 16 (.ixS 7 (.s 15) (V 0)),F 17 1 16,L 18 17,W 19 .add 18 1,I 20 (.w .imm (.bslice false 7 [] [])),M 21 0,I 22 (.w .app0 (.app 7 80 (.s 20) (.s 21))),I 23 (.build [(.int .u64 0),(.int .i64 0),(.int .i64 0),(.int .i64 0),(.int .i64 0),(.str []),.nils] [(1,1,(.s 19)),(6,1,(.s 22))]),N 7 2 23])
def ZLk:PF:=⟨false,
 (D ZVd
 (D (.block 0
 (D ZVe
 (E 3
 (D ZVf
 .ret)
 (D ZVg
 (E 8
 (D ZVh
 .ret)
 .skip)))))
 (D ZVi
 .ret))),
 [.c 2 true 7]⟩
theorem ZcR:Zv Proofs.Try.prog false ZcQ Proofs.Try.f36=some ZLk:=by kernel_rfl
def ZcS:List Hint:=[H [0,3],H [0,3,6],H [0,3,6,12],H [4,5],H [0,3,19],H [4,5],H [3,7],H [7],H [4,5]]
def ZVj:PC :=
 (R [0,3] [I 3 (.box (.s 1)),I 4 (.mv (.v .nilptr)),K 5 0])
def ZVk:PC :=
 (R [0,3,6] [M 8 0,T 9 7 3,I 10 (C Jd [(.s 8),(.s 9)]),M 6 10])
def ZVl:PC :=
 (R [0,3,6,12] [M 11 6,W 12 .neq 11 0])
def ZVm:PC :=
 (R [4,5] [M 13 6,I 4 (.mv (.v .nilptr)),M 5 13])
def ZVn:PC :=
 (R [0,3,19] [T 14 7 3,I 15 (C ZBF [(.s 14)]),M 16 0,I 17 (C Xo [(.s 16)]),I 18 (.fld false 1 1 (.s 17)),B 19 .gtr 15 18])
def ZVo:PC :=
 (R [4,5] [I 4 (.mv (.v .nilptr)),K 5 6])
def ZVp:PC :=
 (R [3,7] [M 20 0,I 21 (.build [.nilptr,.nils,.nilptr] [(0,1,(.s 20))]),I 22 (.box (.s 21)),M 7 22])
def ZVq:PC :=
 (R [7] [M 23 7,M 24 7,T 25 7 3,I 26 (C Qr [(.s 24),(.s 25)]),I 27 (.nilck (.s 23)),F 28 2 27,N 1 28 26])
def ZVr:PC :=
 (R [4,5] [M 29 7,M 4 29,K 5 0])
def ZLl:PF:=⟨true,
 (D ZVj
 (D (D ZVk
 (D ZVl
 (E 12
 (D ZVm
 .ret)
 .skip)))
 (D (D ZVn
 (E 19
 (D ZVo
 .ret)
 .skip))
 (D ZVp
 (D ZVq
 (D ZVr
 .ret)))))),
 [.s 4,.s 5]⟩
theorem ZcT:Zv Proofs.Try.prog true ZcS Proofs.Try.f37=some ZLl:=by kernel_rfl
def ZRd:List Hint:=[H [0],H [0,6],H [2,3,4],H [0,12],H [2,3,4],H [0,2,4],H [0,2,4,24],H [2,3,4],H [0,2],H [2,3,4]]
def ZLm:PC :=
 (R [0] [I 2 (.mv (.v (.int .u64 0))),I 3 (.mv (.v (.bool false))),K 4 0])
def ZLn:PC :=
 (R [0,6] [M 5 0,I 6 (.eqs false 3 [] (.s 5) (.v .nilptr))])
def ZLo:PC :=
 (R [2,3,4] [I 2 (.mv (.v (.int .u64 0))),I 3 (.mv (.v (.bool false))),K 4 1])
def ZLp:PC :=
 (R [0,12] [M 7 0,I 8 (.nilck (.s 7)),F 9 1 8,L 10 9,I 11 (.len 1 (.s 10)),W 12 .eql 11 0])
def ZLq:PC :=
 (R [2,3,4] [I 2 (.mv (.v (.int .u64 0))),I 3 (.mv (.v (.bool true))),K 4 0])
def ZLr:PC :=
 (R [0,2,4] [M 14 0,I 15 (.nilck (.s 14)),F 16 1 15,L 17 16,I 18 (.ixS 1 (.s 17) (V 0)),L 19 18,I 20 (.call .norm (.s 19) []),M 13 20,X 21 13 0,X 22 13 1,M 2 21,M 4 22])
def ZLs:PC :=
 (R [0,2,4,24] [M 23 4,W 24 .neq 23 0])
def ZLt:PC :=
 (R [2,3,4] [M 25 4,I 2 (.mv (.v (.int .u64 0))),I 3 (.mv (.v (.bool false))),M 4 25])
def ZLu:PC :=
 (R [0,2] [M 26 0,M 27 0,I 28 (.nilck (.s 27)),F 29 1 28,L 30 29,I 31 (.slc 1 (.s 30) (some (V 1)) none),I 32 (.nilck (.s 26)),F 33 1 32,N 1 33 31])
def ZLv:PC :=
 (R [2,3,4] [M 34 2,M 35 0,I 36 (.nilck (.s 35)),F 37 1 36,L 38 37,I 39 (.len 1 (.s 38)),W 40 .eql 39 0,M 2 34,M 3 40,K 4 0])
def ZGK:PF:=⟨false,
 (D ZLm
 (D (D ZLn
 (E 6
 (D ZLo
 .ret)
 .skip))
 (D (D ZLp
 (E 12
 (D ZLq
 .ret)
 .skip))
 (D ZLr
 (D (D ZLs
 (E 24
 (D ZLt
 .ret)
 .skip))
 (D ZLu
 (D ZLv
 .ret))))))),
 [.s 2,.s 3,.s 4]⟩
theorem ZRe:Zv Proofs.Try.prog false ZRd Proofs.Try.f38=some ZGK:=by kernel_rfl
def ZRf:List Hint:=[H [0,2],H [0,2,5],H [2,3],H [0,2,12],H [2,3],H [2,3]]
def ZLw:PC :=
 (R [0,2] [I 2 (.box (.v ZR)),K 3 0])
def ZLx:PC :=
 (R [0,2,5] [M 4 0,I 5 (.eqs false 3 [] (.s 4) (.v .nilptr))])
def ZLy:PC :=
 (R [2,3] [I 6 (.build [(.int .u64 0),(.int .i64 0),(.int .i64 0),(.int .i64 0),(.int .i64 0)] []),N 5 2 6,K 3 1])
def ZLz:PC :=
 (R [0,2,12] [M 7 0,I 8 (.nilck (.s 7)),F 9 1 8,L 10 9,I 11 (.len 1 (.s 10)),W 12 .gtr 11 0])
def ZL0:PC :=
 (R [2,3] [I 13 (.build [(.int .u64 0),(.int .i64 0),(.int .i64 0),(.int .i64 0),(.int .i64 0)] []),N 5 2 13,K 3 8])
def ZL1:PC :=
 (R [2,3] [M 14 0,I 15 (.nilck (.s 14)),F 16 2 15,L 17 16,I 18 (.nilck (.s 17)),T 19 5 18,N 5 2 19,K 3 0])
def ZGL:PF:=⟨false,
 (D ZLw
 (D (D ZLx
 (E 5
 (D ZLy
 .ret)
 .skip))
 (D (D ZLz
 (E 12
 (D ZL0
 .ret)
 .skip))
 (D ZL1
 .ret)))),
 [.c 2 true 5,.s 3]⟩
theorem ZRg:Zv Proofs.Try.prog false ZRf Proofs.Try.f39=some ZGL:=by kernel_rfl
def ZYw:List Hint:=[H [0,1,2,6],H [0,2,6,8,9],H [0,2,6,8,9,24],H [6,7],H [0,2,6,8,10],H [0,2,6,8,10,11],H [0,6,8,10,11,29,30,31],H [0,6,8,10,11,29,30,31,32],H [0,6,8,10,11,13,29,30,31],H [0,6,8,10,11,14,15,29,30,31],H [0,6,8,10,11,14,15,29,30,31,43],H [6,7],H [0,6,8,10,11,29,30,31,46,47,48],H [0,6,8,10,11,29,30,31,46,47,48,49],H [0,6,8,10,11,17,29,30,31,46,47,48],H [0,6,8,10,11,17,29,30,31,46,47,48,55],H [0,6,8,10,11,17,29,30,31,46,47,48],H [0,6,8,10,11,29,30,31,46,47,48],H [0,6,8,10,11,29,30,31,46,47,48],H [0,6,8,10,11,29,30,31],H [6,9,10],H [6,9,10,76],H [6,7],H [6,7]]
def ZRh:PC :=
 (R [0,1,2,6] [I 6 (.box (.v (.agg [(.int .u64 0),(.int .i64 0),(.int .i64 0),(.int .i64 0),(.int .i64 0),.nils,.nils]))),K 7 0])
def ZRi:PC :=
 (R [0,2,6,8,9] [M 19 1,I 20 (.call .norm (.s 19) []),M 18 20,X 21 18 0,X 22 18 1,I 8 (.box (.v ZT)),N 7 8 21,M 9 22])
def ZRj:PC :=
 (R [0,2,6,8,9,24] [M 23 9,W 24 .neq 23 0])
def ZRk:PC :=
 (R [6,7] [I 25 (.build [(.int .u64 0),(.int .i64 0),(.int .i64 0),(.int .i64 0),(.int .i64 0),.nils,.nils] []),M 26 9,N 7 6 25,M 7 26])
def ZRl:PC :=
 (R [0,2,6,8,10] [I 27 (.build [(.int .u64 0),(.int .i64 0),(.int .i64 0),(.int .i64 0),(.int .i64 0),.nils,.nils] []),I 10 (.box (.v (.agg [(.int .u64 0),(.int .i64 0),(.int .i64 0),(.int .i64 0),(.int .i64 0),.nils,.nils]))),N 7 10 27])
def ZRm:PC :=
 (R [0,2,6,8,10,11] [I 28 (.mkmap),M 11 28])
def ZRn:PC :=
 (R [0,6,8,10,11,29,30,31] [M 29 2,I 30 (.len 1 (.s 29)),K 31 0])
def ZRo:PC :=
 (R [0,6,8,10,11,29,30,31,32] [B 32 .lss 31 30])
def ZRp:PC :=
 (R [0,6,8,10,11,13,29,30,31] [I 33 (.ixS 5 (.s 29) (.s 31)),T 34 5 33,I 13 (.box (.v ZR)),N 5 13 34])
def ZRq:PC :=
 (R [0,6,8,10,11,14,15,29,30,31] [M 36 0,T 37 5 13,T 38 7 8,I 39 (C ZAd [(.s 36),(.s 37),(.s 38)]),M 35 39,X 40 35 0,X 41 35 1,M 14 40,M 15 41])
def ZOi:PC :=
 (R [0,6,8,10,11,14,15,29,30,31,43] [M 42 15,W 43 .neq 42 0])
def ZOj:PC :=
 (R [6,7] [I 44 (.build [(.int .u64 0),(.int .i64 0),(.int .i64 0),(.int .i64 0),(.int .i64 0),.nils,.nils] []),M 45 15,N 7 6 44,M 7 45])
def ZOk:PC :=
 (R [0,6,8,10,11,29,30,31,46,47,48] [M 46 14,I 47 (.len 1 (.s 46)),K 48 0])
def ZOl:PC :=
 (R [0,6,8,10,11,29,30,31,46,47,48,49] [B 49 .lss 48 47])
def ZOm:PC :=
 (R [0,6,8,10,11,17,29,30,31,46,47,48] [I 50 (.ixS 1 (.s 46) (.s 48)),L 51 50,M 17 51])
def ZOn:PC :=
 (R [0,6,8,10,11,17,29,30,31,46,47,48,55] [M 52 11,M 53 17,I 54 (.look 0 (.bool false) false (.s 52) (.s 53)),I 55 (.un .not (.s 54))])
def ZOo:PC :=
 (R [0,6,8,10,11,17,29,30,31,46,47,48] [M 56 11,M 57 17,J (.mupd 0 (.s 56) (.s 57) (.v (.bool true)))])
def ZOp:PC :=
 (R [0,6,8,10,11,29,30,31,46,47,48] [F 58 6 10,L 59 58,M 60 17,I 61 (.bslice false 1 [(.int .u64 0)] [(0,(.s 60))]),I 62 (.app 1 8 (.s 59) (.s 61)),F 63 6 10,N 1 63 62])
def ZOq:PC :=
 (R [0,6,8,10,11,29,30,31,46,47,48] [W 64 .add 48 1,M 48 64])
def p_edit_change_19:PC :=
 (D ZOl
 (D (E 49
 .skip
 (.exit 2))
 (D (.block 3
 (D ZOm
 (D ZOn
 (E 55
 (D ZOo
 ZOp)
 .skip))))
 ZOq)))
def ZOr:PC :=
 (R [0,6,8,10,11,29,30,31] [W 65 .add 31 1,M 31 65])
def p_edit_change_21:PC :=
 (D ZRo
 (D (E 32
 .skip
 (.exit 0))
 (D (.block 1
 (D ZRp
 (D ZRq
 (D (D ZOi
 (E 43
 (D ZOj
 .ret)
 .skip))
 (D ZOk
 (.block 2
 (.loop p_edit_change_19)))))))
 ZOr)))
def ZOs:PC :=
 (R [6,9,10] [M 67 0,T 68 7 8,I 69 (C ZAb [(.s 67),(.s 68)]),M 66 69,X 70 66 0,X 71 66 1,X 72 66 2,F 73 0 10,N 5 73 70,F 74 5 10,N 1 74 71,M 9 72])
def ZOt:PC :=
 (R [6,9,10,76] [M 75 9,W 76 .neq 75 0])
def ZOu:PC :=
 (R [6,7] [I 77 (.build [(.int .u64 0),(.int .i64 0),(.int .i64 0),(.int .i64 0),(.int .i64 0),.nils,.nils] []),M 78 9,N 7 6 77,M 7 78])
def ZOv:PC :=
 (R [6,7] [T 79 7 10,N 7 6 79,K 7 0])
def ZIy:PF:=⟨false,
 (D ZRh
 (D ZRi
 (D (D ZRj
 (E 24
 (D ZRk
 .ret)
 .skip))
 (D ZRl
 (D ZRm
 (D (D ZRn
 (.block 0
 (.loop p_edit_change_21)))
 (D (D ZOs
 (D ZOt
 (E 76
 (D ZOu
 .ret)
 .skip)))
 (D ZOv
 .ret)))))))),
 [.c 6 true 7,.s 7]⟩
theorem ZYx:Zv Proofs.Try.prog false ZYw Proofs.Try.f40=some ZIy:=by kernel_rfl
def ZOw:List Hint:=[H [0,1,2,3,4,5],H [5,6]]
def ZJk:PC :=
 (R [0,1,2,3,4,5] [I 5 (.box (.v ZT)),K 6 0])
def ZJl:PC :=
 (R [5,6] [L 7 0,T 8 5 1,L 9 2,L 10 3,L 11 4,I 12 (C ZHB [(.s 7),(.s 8),(.s 9),(.s 10),(.s 11)]),X 13 12 0,X 14 12 1,N 7 5 13,M 6 14])
def ZEg:PF:=⟨false,
 (D ZJk
 (D ZJl
 .ret)),
 [.c 5 true 7,.s 6]⟩
theorem ZOx:Zv Proofs.Try.prog false ZOw Proofs.Try.f41=some ZEg:=by kernel_rfl
def Zes:List Hint:=[H [0,2,3,4,6,10],H [0,2,3,4,10,12,13],H [0,2,3,4,10,12,13,21],H [10,11],H [10,11]]
def ZYy:PC :=
 (R [0,2,3,4,6,10] [I 6 (.box (.s 1)),I 10 (.box (.v ZT)),K 11 0])
def ZYz:PC :=
 (R [0,2,3,4,10,12,13] [M 15 0,T 16 5 6,I 17 (C Ya [(.s 15),(.s 16)]),M 14 17,X 18 14 0,X 19 14 1,I 12 (.box (.v ZT)),N 7 12 18,M 13 19])
def ZY0:PC :=
 (R [0,2,3,4,10,12,13,21] [M 20 13,W 21 .neq 20 0])
def ZY1:PC :=
 (R [10,11] [I 22 (.build [(.int .u64 0),(.int .i64 0),(.int .i64 0),(.int .i64 0),(.int .i64 0),(.str []),.nils] []),M 23 13,N 7 10 22,M 11 23])
def ZY2:PC :=
 (R [10,11] [M 24 0,T 25 7 12,M 26 2,M 27 3,M 28 4,I 29 (C ZCh [(.s 24),(.s 25),(.s 26),(.s 27),(.s 28)]),X 30 29 0,X 31 29 1,N 7 10 30,M 11 31])
def ZQk:PF:=⟨false,
 (D ZYy
 (D ZYz
 (D (D ZY0
 (E 21
 (D ZY1
 .ret)
 .skip))
 (D ZY2
 .ret)))),
 [.c 10 true 7,.s 11]⟩
theorem Zet:Zv Proofs.Try.prog false Zes Proofs.Try.f42=some ZQk:=by kernel_rfl
def Zeu:List Hint:=[H [0,1,2,7],H [2,7,9,10],H [2,7,9,10,19],H [8],H [2,7,9,10,11],H [38],H [8],H [8]]
def ZY3:PC :=
 (R [0,1,2,7] [I 7 (.box (.s 3)),K 8 0])
def ZY4:PC :=
 (R [2,7,9,10] [M 13 0,M 14 1,I 15 (C QN [(.s 13),(.s 14)]),M 12 15,X 16 12 0,X 17 12 1,I 9 (.box (.v ZN)),N 3 9 16,M 10 17])
def ZY5:PC :=
 (R [2,7,9,10,19] [M 18 10,W 19 .neq 18 0])
def ZY6:PC :=
 (R [8] [M 20 10,M 8 20])
def ZY7:PC :=
 (R [2,7,9,10,11] [T 22 3 9,I 23 (C XS [(.s 22)]),M 21 23,X 24 21 0,X 25 21 1,I 11 (.box (.v ZM)),N 3 11 24,M 10 25])
def ZY8:PC :=
 (R [38] [M 26 10,W 27 .neq 26 0,M 28 27,G 29 28 false (.fadr 0 (.s 9)),G 30 28 false (.ld false 1 (.s 29)),U 31 28 false 2,G 32 28 false (.bin .neq (.s 30) (.s 31)),I 33 (.pick (.s 28) (.v (.bool true)) (.s 32)),M 34 33,G 35 34 false (.ld true 3 (.s 11)),G 36 34 false (.ld true 3 (.s 7)),G 37 34 false (.eqs true 0 [(0,0),(1,0),(2,0)] (.s 35) (.s 36)),I 38 (.pick (.s 34) (.v (.bool true)) (.s 37))])
def ZY9:PC :=
 (R [8] [K 8 23])
def ZZA:PC :=
 (R [8] [K 8 0])
def ZQl:PF:=⟨false,
 (D ZY3
 (D ZY4
 (D (D ZY5
 (E 19
 (D ZY6
 .ret)
 .skip))
 (D ZY7
 (D (D ZY8
 (E 38
 (D ZY9
 .ret)
 .skip))
 (D ZZA
 .ret)))))),
 [.s 8]⟩
theorem Zev:Zv Proofs.Try.prog false Zeu Proofs.Try.f43=some ZQl:=by kernel_rfl
def ZZB:List Hint:=[H [1],H [1,4],H [1,4,5],H [1,4,5],H [2],H [1,16],H [2],H [2]]
def ZRr:PC :=
 (R [1] [I 1 (.box (.s 0)),I 2 (.mv (.v (.bool false)))])
def ZRs:PC :=
 (R [1,4] [F 3 0 1,L 4 3])
def ZRt:PC :=
 (R [1,4,5] [I 6 (.bin .eql (.s 4) (.v (.int .u8 1))),M 5 6])
def ZRu:PC :=
 (R [1,4,5] [I 7 (.bin .eql (.s 4) (.v (.int .u8 3))),M 5 7])
def ZRv:PC :=
 (R [2] [F 8 1 1,L 9 8,W 10 .geq 9 1,M 11 10,G 12 11 true (.fadr 2 (.s 1)),G 13 11 true (.ld false 1 (.s 12)),G 14 11 true (.bin .eql (.s 13) (.v (.str []))),I 15 (.pick (.s 11) (.s 14) (.v (.bool false))),M 2 15])
def ZRw:PC :=
 (R [1,16] [I 17 (.bin .eql (.s 4) (.v (.int .u8 2))),M 16 17])
def ZRx:PC :=
 (R [2] [F 18 1 1,L 19 18,W 20 .eql 19 0,M 21 20,G 22 21 true (.fadr 2 (.s 1)),G 23 21 true (.ld false 1 (.s 22)),G 24 21 true (.bin .neq (.s 23) (.v (.str []))),I 25 (.pick (.s 21) (.s 24) (.v (.bool false))),M 2 25])
def ZRy:PC :=
 (R [2] [I 2 (.mv (.v (.bool false)))])
def ZIz:PF:=⟨false,
 (D ZRr
 (D (D ZRs
 (.block 0
 (D (D ZRt
 (E 5
 .skip
 ZRu))
 (E 5
 (D ZRv
 .ret)
 (D ZRw
 (E 16
 (D ZRx
 .ret)
 .skip))))))
 (D ZRy
 .ret))),
 [.s 2]⟩
theorem ZZC:Zv Proofs.Try.prog false ZZB Proofs.Try.f44=some ZIz:=by kernel_rfl
def ZZD:List Hint:=[H [1],H [1,5],H [1,5,6],H [2,3],H [1,12],H [2,3],H [2,3]]
def ZRz:PC :=
 (R [1] [I 1 (.box (.s 0)),K 2 0,K 3 0])
def ZR0:PC :=
 (R [1,5] [F 4 0 1,L 5 4])
def ZR1:PC :=
 (R [1,5,6] [I 7 (.bin .eql (.s 5) (.v (.int .u8 1))),M 6 7])
def ZR2:PC :=
 (R [2,3] [F 8 1 1,L 9 8,F 10 1 1,L 11 10,M 2 9,M 3 11])
def ZR3:PC :=
 (R [1,12] [I 13 (.bin .eql (.s 5) (.v (.int .u8 3))),M 12 13])
def ZR4:PC :=
 (R [2,3] [F 14 1 1,L 15 14,M 2 15,K 3 0])
def ZR5:PC :=
 (R [2,3] [F 16 2 1,L 17 16,I 18 (.len 0 (.s 17)),K 2 0,M 3 18])
def ZI0:PF:=⟨false,
 (D ZRz
 (D (D ZR0
 (.block 0
 (D ZR1
 (E 6
 (D ZR2
 .ret)
 (D ZR3
 (E 12
 (D ZR4
 .ret)
 .skip))))))
 (D ZR5
 .ret))),
 [.s 2,.s 3]⟩
theorem ZZE:Zv Proofs.Try.prog false ZZD Proofs.Try.f45=some ZI0:=by kernel_rfl
def Zgh:List Hint:=[H [0,2,4,6,7],H [0,2,4,6,7,9],H [0,2,4,6,7,9,16],H [6,7,8],H [0,2,4,6,7,27],H [6,7,8],H [6,7,8,10,11],⟨[6,7,8],[],[(1,.pure)],[],[],[]⟩]
def ZcU:PC :=
 (R [0,2,4,6,7] [I 4 (.box (.s 1)),I 6 (.box (.v ZT)),I 7 (.box (.v ZT)),K 8 0])
def ZcV:PC :=
 (R [0,2,4,6,7,9] [M 12 0,T 13 7 4,I 14 (C Jd [(.s 12),(.s 13)]),M 9 14])
def ZcW:PC :=
 (R [0,2,4,6,7,9,16] [M 15 9,W 16 .neq 15 0])
def ZcX:PC :=
 (R [6,7,8] [I 17 (.build [(.int .u64 0),(.int .i64 0),(.int .i64 0),(.int .i64 0),(.int .i64 0),(.str []),.nils] []),I 18 (.build [(.int .u64 0),(.int .i64 0),(.int .i64 0),(.int .i64 0),(.int .i64 0),(.str []),.nils] []),M 19 9,N 7 6 17,N 7 7 18,M 8 19])
def ZcY:PC :=
 (R [0,2,4,6,7,27] [M 20 2,W 21 .lss 20 0,M 22 21,U 23 22 false 2,G 24 22 false (.ld true 7 (.s 4)),G 25 22 false (C QS [(.s 24)]),G 26 22 false (.bin .gtr (.s 23) (.s 25)),I 27 (.pick (.s 22) (.v (.bool true)) (.s 26))])
def ZcZ:PC :=
 (R [6,7,8] [I 28 (.build [(.int .u64 0),(.int .i64 0),(.int .i64 0),(.int .i64 0),(.int .i64 0),(.str []),.nils] []),I 29 (.build [(.int .u64 0),(.int .i64 0),(.int .i64 0),(.int .i64 0),(.int .i64 0),(.str []),.nils] []),N 7 6 28,N 7 7 29,K 8 3])
def Zca:PC :=
 (R [6,7,8,10,11] [M 31 0,T 32 7 4,M 33 2,I 34 (C ZAI [(.s 31),(.s 32),(.s 33)]),M 30 34,X 35 30 0,X 36 30 1,X 37 30 2,I 10 (.box (.v ZT)),I 11 (.box (.v ZT)),N 7 10 35,N 7 11 36,M 8 37])
def Zcb:PC :=
 (R [6,7,8] [T 38 7 10,I 39 (.call .pure (.v (.func (.func XT) [] [])) [(.s 38)]),T 40 7 11,I 41 (C XT [(.s 40)]),M 42 8,N 7 6 39,N 7 7 41,M 8 42])
def ZVs:PF:=⟨false,
 (D ZcU
 (D (D ZcV
 (D ZcW
 (E 16
 (D ZcX
 .ret)
 .skip)))
 (D (D ZcY
 (E 27
 (D ZcZ
 .ret)
 .skip))
 (D Zca
 (D Zcb
 .ret))))),
 [.c 6 true 7,.c 7 true 7,.s 8]⟩
theorem Zgi:Zv Proofs.Try.prog false Zgh Proofs.Try.f46=some ZVs:=by kernel_rfl
def ZZF:List Hint:=[H [0,4,5,6],H [0,4,5,6,8],H [0,4,5,6,8,16],H [6,7],H [6,9,10],H [6,7]]
def ZR6:PC :=
 (R [0,4,5,6] [I 4 (.box (.s 1)),I 5 (.box (.s 2)),I 6 (.box (.v ZT)),K 7 0])
def ZR7:PC :=
 (R [0,4,5,6,8] [M 11 0,T 12 7 4,T 13 7 5,I 14 (C ZHD [(.s 11),(.s 12),(.s 13),(.v (.bool true))]),M 8 14])
def ZR8:PC :=
 (R [0,4,5,6,8,16] [M 15 8,W 16 .neq 15 0])
def ZR9:PC :=
 (R [6,7] [I 17 (.build [(.int .u64 0),(.int .i64 0),(.int .i64 0),(.int .i64 0),(.int .i64 0),(.str []),.nils] []),M 18 8,N 7 6 17,M 7 18])
def ZSA:PC :=
 (R [6,9,10] [M 20 0,T 21 7 4,T 22 7 5,I 23 (C YH [(.s 20),(.s 21),(.s 22)]),M 19 23,X 24 19 0,X 25 19 1,I 9 (.box (.v ZT)),N 7 9 24,M 10 25])
def ZSB:PC :=
 (R [6,7] [T 26 7 9,I 27 (C XT [(.s 26)]),M 28 10,N 7 6 27,M 7 28])
def ZI1:PF:=⟨false,
 (D ZR6
 (D (D ZR7
 (D ZR8
 (E 16
 (D ZR9
 .ret)
 .skip)))
 (D ZSA
 (D ZSB
 .ret)))),
 [.c 6 true 7,.s 7]⟩
theorem ZZG:Zv Proofs.Try.prog false ZZF Proofs.Try.f47=some ZI1:=by kernel_rfl
def Zcc:List Hint:=[H [0,3],H [0,3,7],H [4],H [0,3,10],H [4],H [3,5],H [3,5,15],H [4],H [19],H [4],H [4]]
def ZVt:PC :=
 (R [0,3] [I 3 (.box (.s 1)),K 4 0])
def ZVu:PC :=
 (R [0,3,7] [M 6 0,I 7 (.eqs false 3 [] (.s 6) (.v .nilptr))])
def ZVv:PC :=
 (R [4] [K 4 1])
def ZVw:PC :=
 (R [0,3,10] [T 8 7 3,I 9 (C Qe [(.s 8)]),W 10 .eql 9 1])
def ZVx:PC :=
 (R [4] [K 4 0])
def ZVy:PC :=
 (R [3,5] [M 11 0,T 12 7 3,I 13 (C ZBy [(.s 11),(.s 12),(.v (.bool false)),(V 0)]),M 5 13])
def ZVz:PC :=
 (R [3,5,15] [M 14 5,W 15 .neq 14 0])
def ZV0:PC :=
 (R [4] [M 16 5,M 4 16])
def ZV1:PC :=
 (R [19] [T 17 7 3,I 18 (C QS [(.s 17)]),W 19 .gtr 18 65536])
def ZV2:PC :=
 (R [4] [K 4 5])
def ZSC:PC :=
 (R [4] [K 4 0])
def ZL2:PF:=⟨false,
 (D ZVt
 (D (D ZVu
 (E 7
 (D ZVv
 .ret)
 .skip))
 (D (D ZVw
 (E 10
 (D ZVx
 .ret)
 .skip))
 (D (D ZVy
 (D ZVz
 (E 15
 (D ZV0
 .ret)
 .skip)))
 (D (D ZV1
 (E 19
 (D ZV2
 .ret)
 .skip))
 (D ZSC
 .ret)))))),
 [.s 4]⟩
theorem Zcd:Zv Proofs.Try.prog false Zcc Proofs.Try.f48=some ZL2:=by kernel_rfl
def Zew:List Hint:=[H [1],⟨[1,3],[0],[],[],[],[]⟩,H [1,3,4],H [1,3,4,5],H [1,3,5],H [3],H [2]]
def ZZH:PC :=
 (R [1] [I 1 (.box (.s 0)),I 2 (.mv (.v .nils))])
def ZZI:PC :=
 (R [1,3] [I 3 (.boxnil 1)])
def ZZJ:PC :=
 (R [1,3,4] [I 6 (.mkmap),I 4 (.box (.v .nilmap)),N 1 4 6])
def ZZK:PC :=
 (R [1,3,4,5] [I 5 (.box (.v .nilfunc))])
def ZZL:PC :=
 (R [1,3,5] [I 7 (.mkf (.func Yu) [] [(.s 4),(.s 3),(.s 5)]),N 1 5 7])
def ZZM:PC :=
 (R [3] [L 8 5,T 9 7 1,I 10 (.call .norm (.s 8) [(.s 9)])])
def ZZN:PC :=
 (R [2] [L 11 3,M 2 11])
def ZQm:PF:=⟨false,
 (D ZZH
 (D ZZI
 (D ZZJ
 (D ZZK
 (D ZZL
 (D ZZM
 (D ZZN
 .ret))))))),
 [.s 2]⟩
theorem Zex:Zv Proofs.Try.prog false Zew Proofs.Try.f49=some ZQm:=by kernel_rfl
def Zce:List Hint:=[H [0,1,2,3],H [0,1,2,3,16],H [8],H [0,1,2,3],H [0,1,2,3,9,10],H [0,1,2,3,9,10,26],H [8],H [0,2,3,9],H [0,2,3,32,33,34],H [0,2,3,32,33,34,35],H [0,2,3,12,32,33,34],H [0,2,3,13,32,33,34],H [0,2,3,13,32,33,34,45],H [8],H [0,2,3,32,33,34],H [8]]
def ZV3:PC :=
 (R [0,1,2,3] [K 8 0])
def ZV4:PC :=
 (R [0,1,2,3,16] [M 14 2,M 15 1,I 16 (.look 0 (.bool false) false (.s 14) (.s 15))])
def ZV5:PC :=
 (R [8] [K 8 0])
def ZV6:PC :=
 (R [0,1,2,3] [M 17 2,M 18 1,J (.mupd 0 (.s 17) (.s 18) (.v (.bool true)))])
def ZV7:PC :=
 (R [0,1,2,3,9,10] [M 20 0,M 21 1,I 22 (C QN [(.s 20),(.s 21)]),M 19 22,X 23 19 0,X 24 19 1,I 9 (.box (.v ZN)),N 3 9 23,M 10 24])
def ZV8:PC :=
 (R [0,1,2,3,9,10,26] [M 25 10,W 26 .neq 25 0])
def ZV9:PC :=
 (R [8] [M 27 10,M 8 27])
def ZWA:PC :=
 (R [0,2,3,9] [M 28 3,M 29 1,I 30 (.call .norm (.s 28) [(.s 29)])])
def ZWB:PC :=
 (R [0,2,3,32,33,34] [F 31 2 9,L 32 31,I 33 (.len 1 (.s 32)),K 34 0])
def ZWC:PC :=
 (R [0,2,3,32,33,34,35] [B 35 .lss 34 33])
def ZSD:PC :=
 (R [0,2,3,12,32,33,34] [I 36 (.ixS 4 (.s 32) (.s 34)),T 37 4 36,I 12 (.box (.v ZK)),N 4 12 37])
def ZSE:PC :=
 (R [0,2,3,13,32,33,34] [M 38 0,F 39 0 12,L 40 39,M 41 2,M 42 3,I 43 (C JK [(.s 38),(.s 40),(.s 41),(.s 42)]),M 13 43])
def ZSF:PC :=
 (R [0,2,3,13,32,33,34,45] [M 44 13,W 45 .neq 44 0])
def ZSG:PC :=
 (R [8] [M 46 13,M 8 46])
def ZSH:PC :=
 (R [0,2,3,32,33,34] [W 47 .add 34 1,M 34 47])
def ZSI:PC :=
 (D ZWC
 (D (E 35
 .skip
 (.exit 0))
 (D (.block 1
 (D ZSD
 (D ZSE
 (D ZSF
 (E 45
 (D ZSG
 .ret)
 .skip)))))
 ZSH)))
def ZSJ:PC :=
 (R [8] [K 8 0])
def ZL3:PF:=⟨false,
 (D ZV3
 (D (D ZV4
 (E 16
 (D ZV5
 .ret)
 .skip))
 (D ZV6
 (D ZV7
 (D (D ZV8
 (E 26
 (D ZV9
 .ret)
 .skip))
 (D ZWA
 (D (D ZWB
 (.block 0
 (.loop ZSI)))
 (D ZSJ
 .ret)))))))),
 [.s 8]⟩
theorem Zcf:Zv Proofs.Try.prog false Zce Proofs.Try.f50=some ZL3:=by kernel_rfl
def ZOy:List Hint:=[]
def ZEh:PF:=⟨false,
 .skip,
 []⟩
theorem ZOz:Zv Proofs.Try.prog false ZOy Proofs.Try.f51=some ZEh:=by kernel_rfl
def ZO0:List Hint:=[H [0,2,7],H []]
def ZJm:PC :=
 (R [0,2,7] [L 4 1,M 5 0,I 6 (.look 0 (.bool false) false (.s 4) (.s 5)),I 7 (.un .not (.s 6))])
def ZJn:PC :=
 (R [] [L 8 2,M 9 0,I 10 (.bslice false 1 [(.int .u64 0)] [(0,(.s 9))]),I 11 (.app 1 8 (.s 8) (.s 10)),N 1 2 11])
def ZEi:PF:=⟨false,
 (D ZJm
 (E 7
 ZJn
 .skip)),
 []⟩
theorem ZO1:Zv Proofs.Try.prog false ZO0 Proofs.Try.f52=some ZEi:=by kernel_rfl
def ZGn:List Hint:=[H [0,1],⟨[0,1,5],[0],[],[],[],[]⟩,H [0,1,5,9],H [4],H [1,5,14,15,16],H [1,5,14,15,16,17],H [1,5,6,7,14,15,16],H [1,5,6,14,15,16,23],H [1,5,14,15,16],H [1,5,14,15,16],H [4]]
def ZEj:PC :=
 (R [0,1] [I 4 (.mv (.v .nils))])
def ZEk:PC :=
 (R [0,1,5] [I 5 (.onil 1)])
def ZEl:PC :=
 (R [0,1,5,9] [M 8 0,I 9 (.eqs false 3 [] (.s 8) (.v .nilptr))])
def ZEm:PC :=
 (R [4] [M 10 5,M 4 10])
def ZEn:PC :=
 (R [1,5,14,15,16] [M 11 0,I 12 (.nilck (.s 11)),F 13 1 12,L 14 13,I 15 (.len 1 (.s 14)),K 16 0])
def ZEo:PC :=
 (R [1,5,14,15,16,17] [B 17 .lss 16 15])
def ZEp:PC :=
 (R [1,5,6,7,14,15,16] [M 18 16,I 19 (.ixS 1 (.s 14) (.s 16)),L 20 19,M 6 18,M 7 20])
def ZEq:PC :=
 (R [1,5,6,14,15,16,23] [M 21 7,M 22 1,B 23 .eql 21 22])
def ZEr:PC :=
 (R [1,5,14,15,16] [M 24 5,M 25 6,I 26 (.bslice false 1 [(.int .i64 0)] [(0,(.s 25))]),I 27 (.app 1 8 (.s 24) (.s 26)),M 5 27])
def ZEs:PC :=
 (R [1,5,14,15,16] [W 28 .add 16 1,M 16 28])
def ZD4:PC :=
 (D ZEo
 (D (E 17
 .skip
 (.exit 0))
 (D (.block 1
 (D ZEp
 (D ZEq
 (E 23
 ZEr
 .skip))))
 ZEs)))
def ZD5:PC :=
 (R [4] [M 29 5,M 4 29])
def ZA0:PF:=⟨false,
 (D ZEj
 (D ZEk
 (D (D ZEl
 (E 9
 (D ZEm
 .ret)
 .skip))
 (D (D ZEn
 (.block 0
 (.loop ZD4)))
 (D ZD5
 .ret))))),
 [.s 4]⟩
theorem ZGo:Zv Proofs.Try.prog false ZGn Proofs.Try.f53=some ZA0:=by kernel_rfl
def ZZO:List Hint:=[H [0,1],H [0,1,19],H [4,5],H [4,5]]
def ZSK:PC :=
 (R [0,1] [I 4 (.mv (.v (.int .u64 0))),K 5 0])
def ZSL:PC :=
 (R [0,1,19] [M 6 0,W 7 .lss 6 0,M 8 7,U 9 8 false 0,G 10 8 false (.bin .geq (.s 9) (V 16384)),I 11 (.pick (.s 8) (.v (.bool true)) (.s 10)),M 12 11,U 13 12 false 1,G 14 12 false (.bin .lss (.s 13) (.v (.int .u64 1))),I 15 (.pick (.s 12) (.v (.bool true)) (.s 14)),M 16 15,U 17 16 false 1,G 18 16 false (.bin .gtr (.s 17) (.v (.int .u64 4294967295))),I 19 (.pick (.s 16) (.v (.bool true)) (.s 18))])
def ZSM:PC :=
 (R [4,5] [I 4 (.mv (.v (.int .u64 0))),K 5 3])
def ZSN:PC :=
 (R [4,5] [M 20 1,I 21 (.bin .shl (.s 20) (.v (.int .u64 16))),M 22 0,I 23 (.cint .u64 (.s 22)),B 24 .or 21 23,M 4 24,K 5 0])
def ZI2:PF:=⟨false,
 (D ZSK
 (D (D ZSL
 (E 19
 (D ZSM
 .ret)
 .skip))
 (D ZSN
 .ret))),
 [.s 4,.s 5]⟩
theorem ZZP:Zv Proofs.Try.prog false ZZO Proofs.Try.f54=some ZI2:=by kernel_rfl
def Zcg:List Hint:=[H [0,3,23],H [0,3,6,23],H [0,3,6,17,23],H [4],H [0,3,7,23],H [7,21,23],H [7,9],H [7,9,26],H [7],H [4]]
def ZWD:PC :=
 (R [0,3,23] [I 3 (.box (.s 1)),K 4 0])
def ZWE:PC :=
 (R [0,3,6,23] [M 11 0,T 12 5 3,I 13 (C Ya [(.s 11),(.s 12)]),M 10 13,X 14 10 0,X 15 10 1,I 5 (.box (.v ZT)),N 7 5 14,M 6 15])
def ZWF:PC :=
 (R [0,3,6,17,23] [M 16 6,W 17 .neq 16 0])
def ZWG:PC :=
 (R [4] [M 18 6,M 4 18])
def ZWH:PC :=
 (R [0,3,7,23] [I 7 (.box (V 0)),J (.st 1 (.s 7) (V 0))])
def ZWI:PC :=
 (R [7,21,23] [M 19 0,T 20 5 3,I 21 (C ZBz [(.s 19),(.s 20)])])
def ZWJ:PC :=
 (R [7,9] [I 9 (.box (.v (.agg [(.int .i64 0),(.str []),.nils,(.int .i64 0)]))),N 4 9 23])
def ZWK:PC :=
 (R [7,9,26] [F 24 3 9,L 25 24,W 26 .neq 25 0])
def ZWL:PC :=
 (R [7] [F 27 3 9,L 28 27,N 1 7 28])
def ZWM:PC :=
 (R [4] [L 29 7,M 4 29])
def p_rope_Check:RF:=⟨30,
 (D ZWD
 (D (D ZWE
 (D ZWF
 (E 17
 (D ZWG
 .ret)
 .skip)))
 (D ZWH
 (D .skip
 (D ZWI
 .skip))))),
 ⟨(.s 21),[22,23],
 ZWJ,
 (.block 1
 (D ZWK
 (E 26
 (D ZWL
 (.exit 0))
 .skip)))⟩,
 (D .skip
 (D ZWM
 .ret)),
 [.s 4]⟩
theorem Zch:Zb6 Proofs.Try.prog Zcg Proofs.Try.f55=some p_rope_Check:=by kernel_rfl
def Zci:List Hint:=[H [0,3,20],H [0,3,6,20],H [0,3,6,14,20],H [4,5],⟨[0,3,7,20],[0],[],[],[],[]⟩,H [0,3,7,8,20],H [7,8,19,20],H [7,8,9],H [7,8,9,25],H [7,9],H [7],H [4,5]]
def ZWN:PC :=
 (R [0,3,20] [I 3 (.box (.s 1)),I 4 (.mv (.v .nils)),K 5 0])
def ZWO:PC :=
 (R [0,3,6,20] [M 10 0,T 11 5 3,I 12 (C ZAf [(.s 10),(.s 11)]),M 6 12])
def ZWP:PC :=
 (R [0,3,6,14,20] [M 13 6,W 14 .neq 13 0])
def ZWQ:PC :=
 (R [4,5] [M 15 6,I 4 (.mv (.v .nils)),M 5 15])
def ZWR:PC :=
 (R [0,3,7,20] [I 7 (.boxnil 1)])
def ZWS:PC :=
 (R [0,3,7,8,20] [I 16 (.mkmap),I 8 (.box (.v .nilmap)),N 1 8 16])
def ZWT:PC :=
 (R [7,8,19,20] [M 17 0,T 18 5 3,I 19 (C ZBz [(.s 17),(.s 18)])])
def ZWU:PC :=
 (R [7,8,9] [M 9 20])
def ZWV:PC :=
 (R [7,8,9,25] [L 22 8,M 23 9,I 24 (.look 0 (.bool false) false (.s 22) (.s 23)),I 25 (.un .not (.s 24))])
def ZWW:PC :=
 (R [7,9] [L 26 8,M 27 9,J (.mupd 0 (.s 26) (.s 27) (.v (.bool true)))])
def ZSO:PC :=
 (R [7] [L 28 7,M 29 9,I 30 (.bslice false 1 [(.int .u64 0)] [(0,(.s 29))]),I 31 (.app 1 8 (.s 28) (.s 30)),N 1 7 31])
def ZSP:PC :=
 (R [4,5] [L 32 7,M 4 32,K 5 0])
def p_rope_Nodes:RF:=⟨33,
 (D ZWN
 (D (D ZWO
 (D ZWP
 (E 14
 (D ZWQ
 .ret)
 .skip)))
 (D ZWR
 (D ZWS
 (D ZWT
 .skip))))),
 ⟨(.s 19),[20,21],
 ZWU,
 (.block 1
 (D ZWV
 (E 25
 (D ZWW
 ZSO)
 .skip)))⟩,
 (D .skip
 (D ZSP
 .ret)),
 [.s 4,.s 5]⟩
theorem Zcj:Zb6 Proofs.Try.prog Zci Proofs.Try.f56=some p_rope_Nodes:=by kernel_rfl
def ZZQ:List Hint:=[H [1,2],H [1,2,10],H [4],H [1,2,5],H [2,5,17],H [2,5],H [5,6],H [5,6,7],H [6,7,23,24],H [6,7,23,24,25],H [6,7,8,23,24],H [6,7,23,24],H [6,7,23,24],H [4]]
def ZSQ:PC :=
 (R [1,2] [I 2 (.box (.s 0)),I 4 (.mv (.v .nils))])
def ZSR:PC :=
 (R [1,2,10] [L 9 2,W 10 .eql 9 0])
def ZSS:PC :=
 (R [4] [I 4 (.mv (.v .nils))])
def ZST:PC :=
 (R [1,2,5] [L 11 2,M 12 1,B 13 .quo 11 12,I 5 (.box (V 0)),N 1 5 13])
def ZSU:PC :=
 (R [2,5,17] [L 14 2,M 15 1,B 16 .rem 14 15,W 17 .gtr 16 0])
def ZSV:PC :=
 (R [2,5] [L 18 5,W 19 .add 18 1,N 1 5 19])
def ZSW:PC :=
 (R [5,6] [I 20 (.mkf (.func J7) [] [(.s 2),(.s 5)]),M 6 20])
def ZSX:PC :=
 (R [5,6,7] [L 21 5,I 22 (.mkslice 1 8 (.int .i64 0) (.s 21) (.s 21)),M 7 22])
def ZSY:PC :=
 (R [6,7,23,24] [L 23 5,K 24 0])
def ZSZ:PC :=
 (R [6,7,23,24,25] [B 25 .lss 24 23])
def ZO2:PC :=
 (R [6,7,8,23,24] [M 26 24,M 8 26])
def ZO3:PC :=
 (R [6,7,23,24] [M 27 7,M 28 8,M 29 6,M 30 8,I 31 (.call .norm (.s 29) [(.s 30)]),I 32 (.ixS 1 (.s 27) (.s 28)),N 1 32 31])
def ZO4:PC :=
 (R [6,7,23,24] [W 33 .add 24 1,M 24 33])
def ZEt:PC :=
 (D ZSZ
 (D (E 25
 .skip
 (.exit 0))
 (D (.block 1
 (D ZO2
 ZO3))
 ZO4)))
def ZO5:PC :=
 (R [4] [M 34 7,M 4 34])
def ZI3:PF:=⟨false,
 (D ZSQ
 (D (D ZSR
 (E 10
 (D ZSS
 .ret)
 .skip))
 (D ZST
 (D (D ZSU
 (E 17
 ZSV
 .skip))
 (D ZSW
 (D ZSX
 (D (D ZSY
 (.block 0
 (.loop ZEt)))
 (D ZO5
 .ret)))))))),
 [.s 4]⟩
theorem ZZR:Zv Proofs.Try.prog false ZZQ Proofs.Try.f57=some ZI3:=by kernel_rfl
def Zgj:List Hint:=[H [1],H [1,3],H [1,3,4],H [1,3,14],H [1,3],H [3,16,17,18],H [3,16,17,18,19],H [3,6,16,17,18],H [3,16,17,18],H [3,16,17,18],H [2]]
def Zck:PC :=
 (R [1] [I 1 (.box (.s 0)),K 2 0])
def Zcl:PC :=
 (R [1,3] [K 3 0])
def Zcm:PC :=
 (R [1,3,4] [T 7 7 1,I 8 (C Qe [(.s 7)]),M 4 8])
def Zcn:PC :=
 (R [1,3,14] [M 9 4,W 10 .eql 9 3,M 11 10,U 12 11 false 4,G 13 11 false (.bin .eql (.s 12) (V 4)),I 14 (.pick (.s 11) (.v (.bool true)) (.s 13))])
def Zco:PC :=
 (R [1,3] [K 3 1])
def Zcp:PC :=
 (R [3,16,17,18] [F 15 6 1,L 16 15,I 17 (.len 1 (.s 16)),K 18 0])
def Zcq:PC :=
 (R [3,16,17,18,19] [B 19 .lss 18 17])
def Zcr:PC :=
 (R [3,6,16,17,18] [I 20 (.ixS 7 (.s 16) (.s 18)),T 21 7 20,I 6 (.box (.v ZT)),N 7 6 21])
def Zcs:PC :=
 (R [3,16,17,18] [M 22 3,T 23 7 6,I 24 (C ZBF [(.s 23)]),B 25 .add 22 24,M 3 25])
def Zct:PC :=
 (R [3,16,17,18] [W 26 .add 18 1,M 18 26])
def ZZS:PC :=
 (D Zcq
 (D (E 19
 .skip
 (.exit 0))
 (D (.block 1
 (D Zcr
 Zcs))
 Zct)))
def ZZT:PC :=
 (R [2] [M 27 3,M 2 27])
def ZWX:PF:=⟨false,
 (D Zck
 (D Zcl
 (D (D Zcm
 (D Zcn
 (E 14
 Zco
 .skip)))
 (D (D Zcp
 (.block 0
 (.loop ZZS)))
 (D ZZT
 .ret))))),
 [.s 2]⟩
theorem Zgk:Zv Proofs.Try.prog false Zgj Proofs.Try.f58=some ZWX:=by kernel_rfl
def ZIi:List Hint:=[H [0,2],H [0,2,4],H [2],⟨[2],[],[(8,.pure),(19,.pure)],[],[],[]⟩]
def ZGp:PC :=
 (R [0,2] [I 2 (.box (.v (.agg [(.int .i64 0),(.int .i64 0),(.int .i64 0),(.int .i64 0),(.int .i64 0),(.int .i64 0),(.int .i64 0)])))])
def ZGq:PC :=
 (R [0,2,4] [M 3 0,I 4 (.eqs false 3 [] (.s 3) (.v .nilptr))])
def ZGr:PC :=
 (R [2] [I 5 (.build [(.int .i64 0),(.int .i64 0),(.int .i64 0),(.int .i64 0),(.int .i64 0),(.int .i64 0),(.int .i64 0)] []),N 7 2 5])
def ZGs:PC :=
 (R [2] [M 6 0,I 7 (.nilck (.s 6)),F 8 0 7,L 9 8,M 10 0,I 11 (.nilck (.s 10)),F 12 1 11,L 13 12,I 14 (.call .pure (.v (.func (.func XU) [] [])) [(.s 13)]),I 15 (.len 1 (.s 14)),M 16 0,I 17 (.nilck (.s 16)),F 18 2 17,L 19 18,I 20 (.len 2 (.s 19)),M 21 0,I 22 (.nilck (.s 21)),F 23 1 22,L 24 23,I 25 (.call .pure (.v (.func (.func J4) [] [])) [(.s 24)]),I 26 (.len 1 (.s 25)),M 27 0,I 28 (.nilck (.s 27)),F 29 3 28,L 30 29,M 31 0,I 32 (.nilck (.s 31)),F 33 4 32,L 34 33,M 35 0,I 36 (.nilck (.s 35)),F 37 5 36,L 38 37,I 39 (.build [(.int .i64 0),(.int .i64 0),(.int .i64 0),(.int .i64 0),(.int .i64 0),(.int .i64 0),(.int .i64 0)] [(0,1,(.s 9)),(1,1,(.s 15)),(2,1,(.s 20)),(3,1,(.s 26)),(4,1,(.s 30)),(5,1,(.s 34)),(6,1,(.s 38))]),N 7 2 39])
def ZBp:PF:=⟨false,
 (D ZGp
 (D (D ZGq
 (E 4
 (D ZGr
 .ret)
 .skip))
 (D ZGs
 .ret))),
 [.c 2 true 7]⟩
theorem ZIj:Zv Proofs.Try.prog false ZIi Proofs.Try.f59=some ZBp:=by kernel_rfl
def ZWY:List Hint:=[H [0,3],H [0,3,5],H [0,3,5,80],H [0,3,5,95],H [0,5,6],H [0,5,6],H [5],⟨[0,3,5,7],[0],[],[],[],[]⟩,H [0,3,5,7,20,21,22],H [0,3,5,7,20,21,22,23],H [0,3,5,7,9,20,21,22],H [0,3,5,7,10,20,21,22],⟨[0,3,5,7,10,20,21,22],[2],[],[],[],[]⟩,H [0,3,5,7,10,20,21,22],H [0,3,5,7,10,20,21,22],H [0,3,5,7,20,21,22],H [0,3,5,7,20,21,22],H [5],H [4]]
def ZO6:PC :=
 (R [0,3] [I 3 (.box (.s 1)),I 4 (.mv (.v .nilptr))])
def ZO7:PC :=
 (R [0,3,5] [F 11 1 3,L 12 11,F 13 2 3,T 14 3 13,F 15 0 3,L 16 15,I 17 (.build [(.int .u64 0),(.int .i64 0),(.int .i64 0),(.int .i64 0),(.int .i64 0)] [(1,1,(.s 12)),(2,3,(.s 14)),(0,1,(.s 16))]),I 18 (.box (.s 17)),M 5 18])
def ZO8:PC :=
 (R [0,3,5,80] [F 81 0 3,L 82 81,I 83 (.bin .neq (.s 82) (.v (.int .u64 0))),M 84 83,G 85 84 false (.fadr 5 (.s 3)),G 86 84 false (.ld false 1 (.s 85)),G 87 84 false (.bin .eql (.s 86) (.v (.str []))),U 88 84 false 87,G 89 88 true (.fadr 6 (.s 3)),G 90 88 true (.ld false 1 (.s 89)),G 91 88 true (.len 1 (.s 90)),G 92 88 true (.bin .eql (.s 91) (V 0)),G 93 84 false (.pick (.s 88) (.s 92) (.v (.bool false))),I 94 (.pick (.s 84) (.v (.bool true)) (.s 93)),M 80 94])
def ZO9:PC :=
 (R [0,3,5,95] [F 96 1 3,L 97 96,W 98 .eql 97 0,M 95 98])
def ZPA:PC :=
 (R [0,5,6] [F 99 5 3,L 100 99,I 101 (.build [(.int .i64 0),(.str []),.nils] [(1,1,(.s 100))]),I 6 (.box (.v ZN)),N 3 6 101])
def ZPB:PC :=
 (R [0,5,6] [M 103 5,T 104 3 6,I 105 (C XS [(.s 104)]),M 102 105,X 106 102 0,X 107 102 1,I 108 (.nilck (.s 103)),F 109 2 108,N 3 109 106])
def ZPC:PC :=
 (R [5] [M 110 0,M 111 5,I 112 (.mkf (.func Js) [] [(.s 6)]),I 113 (C ZAg [(.s 110),(.s 111),(.s 112)])])
def ZPD:PC :=
 (R [0,3,5,7] [I 7 (.boxnil 1)])
def ZPE:PC :=
 (R [0,3,5,7,20,21,22] [F 19 6 3,L 20 19,I 21 (.len 1 (.s 20)),K 22 0])
def ZPF:PC :=
 (R [0,3,5,7,20,21,22,23] [B 23 .lss 22 21])
def ZL4:PC :=
 (R [0,3,5,7,9,20,21,22] [I 24 (.ixS 7 (.s 20) (.s 22)),T 25 7 24,I 9 (.box (.v ZT)),N 7 9 25])
def ZL5:PC :=
 (R [0,3,5,7,10,20,21,22] [M 26 0,T 27 7 9,I 28 (C Qr [(.s 26),(.s 27)]),M 10 28])
def ZL6:PC :=
 (R [0,3,5,7,10,20,21,22] [L 29 7,M 30 10,I 31 (.bslice true 1 [.nilptr] [(0,(.s 30))]),I 32 (.app 1 8 (.s 29) (.s 31)),N 1 7 32])
def ZDg:PC :=
 (R [0,3,5,7,10,20,21,22] [M 33 5,I 34 (.nilck (.s 33)),F 35 2 34,F 36 0 35,L 37 36,M 38 10,I 39 (.nilck (.s 38)),F 40 2 39,F 41 0 40,L 42 41,B 43 .add 37 42,I 44 (.nilck (.s 33)),F 45 2 44,F 46 0 45,N 1 46 43])
def ZDh:PC :=
 (R [0,3,5,7,10,20,21,22] [M 47 5,I 48 (.nilck (.s 47)),F 49 2 48,F 50 1 49,L 51 50,M 52 10,I 53 (.nilck (.s 52)),F 54 2 53,F 55 1 54,L 56 55,B 57 .add 51 56,I 58 (.nilck (.s 47)),F 59 2 58,F 60 1 59,N 1 60 57])
def ZDi:PC :=
 (R [0,3,5,7,20,21,22] [M 61 5,I 62 (.nilck (.s 61)),F 63 2 62,F 64 2 63,L 65 64,M 66 10,I 67 (.nilck (.s 66)),F 68 2 67,F 69 2 68,L 70 69,B 71 .add 65 70,I 72 (.nilck (.s 61)),F 73 2 72,F 74 2 73,N 1 74 71])
def ZL7:PC :=
 (R [0,3,5,7,20,21,22] [W 75 .add 22 1,M 22 75])
def ZL8:PC :=
 (D ZPF
 (D (E 23
 .skip
 (.exit 1))
 (D (.block 2
 (D ZL4
 (D ZL5
 (D ZL6
 (D ZDg
 (D ZDh
 ZDi))))))
 ZL7)))
def ZL9:PC :=
 (R [5] [M 76 0,M 77 5,I 78 (.mkf (.func JH) [] [(.s 3),(.s 7)]),I 79 (C ZAg [(.s 76),(.s 77),(.s 78)])])
def ZMA:PC :=
 (R [4] [M 114 5,M 4 114])
def ZHb:PF:=⟨true,
 (D ZO6
 (D ZO7
 (D (.block 0
 (D ZO8
 (E 80
 .skip
 (D ZO9
 (E 95
 (D ZPA
 (D ZPB
 ZPC))
 (D ZPD
 (D (D ZPE
 (.block 1
 (.loop ZL8)))
 ZL9)))))))
 (D ZMA
 .ret)))),
 [.s 4]⟩
theorem ZWZ:Zv Proofs.Try.prog true ZWY Proofs.Try.f60=some ZHb:=by kernel_rfl
def ZWa:List Hint:=[H [0,2,3,4,6,10],H [0,2,3,4,6,10,12],H [0,2,3,4,6,10,12,24],H [10,11],H [0,2,3,4,6,10,13],H [0,2,3,4,6,10,13,46],H [10,11],H [0,2,3,4,6,10,60],H [10,11],H [0,2,3,4,6,10,67],H [10,11],H [0,3,4,10,14,15,16],H [0,3,4,10,14,15,16,79],H [10,11],H [0,4,10,14,16,18],H [0,4,10,14,16,18,91],H [10,11],H [0,10,14,16,18,19],H [0,10,14,16,18,19,100],H [10,11],H [0,10,14,16,18],H [0,10,14,16,18,111],H [10,11],H [10,14,16],H [10,11]]
def ZPG:PC :=
 (R [0,2,3,4,6,10] [I 6 (.box (.s 1)),I 10 (.box (.v ZT)),K 11 0])
def ZPH:PC :=
 (R [0,2,3,4,6,10,12] [M 20 0,T 21 7 6,I 22 (C Jd [(.s 20),(.s 21)]),M 12 22])
def ZPI:PC :=
 (R [0,2,3,4,6,10,12,24] [M 23 12,W 24 .neq 23 0])
def ZPJ:PC :=
 (R [10,11] [I 25 (.build [(.int .u64 0),(.int .i64 0),(.int .i64 0),(.int .i64 0),(.int .i64 0),(.str []),.nils] []),M 26 12,N 7 10 25,M 11 26])
def ZPK:PC :=
 (R [0,2,3,4,6,10,13] [T 27 7 6,I 28 (C QS [(.s 27)]),M 13 28])
def ZPL:PC :=
 (R [0,2,3,4,6,10,13,46] [M 29 2,W 30 .lss 29 0,M 31 30,U 32 31 false 2,U 33 31 false 13,G 34 31 false (.bin .gtr (.s 32) (.s 33)),I 35 (.pick (.s 31) (.v (.bool true)) (.s 34)),M 36 35,U 37 36 false 3,G 38 36 false (.bin .lss (.s 37) (V 0)),I 39 (.pick (.s 36) (.v (.bool true)) (.s 38)),M 40 39,U 41 40 false 3,U 42 40 false 13,U 43 40 false 2,G 44 40 false (.bin .sub (.s 42) (.s 43)),G 45 40 false (.bin .gtr (.s 41) (.s 44)),I 46 (.pick (.s 40) (.v (.bool true)) (.s 45))])
def ZPM:PC :=
 (R [10,11] [I 47 (.build [(.int .u64 0),(.int .i64 0),(.int .i64 0),(.int .i64 0),(.int .i64 0),(.str []),.nils] []),N 7 10 47,K 11 3])
def ZPN:PC :=
 (R [0,2,3,4,6,10,60] [M 48 13,M 49 3,B 50 .sub 48 49,M 51 4,I 52 (.len 0 (.s 51)),I 53 (.mnx false (.s 52) (V 65536)),I 54 (.bin .sub (V 65536) (.s 53)),B 55 .gtr 50 54,M 56 55,U 57 56 false 4,G 58 56 false (.len 0 (.s 57)),G 59 56 false (.bin .gtr (.s 58) (V 65536)),I 60 (.pick (.s 56) (.v (.bool true)) (.s 59))])
def ZPO:PC :=
 (R [10,11] [I 61 (.build [(.int .u64 0),(.int .i64 0),(.int .i64 0),(.int .i64 0),(.int .i64 0),(.str []),.nils] []),N 7 10 61,K 11 5])
def ZPP:PC :=
 (R [0,2,3,4,6,10,67] [M 62 3,W 63 .eql 62 0,M 64 63,U 65 64 true 4,G 66 64 true (.bin .eql (.s 65) (.v (.str []))),I 67 (.pick (.s 64) (.s 66) (.v (.bool false)))])
def ZMB:PC :=
 (R [10,11] [T 68 7 6,I 69 (C XT [(.s 68)]),N 7 10 69,K 11 0])
def ZMC:PC :=
 (R [0,3,4,10,14,15,16] [M 71 0,T 72 7 6,M 73 2,I 74 (C ZAI [(.s 71),(.s 72),(.s 73)]),M 70 74,X 75 70 0,X 76 70 1,X 77 70 2,I 14 (.box (.v ZT)),I 15 (.box (.v ZT)),N 7 14 75,N 7 15 76,M 16 77])
def ZMD:PC :=
 (R [0,3,4,10,14,15,16,79] [M 78 16,W 79 .neq 78 0])
def ZME:PC :=
 (R [10,11] [I 80 (.build [(.int .u64 0),(.int .i64 0),(.int .i64 0),(.int .i64 0),(.int .i64 0),(.str []),.nils] []),M 81 16,N 7 10 80,M 11 81])
def ZMF:PC :=
 (R [0,4,10,14,16,18] [M 83 0,T 84 7 15,M 85 3,I 86 (C ZAI [(.s 83),(.s 84),(.s 85)]),M 82 86,X 87 82 0,X 88 82 1,X 89 82 2,I 17 (.box (.v ZT)),I 18 (.box (.v ZT)),N 7 17 87,N 7 18 88,M 16 89])
def ZMG:PC :=
 (R [0,4,10,14,16,18,91] [M 90 16,W 91 .neq 90 0])
def ZMH:PC :=
 (R [10,11] [I 92 (.build [(.int .u64 0),(.int .i64 0),(.int .i64 0),(.int .i64 0),(.int .i64 0),(.str []),.nils] []),M 93 16,N 7 10 92,M 11 93])
def ZMI:PC :=
 (R [0,10,14,16,18,19] [M 95 4,I 96 (C ZAa [(.s 95)]),M 94 96,X 97 94 0,X 98 94 1,I 19 (.box (.v ZT)),N 7 19 97,M 16 98])
def ZMJ:PC :=
 (R [0,10,14,16,18,19,100] [M 99 16,W 100 .neq 99 0])
def ZMK:PC :=
 (R [10,11] [I 101 (.build [(.int .u64 0),(.int .i64 0),(.int .i64 0),(.int .i64 0),(.int .i64 0),(.str []),.nils] []),M 102 16,N 7 10 101,M 11 102])
def ZML:PC :=
 (R [0,10,14,16,18] [M 104 0,T 105 7 14,T 106 7 19,I 107 (C YH [(.s 104),(.s 105),(.s 106)]),M 103 107,X 108 103 0,X 109 103 1,N 7 14 108,M 16 109])
def ZMM:PC :=
 (R [0,10,14,16,18,111] [M 110 16,W 111 .neq 110 0])
def ZMN:PC :=
 (R [10,11] [I 112 (.build [(.int .u64 0),(.int .i64 0),(.int .i64 0),(.int .i64 0),(.int .i64 0),(.str []),.nils] []),M 113 16,N 7 10 112,M 11 113])
def ZMO:PC :=
 (R [10,14,16] [M 115 0,T 116 7 14,T 117 7 18,I 118 (C YH [(.s 115),(.s 116),(.s 117)]),M 114 118,X 119 114 0,X 120 114 1,N 7 14 119,M 16 120])
def ZMP:PC :=
 (R [10,11] [T 121 7 14,I 122 (C XT [(.s 121)]),M 123 16,N 7 10 122,M 11 123])
def ZHc:PF:=⟨false,
 (D ZPG
 (D (D ZPH
 (D ZPI
 (E 24
 (D ZPJ
 .ret)
 .skip)))
 (D ZPK
 (D (D ZPL
 (E 46
 (D ZPM
 .ret)
 .skip))
 (D (D ZPN
 (E 60
 (D ZPO
 .ret)
 .skip))
 (D (D ZPP
 (E 67
 (D ZMB
 .ret)
 .skip))
 (D ZMC
 (D (D ZMD
 (E 79
 (D ZME
 .ret)
 .skip))
 (D ZMF
 (D (D ZMG
 (E 91
 (D ZMH
 .ret)
 .skip))
 (D ZMI
 (D (D ZMJ
 (E 100
 (D ZMK
 .ret)
 .skip))
 (D (D ZML
 (D ZMM
 (E 111
 (D ZMN
 .ret)
 .skip)))
 (D ZMO
 (D ZMP
 .ret))))))))))))))),
 [.c 10 true 7,.s 11]⟩
theorem ZWb:Zv Proofs.Try.prog false ZWa Proofs.Try.f61=some ZHc:=by kernel_rfl
def ZWc:List Hint:=[H [1,2],H [1,2,4],H [1,2,4,8],H [2,3],H [2,3]]
def ZPQ:PC :=
 (R [1,2] [I 1 (.box (.s 0)),I 2 (.box (.v ZM)),K 3 0])
def ZPR:PC :=
 (R [1,2,4] [T 5 3 1,I 6 (C ZB0 [(.s 5)]),M 4 6])
def ZPS:PC :=
 (R [1,2,4,8] [M 7 4,W 8 .neq 7 0])
def ZPT:PC :=
 (R [2,3] [I 9 (.build [(.int .i64 0),(.int .i64 0),(.int .i64 0)] []),M 10 4,N 3 2 9,M 3 10])
def ZPU:PC :=
 (R [2,3] [T 11 3 1,I 12 (C ZCi [(.s 11)]),N 3 2 12,K 3 0])
def ZHd:PF:=⟨false,
 (D ZPQ
 (D (D ZPR
 (D ZPS
 (E 8
 (D ZPT
 .ret)
 .skip)))
 (D ZPU
 .ret))),
 [.c 2 true 3,.s 3]⟩
theorem ZWd:Zv Proofs.Try.prog false ZWc Proofs.Try.f62=some ZHd:=by kernel_rfl
def Zcu:List Hint:=[H [1],H [1,3],H [3,14,15,16],H [3,14,15,16,17],H [3,5,14,15,16],H [3,14,15,16],H [3,14,15,16],H [2]]
def ZWe:PC :=
 (R [1] [I 1 (.box (.s 0)),K 2 0])
def ZWf:PC :=
 (R [1,3] [F 6 2 1,F 7 0 6,L 8 7,F 9 5 1,L 10 9,I 11 (.len 0 (.s 10)),B 12 .add 8 11,M 3 12])
def ZWg:PC :=
 (R [3,14,15,16] [F 13 6 1,L 14 13,I 15 (.len 1 (.s 14)),K 16 0])
def ZWh:PC :=
 (R [3,14,15,16,17] [B 17 .lss 16 15])
def ZWi:PC :=
 (R [3,5,14,15,16] [I 18 (.ixS 7 (.s 14) (.s 16)),T 19 7 18,I 5 (.box (.v ZT)),N 7 5 19])
def ZWj:PC :=
 (R [3,14,15,16] [M 20 3,T 21 7 5,I 22 (C QS [(.s 21)]),B 23 .add 20 22,M 3 23])
def ZWk:PC :=
 (R [3,14,15,16] [W 24 .add 16 1,M 16 24])
def ZWl:PC :=
 (D ZWh
 (D (E 17
 .skip
 (.exit 0))
 (D (.block 1
 (D ZWi
 ZWj))
 ZWk)))
def ZWm:PC :=
 (R [2] [M 25 3,M 2 25])
def ZMQ:PF:=⟨false,
 (D ZWe
 (D ZWf
 (D (D ZWg
 (.block 0
 (.loop ZWl)))
 (D ZWm
 .ret)))),
 [.s 2]⟩
theorem Zcv:Zv Proofs.Try.prog false Zcu Proofs.Try.f63=some ZMQ:=by kernel_rfl
def Zgl:List Hint:=[H [0,2,4,6,7],H [0,2,4,6,7,18],⟨[6,7,8],[],[],[],[(1,(.hide [(.s 6)])),(2,(.plain (.s 6)))],[]⟩,H [0,2,4,6,7,24],H [6,7,8],H [0,2,4,6,7,29],H [2,6,7,9,10],H [2,6,7,9,10,37],H [6,7,8],H [6,7,10,11,12],H [6,7,8],H [0,2,6,7,8,13],H [0,2,6,7,8,13,60],H [6,7,8],H [0,2,6,7,13,14],H [0,2,6,7,13,14,77],H [0,2,6,7,13,14],H [0,2,6,7,13,14],H [0,2,6,7,13,14,88],⟨[6,7,8],[],[(3,.pure)],[],[],[]⟩,H [0,6,7,8,13,14,15,16],H [0,6,7,8,13,14,15,16,109],H [6,7,8],⟨[0,6,7,8,13,14,16],[],[(4,.pure)],[],[],[]⟩,H [0,6,7,8,13,14,16,124],H [6,7,8],⟨[6,7,8],[],[(6,.pure)],[],[],[]⟩,H [6,7,8,140],H [6,7,8],⟨[6,7,8],[],[],[],[(1,(.hide [(.s 6)])),(2,(.plain (.s 6)))],[]⟩]
def Zcw:PC :=
 (R [0,2,4,6,7] [I 4 (.box (.s 1)),I 6 (.box (.v ZT)),I 7 (.box (.v ZT)),K 8 0])
def Zcx:PC :=
 (R [0,2,4,6,7,18] [M 17 2,W 18 .eql 17 0])
def Zcy:PC :=
 (R [6,7,8] [I 19 (.build [(.int .u64 0),(.int .i64 0),(.int .i64 0),(.int .i64 0),(.int .i64 0),(.str []),.nils] []),I 20 (.w (.hide [(.s 6)]) (.ld true 7 (.s 4))),J (.w (.plain (.s 6)) (.st 7 (.s 6) (.s 19))),N 7 7 20,K 8 0])
def Zcz:PC :=
 (R [0,2,4,6,7,24] [M 21 2,T 22 7 4,I 23 (C QS [(.s 22)]),B 24 .eql 21 23])
def Zc0:PC :=
 (R [6,7,8] [T 25 7 4,I 26 (.build [(.int .u64 0),(.int .i64 0),(.int .i64 0),(.int .i64 0),(.int .i64 0),(.str []),.nils] []),N 7 6 25,N 7 7 26,K 8 0])
def Zc1:PC :=
 (R [0,2,4,6,7,29] [F 27 1 4,L 28 27,W 29 .eql 28 0])
def Zc2:PC :=
 (R [2,6,7,9,10] [M 31 0,T 32 7 4,I 33 (C ZBU [(.s 31),(.s 32)]),M 30 33,X 34 30 0,X 35 30 1,M 9 34,M 10 35])
def Zc3:PC :=
 (R [2,6,7,9,10,37] [M 36 10,W 37 .neq 36 0])
def Zc4:PC :=
 (R [6,7,8] [I 38 (.build [(.int .u64 0),(.int .i64 0),(.int .i64 0),(.int .i64 0),(.int .i64 0),(.str []),.nils] []),I 39 (.build [(.int .u64 0),(.int .i64 0),(.int .i64 0),(.int .i64 0),(.int .i64 0),(.str []),.nils] []),M 40 10,N 7 6 38,N 7 7 39,M 8 40])
def Zc5:PC :=
 (R [6,7,10,11,12] [M 42 9,M 43 2,I 44 (C ZHE [(.s 42),(.s 43)]),M 41 44,X 45 41 0,X 46 41 1,X 47 41 2,M 11 45,M 12 46,M 10 47])
def ZZU:PC :=
 (R [6,7,8] [M 48 11,I 49 (.build [(.int .u64 0),(.int .i64 0),(.int .i64 0),(.int .i64 0),(.int .i64 0),(.str []),.nils] [(5,1,(.s 48))]),M 50 12,I 51 (.build [(.int .u64 0),(.int .i64 0),(.int .i64 0),(.int .i64 0),(.int .i64 0),(.str []),.nils] [(5,1,(.s 50))]),M 52 10,N 7 6 49,N 7 7 51,M 8 52])
def ZZV:PC :=
 (R [0,2,6,7,8,13] [M 54 0,T 55 7 4,I 56 (C Yq [(.s 54),(.s 55)]),M 53 56,X 57 53 0,X 58 53 1,M 13 57,M 8 58])
def ZZW:PC :=
 (R [0,2,6,7,8,13,60] [M 59 8,W 60 .neq 59 0])
def ZZX:PC :=
 (R [6,7,8] [I 61 (.build [(.int .u64 0),(.int .i64 0),(.int .i64 0),(.int .i64 0),(.int .i64 0),(.str []),.nils] []),I 62 (.build [(.int .u64 0),(.int .i64 0),(.int .i64 0),(.int .i64 0),(.int .i64 0),(.str []),.nils] []),M 63 8,N 7 6 61,N 7 7 62,M 8 63])
def ZZY:PC :=
 (R [0,2,6,7,13,14] [K 14 0])
def ZZZ:PC :=
 (R [0,2,6,7,13,14,77] [M 64 14,W 65 .add 64 1,M 66 13,I 67 (.len 1 (.s 66)),B 68 .lss 65 67,M 69 68,U 70 69 true 2,U 71 69 true 13,U 72 69 true 14,G 73 69 true (.ixS 7 (.s 71) (.s 72)),G 74 69 true (.ld true 7 (.s 73)),G 75 69 true (C QS [(.s 74)]),G 76 69 true (.bin .geq (.s 70) (.s 75)),I 77 (.pick (.s 69) (.s 76) (.v (.bool false)))])
def ZZa:PC :=
 (R [0,2,6,7,13,14] [M 78 2,M 79 13,M 80 14,I 81 (.ixS 7 (.s 79) (.s 80)),T 82 7 81,I 83 (C QS [(.s 82)]),B 84 .sub 78 83,M 2 84])
def ZZb:PC :=
 (R [0,2,6,7,13,14] [M 85 14,W 86 .add 85 1,M 14 86])
def ZI4:PC :=
 (D (D ZZZ
 (E 77
 .skip
 (.exit 0)))
 (.block 1
 (D ZZa
 ZZb)))
def ZZc:PC :=
 (R [0,2,6,7,13,14,88] [M 87 2,W 88 .eql 87 0])
def ZZd:PC :=
 (R [6,7,8] [M 89 13,M 90 14,I 91 (.slc 7 (.s 89) none (some (.s 90))),I 92 (.call .pure (.v (.func (.func QL) [] [])) [(.s 91)]),M 93 13,M 94 14,I 95 (.slc 7 (.s 93) (some (.s 94)) none),I 96 (C QL [(.s 95)]),N 7 6 92,N 7 7 96,K 8 0])
def ZZe:PC :=
 (R [0,6,7,8,13,14,15,16] [M 98 0,M 99 13,M 100 14,I 101 (.ixS 7 (.s 99) (.s 100)),T 102 7 101,M 103 2,I 104 (C ZAI [(.s 98),(.s 102),(.s 103)]),M 97 104,X 105 97 0,X 106 97 1,X 107 97 2,I 15 (.box (.v ZT)),I 16 (.box (.v ZT)),N 7 15 105,N 7 16 106,M 8 107])
def ZZf:PC :=
 (R [0,6,7,8,13,14,15,16,109] [M 108 8,W 109 .neq 108 0])
def ZZg:PC :=
 (R [6,7,8] [I 110 (.build [(.int .u64 0),(.int .i64 0),(.int .i64 0),(.int .i64 0),(.int .i64 0),(.str []),.nils] []),I 111 (.build [(.int .u64 0),(.int .i64 0),(.int .i64 0),(.int .i64 0),(.int .i64 0),(.str []),.nils] []),M 112 8,N 7 6 110,N 7 7 111,M 8 112])
def ZZh:PC :=
 (R [0,6,7,8,13,14,16] [M 114 0,M 115 13,M 116 14,I 117 (.slc 7 (.s 115) none (some (.s 116))),I 118 (.call .pure (.v (.func (.func QL) [] [])) [(.s 117)]),T 119 7 15,I 120 (C YH [(.s 114),(.s 118),(.s 119)]),M 113 120,X 121 113 0,X 122 113 1,N 7 6 121,M 8 122])
def ZZi:PC :=
 (R [0,6,7,8,13,14,16,124] [M 123 8,W 124 .neq 123 0])
def ZZj:PC :=
 (R [6,7,8] [I 125 (.build [(.int .u64 0),(.int .i64 0),(.int .i64 0),(.int .i64 0),(.int .i64 0),(.str []),.nils] []),I 126 (.build [(.int .u64 0),(.int .i64 0),(.int .i64 0),(.int .i64 0),(.int .i64 0),(.str []),.nils] []),M 127 8,N 7 6 125,N 7 7 126,M 8 127])
def ZZk:PC :=
 (R [6,7,8] [M 129 0,T 130 7 16,M 131 13,M 132 14,W 133 .add 132 1,I 134 (.slc 7 (.s 131) (some (.s 133)) none),I 135 (.call .pure (.v (.func (.func QL) [] [])) [(.s 134)]),I 136 (C YH [(.s 129),(.s 130),(.s 135)]),M 128 136,X 137 128 0,X 138 128 1,N 7 7 137,M 8 138])
def ZZl:PC :=
 (R [6,7,8,140] [M 139 8,W 140 .neq 139 0])
def ZZm:PC :=
 (R [6,7,8] [I 141 (.build [(.int .u64 0),(.int .i64 0),(.int .i64 0),(.int .i64 0),(.int .i64 0),(.str []),.nils] []),I 142 (.build [(.int .u64 0),(.int .i64 0),(.int .i64 0),(.int .i64 0),(.int .i64 0),(.str []),.nils] []),M 143 8,N 7 6 141,N 7 7 142,M 8 143])
def ZZn:PC :=
 (R [6,7,8] [T 144 7 6,I 145 (.w (.hide [(.s 6)]) (.ld true 7 (.s 7))),J (.w (.plain (.s 6)) (.st 7 (.s 6) (.s 144))),N 7 7 145,K 8 0])
def ZWn:PF:=⟨false,
 (D Zcw
 (D (D Zcx
 (E 18
 (D Zcy
 .ret)
 .skip))
 (D (D Zcz
 (E 24
 (D Zc0
 .ret)
 .skip))
 (D (D Zc1
 (E 29
 (D Zc2
 (D (D Zc3
 (E 37
 (D Zc4
 .ret)
 .skip))
 (D Zc5
 (D ZZU
 .ret))))
 .skip))
 (D ZZV
 (D (D ZZW
 (E 60
 (D ZZX
 .ret)
 .skip))
 (D ZZY
 (D (.block 0
 (.loop ZI4))
 (D (D ZZc
 (E 88
 (D ZZd
 .ret)
 .skip))
 (D ZZe
 (D (D ZZf
 (E 109
 (D ZZg
 .ret)
 .skip))
 (D (D ZZh
 (D ZZi
 (E 124
 (D ZZj
 .ret)
 .skip)))
 (D (D ZZk
 (D ZZl
 (E 140
 (D ZZm
 .ret)
 .skip)))
 (D ZZn
 .ret)))))))))))))),
 [.c 6 true 7,.c 7 true 7,.s 8]⟩
theorem Zgm:Zv Proofs.Try.prog false Zgl Proofs.Try.f64=some ZWn:=by kernel_rfl
def Zgn:List Hint:=[H [1,2],H [1,2,9],H [1,2],H [2],H [1,2,3],H [1,2,3,17,18,19],H [1,2,3,17,18,19,20],H [1,2,3,4,5,17,18,19],H [1,2,3,17,18,19],H [1,2,3,17,18,19],H [1,2],H [2]]
def Zc6:PC :=
 (R [1,2] [I 1 (.box (.s 0)),I 2 (.box (.v ZT))])
def Zc7:PC :=
 (R [1,2,9] [F 6 6 1,L 7 6,I 8 (.len 1 (.s 7)),W 9 .eql 8 0])
def Zc8:PC :=
 (R [1,2] [F 10 6 1,J (.st 1 (.s 10) (.v .nils))])
def Zc9:PC :=
 (R [2] [T 11 7 1,N 7 2 11])
def ZdA:PC :=
 (R [1,2,3] [F 12 6 1,L 13 12,I 14 (.len 1 (.s 13)),I 15 (.mkslice 7 80 ZT (.s 14) (.s 14)),M 3 15])
def ZdB:PC :=
 (R [1,2,3,17,18,19] [F 16 6 1,L 17 16,I 18 (.len 1 (.s 17)),K 19 0])
def ZdC:PC :=
 (R [1,2,3,17,18,19,20] [B 20 .lss 19 18])
def ZdD:PC :=
 (R [1,2,3,4,5,17,18,19] [M 21 19,I 22 (.ixS 7 (.s 17) (.s 19)),T 23 7 22,I 5 (.box (.v ZT)),M 4 21,N 7 5 23])
def ZdE:PC :=
 (R [1,2,3,17,18,19] [M 24 3,M 25 4,T 26 7 5,I 27 (C XT [(.s 26)]),I 28 (.ixS 7 (.s 24) (.s 25)),N 7 28 27])
def ZdF:PC :=
 (R [1,2,3,17,18,19] [W 29 .add 19 1,M 19 29])
def ZZo:PC :=
 (D ZdC
 (D (E 20
 .skip
 (.exit 0))
 (D (.block 1
 (D ZdD
 ZdE))
 ZdF)))
def ZZp:PC :=
 (R [1,2] [M 30 3,F 31 6 1,N 1 31 30])
def ZZq:PC :=
 (R [2] [T 32 7 1,N 7 2 32])
def ZWo:PF:=⟨false,
 (D Zc6
 (D (D Zc7
 (E 9
 (D Zc8
 (D Zc9
 .ret))
 .skip))
 (D ZdA
 (D (D ZdB
 (.block 0
 (.loop ZZo)))
 (D ZZp
 (D ZZq
 .ret)))))),
 [.c 2 true 7]⟩
theorem Zgo:Zv Proofs.Try.prog false Zgn Proofs.Try.f65=some ZWo:=by kernel_rfl
def Zey:List Hint:=[H [0,3,5,6],H [0,3,5,6,14,15,16],H [0,3,5,6,14,15,16,17],H [0,3,5,6,10,14,15,16],H [0,3,5,6,11,14,15,16],H [0,3,5,6,11,14,15,16,24],H [8],H [0,3,5,6,14,15,16],H [5,6,38],H [8],⟨[44],[],[(1,.pure)],[],[],[]⟩,H [8],H [8]]
def ZZr:PC :=
 (R [0,3,5,6] [I 5 (.box (.s 1)),I 6 (.box (.s 2)),K 8 0])
def ZZs:PC :=
 (R [0,3,5,6,14,15,16] [T 12 7 5,T 13 7 6,I 14 (.bslice false 7 [ZT,ZT] [(0,(.s 12)),(1,(.s 13))]),I 15 (.len 1 (.s 14)),K 16 0])
def ZZt:PC :=
 (R [0,3,5,6,14,15,16,17] [B 17 .lss 16 15])
def ZZu:PC :=
 (R [0,3,5,6,10,14,15,16] [I 18 (.ixS 7 (.s 14) (.s 16)),T 19 7 18,I 10 (.box (.v ZT)),N 7 10 19])
def ZZv:PC :=
 (R [0,3,5,6,11,14,15,16] [M 20 0,T 21 7 10,I 22 (C Jd [(.s 20),(.s 21)]),M 11 22])
def ZZw:PC :=
 (R [0,3,5,6,11,14,15,16,24] [M 23 11,W 24 .neq 23 0])
def ZZx:PC :=
 (R [8] [M 25 11,M 8 25])
def ZZy:PC :=
 (R [0,3,5,6,14,15,16] [W 26 .add 16 1,M 16 26])
def ZZz:PC :=
 (D ZZt
 (D (E 17
 .skip
 (.exit 0))
 (D (.block 1
 (D ZZu
 (D ZZv
 (D ZZw
 (E 24
 (D ZZx
 .ret)
 .skip)))))
 ZZy)))
def ZZ0:PC :=
 (R [5,6,38] [M 27 3,I 28 (.un .not (.s 27)),M 29 28,G 30 29 true (.ld true 7 (.s 5)),G 31 29 true (C Qe [(.s 30)]),G 32 29 true (.bin .eql (.s 31) (V 1)),U 33 29 true 32,G 34 33 false (.ld true 7 (.s 6)),G 35 33 false (C Qe [(.s 34)]),G 36 33 false (.bin .eql (.s 35) (V 1)),G 37 29 true (.pick (.s 33) (.v (.bool true)) (.s 36)),I 38 (.pick (.s 29) (.s 37) (.v (.bool false)))])
def ZWp:PC :=
 (R [8] [K 8 2])
def ZWq:PC :=
 (R [44] [T 39 7 5,I 40 (.call .pure (.v (.func (.func QS) [] [])) [(.s 39)]),T 41 7 6,I 42 (C QS [(.s 41)]),B 43 .add 40 42,W 44 .gtr 43 65536])
def ZWr:PC :=
 (R [8] [K 8 5])
def ZWs:PC :=
 (R [8] [K 8 0])
def ZQn:PF:=⟨false,
 (D ZZr
 (D (D ZZs
 (.block 0
 (.loop ZZz)))
 (D (D ZZ0
 (E 38
 (D ZWp
 .ret)
 .skip))
 (D (D ZWq
 (E 44
 (D ZWr
 .ret)
 .skip))
 (D ZWs
 .ret))))),
 [.s 8]⟩
theorem Zez:Zv Proofs.Try.prog false Zey Proofs.Try.f66=some ZQn:=by kernel_rfl
def ZZ1:List Hint:=[H [0,4,5,6],H [0,4,5,6,12],H [6,7],H [0,4,5,6,16],H [6,7],H [6,8,9],H [6,8,9,26],H [6,7],H [6,7]]
def ZSa:PC :=
 (R [0,4,5,6] [I 4 (.box (.s 1)),I 5 (.box (.s 2)),I 6 (.box (.v ZT)),K 7 0])
def ZSb:PC :=
 (R [0,4,5,6,12] [T 10 7 4,I 11 (C Qe [(.s 10)]),W 12 .eql 11 1])
def ZSc:PC :=
 (R [6,7] [T 13 7 5,N 7 6 13,K 7 0])
def ZSd:PC :=
 (R [0,4,5,6,16] [T 14 7 5,I 15 (C Qe [(.s 14)]),W 16 .eql 15 1])
def ZSe:PC :=
 (R [6,7] [T 17 7 4,N 7 6 17,K 7 0])
def ZSf:PC :=
 (R [6,8,9] [M 19 0,T 20 7 4,T 21 7 5,I 22 (C ZAh [(.s 19),(.s 20),(.s 21)]),M 18 22,X 23 18 0,X 24 18 1,M 8 23,M 9 24])
def ZSg:PC :=
 (R [6,8,9,26] [M 25 9,W 26 .neq 25 0])
def ZSh:PC :=
 (R [6,7] [I 27 (.build [(.int .u64 0),(.int .i64 0),(.int .i64 0),(.int .i64 0),(.int .i64 0),(.str []),.nils] []),M 28 9,N 7 6 27,M 7 28])
def ZSi:PC :=
 (R [6,7] [M 29 8,I 30 (C QL [(.s 29)]),N 7 6 30,K 7 0])
def ZI5:PF:=⟨false,
 (D ZSa
 (D (D ZSb
 (E 12
 (D ZSc
 .ret)
 .skip))
 (D (D ZSd
 (E 16
 (D ZSe
 .ret)
 .skip))
 (D ZSf
 (D (D ZSg
 (E 26
 (D ZSh
 .ret)
 .skip))
 (D ZSi
 .ret)))))),
 [.c 6 true 7,.s 7]⟩
theorem ZZ2:Zv Proofs.Try.prog false ZZ1 Proofs.Try.f67=some ZI5:=by kernel_rfl
def Ze0:List Hint:=[H [1],H [1,3],H [1,3,13],H [2],H [1,3,31],H [2],H [1,3,46],H [2],H [65],H [2],H [2]]
def ZZ3:PC :=
 (R [1] [I 1 (.box (.s 0)),K 2 0])
def ZZ4:PC :=
 (R [1,3] [F 4 2 1,T 5 3 4,I 6 (.build [(.int .i64 0),(.int .i64 0),(.int .i64 0)] []),I 7 (.eqs false 0 [(0,0),(1,0),(2,0)] (.s 5) (.s 6)),M 8 7,G 9 8 true (.fadr 0 (.s 1)),G 10 8 true (.ld false 1 (.s 9)),G 11 8 true (.bin .eql (.s 10) (.v (.int .u64 0))),I 12 (.pick (.s 8) (.s 11) (.v (.bool false))),M 3 12])
def ZZ5:PC :=
 (R [1,3,13] [M 14 3,M 15 14,G 16 15 true (.fadr 1 (.s 1)),G 17 15 true (.ld false 1 (.s 16)),G 18 15 true (.bin .eql (.s 17) (V 0)),I 19 (.pick (.s 15) (.s 18) (.v (.bool false))),M 20 19,G 21 20 true (.fadr 5 (.s 1)),G 22 20 true (.ld false 1 (.s 21)),G 23 20 true (.bin .eql (.s 22) (.v (.str []))),I 24 (.pick (.s 20) (.s 23) (.v (.bool false))),M 25 24,G 26 25 true (.fadr 6 (.s 1)),G 27 25 true (.ld false 1 (.s 26)),G 28 25 true (.len 1 (.s 27)),G 29 25 true (.bin .eql (.s 28) (V 0)),I 30 (.pick (.s 25) (.s 29) (.v (.bool false))),M 13 30])
def ZZ6:PC :=
 (R [2] [K 2 1])
def ZZ7:PC :=
 (R [1,3,31] [F 32 0 1,L 33 32,I 34 (.bin .neq (.s 33) (.v (.int .u64 0))),M 35 34,G 36 35 true (.fadr 5 (.s 1)),G 37 35 true (.ld false 1 (.s 36)),G 38 35 true (.bin .eql (.s 37) (.v (.str []))),I 39 (.pick (.s 35) (.s 38) (.v (.bool false))),M 40 39,G 41 40 true (.fadr 6 (.s 1)),G 42 40 true (.ld false 1 (.s 41)),G 43 40 true (.len 1 (.s 42)),G 44 40 true (.bin .eql (.s 43) (V 0)),I 45 (.pick (.s 40) (.s 44) (.v (.bool false))),M 31 45])
def ZZ8:PC :=
 (R [2] [K 2 2])
def ZZ9:PC :=
 (R [1,3,46] [M 47 3,M 48 47,G 49 48 true (.fadr 1 (.s 1)),G 50 48 true (.ld false 1 (.s 49)),G 51 48 true (.bin .eql (.s 50) (V 0)),I 52 (.pick (.s 48) (.s 51) (.v (.bool false))),M 53 52,G 54 53 true (.fadr 6 (.s 1)),G 55 53 true (.ld false 1 (.s 54)),G 56 53 true (.len 1 (.s 55)),G 57 53 true (.bin .eql (.s 56) (V 0)),I 58 (.pick (.s 53) (.s 57) (.v (.bool false))),M 59 58,G 60 59 true (.fadr 5 (.s 1)),G 61 59 true (.ld false 1 (.s 60)),G 62 59 true (.len 0 (.s 61)),G 63 59 true (.bin .leq (.s 62) (V 16)),I 64 (.pick (.s 59) (.s 63) (.v (.bool false))),M 46 64])
def ZaA:PC :=
 (R [2] [K 2 3])
def ZaB:PC :=
 (R [65] [M 66 3,M 67 66,G 68 67 true (.fadr 5 (.s 1)),G 69 67 true (.ld false 1 (.s 68)),G 70 67 true (.bin .eql (.s 69) (.v (.str []))),I 71 (.pick (.s 67) (.s 70) (.v (.bool false))),M 72 71,G 73 72 true (.fadr 1 (.s 1)),G 74 72 true (.ld false 1 (.s 73)),G 75 72 true (.bin .geq (.s 74) (V 1)),I 76 (.pick (.s 72) (.s 75) (.v (.bool false))),M 77 76,G 78 77 true (.fadr 1 (.s 1)),G 79 77 true (.ld false 1 (.s 78)),G 80 77 true (.bin .leq (.s 79) (V 16)),I 81 (.pick (.s 77) (.s 80) (.v (.bool false))),M 82 81,G 83 82 true (.fadr 6 (.s 1)),G 84 82 true (.ld false 1 (.s 83)),G 85 82 true (.len 1 (.s 84)),G 86 82 true (.bin .geq (.s 85) (V 2)),I 87 (.pick (.s 82) (.s 86) (.v (.bool false))),M 88 87,G 89 88 true (.fadr 6 (.s 1)),G 90 88 true (.ld false 1 (.s 89)),G 91 88 true (.len 1 (.s 90)),G 92 88 true (.bin .leq (.s 91) (V 4)),I 93 (.pick (.s 88) (.s 92) (.v (.bool false))),M 65 93])
def ZaC:PC :=
 (R [2] [K 2 4])
def ZWt:PC :=
 (R [2] [K 2 0])
def ZQo:PF:=⟨false,
 (D ZZ3
 (D ZZ4
 (D (.block 0
 (D ZZ5
 (E 13
 (D ZZ6
 .ret)
 (D ZZ7
 (E 31
 (D ZZ8
 .ret)
 (D ZZ9
 (E 46
 (D ZaA
 .ret)
 (D ZaB
 (E 65
 (D ZaC
 .ret)
 .skip)))))))))
 (D ZWt
 .ret)))),
 [.s 2]⟩
theorem Ze1:Zv Proofs.Try.prog false Ze0 Proofs.Try.f68=some ZQo:=by kernel_rfl
def ZdG:List Hint:=[H [0,2,3,5],H [0,2,3,5,9],H [0,2,5,9,30],H [8],H [0,2,5,32],H [0,2,5,10],H [0,2,5,10,42],H [8],H [0,5,54],H [8],H [0,5,56,57,58],H [0,5,56,57,58,59],H [0,5,12,56,57,58],H [0,5,13,56,57,58],H [0,5,13,56,57,58,69],H [8],H [0,5,56,57,58],H [8]]
def ZWu:PC :=
 (R [0,2,3,5] [I 5 (.box (.s 1)),K 8 0])
def ZWv:PC :=
 (R [0,2,3,5,9] [T 14 7 5,I 15 (C Qe [(.s 14)]),M 9 15])
def ZWw:PC :=
 (R [0,2,5,9,30] [M 16 9,W 17 .eql 16 0,M 18 17,U 19 18 false 9,G 20 18 false (.bin .eql (.s 19) (V 1)),I 21 (.pick (.s 18) (.v (.bool true)) (.s 20)),M 22 21,U 23 22 false 2,U 24 22 false 23,G 25 24 true (.fadr 1 (.s 5)),G 26 24 true (.ld false 1 (.s 25)),U 27 24 true 3,G 28 24 true (.bin .neq (.s 26) (.s 27)),G 29 22 false (.pick (.s 24) (.s 28) (.v (.bool false))),I 30 (.pick (.s 22) (.v (.bool true)) (.s 29))])
def ZWx:PC :=
 (R [8] [K 8 23])
def ZWy:PC :=
 (R [0,2,5,32] [M 31 9,W 32 .eql 31 2])
def ZWz:PC :=
 (R [0,2,5,10] [M 33 0,F 34 0 5,L 35 34,F 36 1 5,L 37 36,F 38 2 5,T 39 3 38,I 40 (C ZDc [(.s 33),(.s 35),(.s 37),(.s 39)]),M 10 40])
def ZW0:PC :=
 (R [0,2,5,10,42] [M 41 10,W 42 .neq 41 0])
def ZW1:PC :=
 (R [8] [M 43 10,M 8 43])
def ZW2:PC :=
 (R [0,5,54] [M 44 2,M 45 44,G 46 45 true (.fadr 1 (.s 5)),G 47 45 true (.ld false 1 (.s 46)),G 48 45 true (.bin .eql (.s 47) (V 0)),I 49 (.pick (.s 45) (.s 48) (.v (.bool false))),M 50 49,G 51 50 true (.ld true 7 (.s 5)),G 52 50 true (C QS [(.s 51)]),G 53 50 true (.bin .lss (.s 52) (V 8)),I 54 (.pick (.s 50) (.s 53) (.v (.bool false)))])
def ZW3:PC :=
 (R [8] [K 8 23])
def ZSj:PC :=
 (R [0,5,56,57,58] [F 55 6 5,L 56 55,I 57 (.len 1 (.s 56)),K 58 0])
def ZSk:PC :=
 (R [0,5,56,57,58,59] [B 59 .lss 58 57])
def ZSl:PC :=
 (R [0,5,12,56,57,58] [I 60 (.ixS 7 (.s 56) (.s 58)),T 61 7 60,I 12 (.box (.v ZT)),N 7 12 61])
def ZSm:PC :=
 (R [0,5,13,56,57,58] [M 62 0,T 63 7 12,F 64 1 5,L 65 64,W 66 .sub 65 1,I 67 (C ZBy [(.s 62),(.s 63),(.v (.bool true)),(.s 66)]),M 13 67])
def ZSn:PC :=
 (R [0,5,13,56,57,58,69] [M 68 13,W 69 .neq 68 0])
def ZSo:PC :=
 (R [8] [M 70 13,M 8 70])
def ZSp:PC :=
 (R [0,5,56,57,58] [W 71 .add 58 1,M 58 71])
def ZGM:PC :=
 (D ZSk
 (D (E 59
 .skip
 (.exit 0))
 (D (.block 1
 (D ZSl
 (D ZSm
 (D ZSn
 (E 69
 (D ZSo
 .ret)
 .skip)))))
 ZSp)))
def ZSq:PC :=
 (R [8] [K 8 0])
def ZMR:PF:=⟨false,
 (D ZWu
 (D ZWv
 (D (D ZWw
 (E 30
 (D ZWx
 .ret)
 .skip))
 (D (D ZWy
 (E 32
 (D ZWz
 (D ZW0
 (E 42
 (D ZW1
 .ret)
 .skip)))
 .skip))
 (D (D ZW2
 (E 54
 (D ZW3
 .ret)
 .skip))
 (D (D ZSj
 (.block 0
 (.loop ZGM)))
 (D ZSq
 .ret))))))),
 [.s 8]⟩
theorem ZdH:Zv Proofs.Try.prog false ZdG Proofs.Try.f69=some ZMR:=by kernel_rfl
def ZaD:List Hint:=[H [1,2,3,4],H [1,2,3,4,16],H [2,3,4],H [3,4],H [3,26,27,28],H [3,26,27,28,29],H [3,6,26,27,28],H [3,26,27,28],H [3,26,27,28]]
def ZSr:PC :=
 (R [1,2,3,4] [I 4 (.box (.s 0))])
def ZSs:PC :=
 (R [1,2,3,4,16] [F 7 0 4,L 8 7,I 9 (.bin .neq (.s 8) (.v (.int .u64 0))),M 10 9,G 11 10 true (.ld false 1 (.s 1)),G 12 10 true (.fadr 0 (.s 4)),G 13 10 true (.ld false 1 (.s 12)),G 14 10 true (.look 0 (.bool false) false (.s 11) (.s 13)),G 15 10 true (.un .not (.s 14)),I 16 (.pick (.s 10) (.s 15) (.v (.bool false)))])
def ZSt:PC :=
 (R [2,3,4] [L 17 1,F 18 0 4,L 19 18,J (.mupd 0 (.s 17) (.s 19) (.v (.bool true)))])
def ZSu:PC :=
 (R [3,4] [L 20 2,F 21 0 4,L 22 21,I 23 (.bslice false 1 [(.int .u64 0)] [(0,(.s 22))]),I 24 (.app 1 8 (.s 20) (.s 23)),N 1 2 24])
def ZGN:PC :=
 (R [3,26,27,28] [F 25 6 4,L 26 25,I 27 (.len 1 (.s 26)),K 28 0])
def ZSv:PC :=
 (R [3,26,27,28,29] [B 29 .lss 28 27])
def ZSw:PC :=
 (R [3,6,26,27,28] [I 30 (.ixS 7 (.s 26) (.s 28)),T 31 7 30,I 6 (.box (.v ZT)),N 7 6 31])
def ZSx:PC :=
 (R [3,26,27,28] [L 32 3,T 33 7 6,I 34 (.call .norm (.s 32) [(.s 33)])])
def ZSy:PC :=
 (R [3,26,27,28] [W 35 .add 28 1,M 28 35])
def ZBk:PC :=
 (D ZSv
 (D (E 29
 .skip
 (.exit 0))
 (D (.block 1
 (D ZSw
 ZSx))
 ZSy)))
def ZI6:PF:=⟨false,
 (D ZSr
 (D (D ZSs
 (E 16
 (D ZSt
 ZSu)
 .skip))
 (D ZGN
 (.block 0
 (.loop ZBk))))),
 []⟩
theorem ZaE:Zv Proofs.Try.prog false ZaD Proofs.Try.f70=some ZI6:=by kernel_rfl
def ZdI:List Hint:=[H [2,3],H [4]]
def ZW4:PC :=
 (R [2,3] [I 2 (.box (.s 0)),I 3 (.box (.s 1)),I 4 (.mv (.v .nilfunc))])
def ZW5:PC :=
 (R [4] [I 5 (.mkf (.func JO) [] [(.s 2),(.s 3)]),M 4 5])
def ZMS:PF:=⟨true,
 (D ZW4
 (D ZW5
 .ret)),
 [.s 4]⟩
theorem ZdJ:Zv Proofs.Try.prog true ZdI Proofs.Try.f71=some ZMS:=by kernel_rfl
def ZSz:List Hint:=[H [0,1,2],H [1,2,9],H [4],H [4]]
def ZMT:PC :=
 (R [0,1,2] [K 4 0])
def ZMU:PC :=
 (R [1,2,9] [M 5 0,L 6 1,L 7 2,B 8 .rem 6 7,B 9 .lss 5 8])
def ZMV:PC :=
 (R [4] [L 10 1,L 11 2,B 12 .quo 10 11,W 13 .add 12 1,M 4 13])
def ZMW:PC :=
 (R [4] [L 14 1,L 15 2,B 16 .quo 14 15,M 4 16])
def ZGO:PF:=⟨false,
 (D ZMT
 (D (D ZMU
 (E 9
 (D ZMV
 .ret)
 .skip))
 (D ZMW
 .ret))),
 [.s 4]⟩
theorem ZS0:Zv Proofs.Try.prog false ZSz Proofs.Try.f72=some ZGO:=by kernel_rfl
def ZHe:List Hint:=[H [0],H [0,7],H [2],H [0,3],H [3],H [3,4,5],H [3,4,5,25],H [3,4,5],H [3,4,5],H [2]]
def ZFW:PC :=
 (R [0] [I 2 (.mv (.v .nils))])
def ZFX:PC :=
 (R [0,7] [M 6 0,I 7 (.eqs false 3 [] (.s 6) (.v .nilptr))])
def ZFY:PC :=
 (R [2] [I 2 (.mv (.v .nils))])
def ZFZ:PC :=
 (R [0,3] [M 8 0,I 9 (.nilck (.s 8)),F 10 0 9,L 11 10,I 12 (.len 1 (.s 11)),I 13 (.mkslice 1 8 (.int .i64 0) (.s 12) (.s 12)),M 3 13])
def ZFa:PC :=
 (R [3] [M 14 3,M 15 0,I 16 (.nilck (.s 15)),F 17 0 16,L 18 17,I 19 (.cpy 1 (.s 14) (.s 18))])
def ZFb:PC :=
 (R [3,4,5] [M 20 3,I 21 (.len 1 (.s 20)),W 22 .sub 21 1,K 4 0,M 5 22])
def ZFc:PC :=
 (R [3,4,5,25] [M 23 4,M 24 5,B 25 .lss 23 24])
def ZFd:PC :=
 (R [3,4,5] [M 30 3,M 31 4,M 32 3,M 33 5,M 34 3,M 35 5,I 36 (.ixS 1 (.s 34) (.s 35)),L 37 36,M 38 3,M 39 4,I 40 (.ixS 1 (.s 38) (.s 39)),L 41 40,I 42 (.ixS 1 (.s 30) (.s 31)),N 1 42 37,I 43 (.ixS 1 (.s 32) (.s 33)),N 1 43 41])
def ZFe:PC :=
 (R [3,4,5] [M 26 4,W 27 .add 26 1,M 28 5,W 29 .sub 28 1,M 4 27,M 5 29])
def ZFf:PC :=
 (D (D ZFc
 (E 25
 .skip
 (.exit 0)))
 (D (.block 1
 ZFd)
 ZFe))
def ZEu:PC :=
 (R [2] [M 44 3,M 2 44])
def ZBV:PF:=⟨false,
 (D ZFW
 (D (D ZFX
 (E 7
 (D ZFY
 .ret)
 .skip))
 (D ZFZ
 (D ZFa
 (D (D ZFb
 (.block 0
 (.loop ZFf)))
 (D ZEu
 .ret)))))),
 [.s 2]⟩
theorem ZHf:Zv Proofs.Try.prog false ZHe Proofs.Try.f73=some ZBV:=by kernel_rfl
def ZDU:List Hint:=[H [0],H [2]]
def ZCA:PC :=
 (R [0] [I 2 (.mv (.v .nils))])
def ZCB:PC :=
 (R [2] [M 3 0,I 4 (C Jy [(.s 3),(.v (.int .u8 2))]),M 2 4])
def Xm:PF:=⟨false,
 (D ZCA
 (D ZCB
 .ret)),
 [.s 2]⟩
theorem ZDV:Zv Proofs.Try.prog false ZDU Proofs.Try.f74=some Xm:=by kernel_rfl
def ZW6:List Hint:=[H [3,4,5],⟨[],[6],[],[],[(0,(.only (.s 3))),(7,(.grow (.s 3)))],[]⟩]
def ZPV:PC :=
 (R [3,4,5] [I 3 (.box (.s 0)),I 4 (.box (.s 1)),I 5 (.box (.s 2))])
def ZPW:PC :=
 (R [] [I 6 (.w (.only (.s 3)) (.ld false 1 (.s 3))),L 7 3,I 8 (.nilck (.s 7)),F 9 1 8,L 10 9,I 11 (.mkf (.func Xi) [] [(.s 3),(.s 5),(.s 4)]),I 12 (.bslice true 1 [.nilfunc] [(0,(.s 11))]),I 13 (.w (.grow (.s 3)) (.app 1 8 (.s 10) (.s 12))),I 14 (.nilck (.s 6)),F 15 1 14,N 1 15 13])
def ZHg:PF:=⟨true,
 (D ZPV
 ZPW),
 []⟩
theorem ZW7:Zv Proofs.Try.prog true ZW6 Proofs.Try.f75=some ZHg:=by kernel_rfl
def ZPX:List Hint:=[H [0,1],H [1]]
def ZJo:PC :=
 (R [0,1] [I 1 (.box (.v ZN))])
def ZJp:PC :=
 (R [1] [T 2 3 0,N 3 1 2])
def ZEv:PF:=⟨false,
 (D ZJo
 (D ZJp
 .ret)),
 [.c 1 true 3]⟩
theorem ZPY:Zv Proofs.Try.prog false ZPX Proofs.Try.f76=some ZEv:=by kernel_rfl
def ZPZ:List Hint:=[H [0,1,2],H [1,2,3],H [2,3,9,10,11],H [2,3,9,10,11,12],H [2,3,5,9,10,11],⟨[2,3,9,10,11],[],[],[],[(11,.imm)],[]⟩,H [2,3,9,10,11],H [2]]
def ZJq:PC :=
 (R [0,1,2] [I 2 (.box (.v ZN))])
def ZJr:PC :=
 (R [1,2,3] [F 6 1 0,L 7 6,I 8 (.build [(.int .i64 0),(.str []),.nils] [(0,1,(.s 7))]),I 3 (.box (.v ZN)),N 3 3 8])
def ZJs:PC :=
 (R [2,3,9,10,11] [L 9 1,I 10 (.len 1 (.s 9)),K 11 0])
def ZJt:PC :=
 (R [2,3,9,10,11,12] [B 12 .lss 11 10])
def ZJu:PC :=
 (R [2,3,5,9,10,11] [I 13 (.ixS 1 (.s 9) (.s 11)),L 14 13,M 5 14])
def ZJv:PC :=
 (R [2,3,9,10,11] [F 15 2 3,L 16 15,M 17 5,I 18 (.nilck (.s 17)),F 19 0 18,L 20 19,M 21 5,I 22 (.nilck (.s 21)),F 23 2 22,T 24 3 23,I 25 (.build [(.int .u64 0),(.int .i64 0),(.int .i64 0),(.int .i64 0)] [(0,1,(.s 20)),(1,3,(.s 24))]),I 26 (.w .imm (.bslice false 4 [ZK] [(0,(.s 25))])),I 27 (.app 4 32 (.s 16) (.s 26)),F 28 2 3,N 1 28 27])
def ZJw:PC :=
 (R [2,3,9,10,11] [W 29 .add 11 1,M 11 29])
def ZJx:PC :=
 (D ZJt
 (D (E 12
 .skip
 (.exit 0))
 (D (.block 1
 (D ZJu
 ZJv))
 ZJw)))
def ZJy:PC :=
 (R [2] [T 30 3 3,N 3 2 30])
def ZEw:PF:=⟨false,
 (D ZJq
 (D ZJr
 (D (D ZJs
 (.block 0
 (.loop ZJx)))
 (D ZJy
 .ret)))),
 [.c 2 true 3]⟩
theorem ZPa:Zv Proofs.Try.prog false ZPZ Proofs.Try.f77=some ZEw:=by kernel_rfl
def ZdK:List Hint:=[H [1],H [1,5],H [2],H [9],H [2],H [2]]
def ZW8:PC :=
 (R [1] [I 1 (.box (.s 0)),K 2 0])
def ZW9:PC :=
 (R [1,5] [T 3 3 1,I 4 (C ZBM [(.s 3)]),I 5 (.un .not (.s 4))])
def ZXA:PC :=
 (R [2] [K 2 23])
def ZXB:PC :=
 (R [9] [T 6 3 1,I 7 (C ZCi [(.s 6)]),I 8 (.fld false 0 1 (.s 7)),W 9 .gtr 8 65536])
def ZXC:PC :=
 (R [2] [K 2 5])
def ZXD:PC :=
 (R [2] [K 2 0])
def ZMX:PF:=⟨false,
 (D ZW8
 (D (D ZW9
 (E 5
 (D ZXA
 .ret)
 .skip))
 (D (D ZXB
 (E 9
 (D ZXC
 .ret)
 .skip))
 (D ZXD
 .ret)))),
 [.s 2]⟩
theorem ZdL:Zv Proofs.Try.prog false ZdK Proofs.Try.f78=some ZMX:=by kernel_rfl
def Zgp:List Hint:=[H [1,2],H [1,2,8],H [2],⟨[1,2,3],[0],[],[],[],[]⟩,H [2,3,13,14,15],H [2,3,13,14,15,16],H [2,3,5,13,14,15],H [2,3,13,14,15],H [2,3,13,14,15],H [2]]
def ZdM:PC :=
 (R [1,2] [I 1 (.box (.s 0)),I 2 (.box (.v ZM))])
def ZdN:PC :=
 (R [1,2,8] [F 6 0 1,L 7 6,W 8 .eql 7 0])
def ZdO:PC :=
 (R [2] [F 9 1 1,L 10 9,I 11 (C ZFU [(.s 10)]),N 3 2 11])
def ZdP:PC :=
 (R [1,2,3] [I 3 (.onil 3)])
def ZdQ:PC :=
 (R [2,3,13,14,15] [F 12 2 1,L 13 12,I 14 (.len 1 (.s 13)),K 15 0])
def ZdR:PC :=
 (R [2,3,13,14,15,16] [B 16 .lss 15 14])
def ZdS:PC :=
 (R [2,3,5,13,14,15] [I 17 (.ixS 4 (.s 13) (.s 15)),T 18 4 17,I 5 (.box (.v ZK)),N 4 5 18])
def ZdT:PC :=
 (R [2,3,13,14,15] [M 19 3,F 20 1 5,T 21 3 20,I 22 (.bslice false 3 [ZM] [(0,(.s 21))]),I 23 (.app 3 24 (.s 19) (.s 22)),M 3 23])
def ZdU:PC :=
 (R [2,3,13,14,15] [W 24 .add 15 1,M 15 24])
def ZdV:PC :=
 (D ZdR
 (D (E 16
 .skip
 (.exit 0))
 (D (.block 1
 (D ZdS
 ZdT))
 ZdU)))
def ZaF:PC :=
 (R [2] [M 25 3,I 26 (C ZDx [(.s 25)]),N 3 2 26])
def ZXE:PF:=⟨false,
 (D ZdM
 (D (D ZdN
 (E 8
 (D ZdO
 .ret)
 .skip))
 (D ZdP
 (D (D ZdQ
 (.block 0
 (.loop ZdV)))
 (D ZaF
 .ret))))),
 [.c 2 true 3]⟩
theorem Zgq:Zv Proofs.Try.prog false Zgp Proofs.Try.f79=some ZXE:=by kernel_rfl
def Ze2:List Hint:=[H [0,3],H [0,3,10],H [4,5],H [6,7],H [4,5]]
def ZaG:PC :=
 (R [0,3] [I 3 (.box (.s 1)),I 4 (.mv (.v (.str []))),K 5 0])
def ZaH:PC :=
 (R [0,3,10] [F 8 0 3,L 9 8,I 10 (.bin .eql (.s 9) (.v (.int .u64 0)))])
def ZaI:PC :=
 (R [4,5] [F 11 5 3,L 12 11,M 4 12,K 5 0])
def ZaJ:PC :=
 (R [6,7] [M 14 0,F 15 0 3,L 16 15,I 17 (C QN [(.s 14),(.s 16)]),M 13 17,X 18 13 0,X 19 13 1,I 6 (.box (.v ZN)),N 3 6 18,M 7 19])
def ZaK:PC :=
 (R [4,5] [F 20 1 6,L 21 20,M 22 7,M 4 21,M 5 22])
def ZQp:PF:=⟨false,
 (D ZaG
 (D (D ZaH
 (E 10
 (D ZaI
 .ret)
 .skip))
 (D ZaJ
 (D ZaK
 .ret)))),
 [.s 4,.s 5]⟩
theorem Ze3:Zv Proofs.Try.prog false Ze2 Proofs.Try.f80=some ZQp:=by kernel_rfl
def Ze4:List Hint:=[H [0,1],H [0,1,9],H [4,5,6],H [0,1,17],H [4,5,6],H [4,5,6]]
def ZaL:PC :=
 (R [0,1] [I 4 (.mv (.v (.str []))),I 5 (.mv (.v (.str []))),K 6 0])
def ZaM:PC :=
 (R [0,1,9] [M 7 0,I 8 (C ZAi [(.s 7)]),I 9 (.un .not (.s 8))])
def ZaN:PC :=
 (R [4,5,6] [I 4 (.mv (.v (.str []))),I 5 (.mv (.v (.str []))),K 6 2])
def ZaO:PC :=
 (R [0,1,17] [M 10 1,W 11 .lss 10 0,M 12 11,U 13 12 false 1,U 14 12 false 0,G 15 12 false (.len 0 (.s 14)),G 16 12 false (.bin .gtr (.s 13) (.s 15)),I 17 (.pick (.s 12) (.v (.bool true)) (.s 16))])
def ZaP:PC :=
 (R [4,5,6] [I 4 (.mv (.v (.str []))),I 5 (.mv (.v (.str []))),K 6 3])
def ZaQ:PC :=
 (R [4,5,6] [M 18 0,M 19 1,I 20 (.slcS (.s 18) none (some (.s 19))),M 21 0,M 22 1,I 23 (.slcS (.s 21) (some (.s 22)) none),M 4 20,M 5 23,K 6 0])
def ZQq:PF:=⟨false,
 (D ZaL
 (D (D ZaM
 (E 9
 (D ZaN
 .ret)
 .skip))
 (D (D ZaO
 (E 17
 (D ZaP
 .ret)
 .skip))
 (D ZaQ
 .ret)))),
 [.s 4,.s 5,.s 6]⟩
theorem Ze5:Zv Proofs.Try.prog false Ze4 Proofs.Try.f81=some ZQq:=by kernel_rfl
def ZS1:List Hint:=[H [0,3],H [0,3,13],H [4,5],H [6,7],H [6,7,24],H [4,5],⟨[6,8],[0],[],[],[],[]⟩,H [6,8,27,28,29],H [6,8,27,28,29,30],H [6,8,10,27,28,29],H [6,8,27,28,29],H [6,8,27,28,29],H [8,47],H [4,5],H [4,5]]
def ZMY:PC :=
 (R [0,3] [I 3 (.box (.s 1)),I 4 (.mv (.v .nils)),K 5 0])
def ZMZ:PC :=
 (R [0,3,13] [F 11 0 3,L 12 11,I 13 (.bin .eql (.s 12) (.v (.int .u64 0)))])
def ZMa:PC :=
 (R [4,5] [F 14 6 3,L 15 14,M 4 15,K 5 0])
def ZMb:PC :=
 (R [6,7] [M 17 0,F 18 0 3,L 19 18,I 20 (C QN [(.s 17),(.s 19)]),M 16 20,X 21 16 0,X 22 16 1,I 6 (.box (.v ZN)),N 3 6 21,M 7 22])
def ZMc:PC :=
 (R [6,7,24] [M 23 7,W 24 .neq 23 0])
def ZMd:PC :=
 (R [4,5] [M 25 7,I 4 (.mv (.v .nils)),M 5 25])
def ZMe:PC :=
 (R [6,8] [I 8 (.onil 7)])
def ZMf:PC :=
 (R [6,8,27,28,29] [F 26 2 6,L 27 26,I 28 (.len 1 (.s 27)),K 29 0])
def ZMg:PC :=
 (R [6,8,27,28,29,30] [B 30 .lss 29 28])
def ZMh:PC :=
 (R [6,8,10,27,28,29] [I 31 (.ixS 4 (.s 27) (.s 29)),T 32 4 31,I 10 (.box (.v ZK)),N 4 10 32])
def ZJz:PC :=
 (R [6,8,27,28,29] [M 33 8,F 34 0 10,L 35 34,F 36 0 6,L 37 36,W 38 .sub 37 1,F 39 1 10,T 40 3 39,I 41 (.build [(.int .u64 0),(.int .i64 0),(.int .i64 0),(.int .i64 0),(.int .i64 0),(.str []),.nils] [(0,1,(.s 35)),(1,1,(.s 38)),(2,3,(.s 40))]),I 42 (.bslice false 7 [ZT] [(0,(.s 41))]),I 43 (.app 7 80 (.s 33) (.s 42)),M 8 43])
def ZJ0:PC :=
 (R [6,8,27,28,29] [W 44 .add 29 1,M 29 44])
def ZC7:PC :=
 (D ZMg
 (D (E 30
 .skip
 (.exit 0))
 (D (.block 1
 (D ZMh
 ZJz))
 ZJ0)))
def ZJ1:PC :=
 (R [8,47] [M 45 8,I 46 (.len 1 (.s 45)),W 47 .eql 46 0])
def ZJ2:PC :=
 (R [4,5] [I 4 (.mv (.v .nils)),K 5 23])
def ZJ3:PC :=
 (R [4,5] [M 48 8,M 4 48,K 5 0])
def ZGP:PF:=⟨false,
 (D ZMY
 (D (D ZMZ
 (E 13
 (D ZMa
 .ret)
 .skip))
 (D ZMb
 (D (D ZMc
 (E 24
 (D ZMd
 .ret)
 .skip))
 (D ZMe
 (D (D ZMf
 (.block 0
 (.loop ZC7)))
 (D (D ZJ1
 (E 47
 (D ZJ2
 .ret)
 .skip))
 (D ZJ3
 .ret)))))))),
 [.s 4,.s 5]⟩
theorem ZS2:Zv Proofs.Try.prog false ZS1 Proofs.Try.f82=some ZGP:=by kernel_rfl
def ZdW:List Hint:=[H [0,4,5],H [0,4,5,22],H [6,7],H [0,4,5,8,9],H [0,4,5,8,9],H [0,4,5,8,9,33],H [0,4,5,8,9,10],H [0,4,5,8,9,10,41],H [6,7],H [0,4,5,8,9,47],H [0,4,5,8,9,10],H [0,4,5,8,9,10,55],H [6,7],H [0,4,5,8,9,57],H [6,7],H [0,4,5,8,9,78],H [6,7],H [0,4,5,8,9,87],H [0,5,8,11],H [8,11,12,13],H [8,11,12,13,107],H [6,7],H [6,7],H [9,10,14],H [9,10,14,127],H [6,7],⟨[6,7],[],[],[],[(4,.blind),(2,.app0),(0,.imm)],[]⟩]
def ZXF:PC :=
 (R [0,4,5] [I 4 (.box (.s 1)),I 5 (.box (.s 2)),I 6 (.mv (.v .nils)),K 7 0])
def ZXG:PC :=
 (R [0,4,5,22] [F 15 1 4,L 16 15,W 17 .eql 16 0,M 18 17,G 19 18 true (.fadr 1 (.s 5)),G 20 18 true (.ld false 1 (.s 19)),G 21 18 true (.bin .eql (.s 20) (V 0)),I 22 (.pick (.s 18) (.s 21) (.v (.bool false)))])
def ZXH:PC :=
 (R [6,7] [M 23 0,T 24 7 4,T 25 7 5,I 26 (C ZDy [(.s 23),(.s 24),(.s 25)]),X 27 26 0,X 28 26 1,M 6 27,M 7 28])
def ZXI:PC :=
 (R [0,4,5,8,9] [I 8 (.mv (.v .nils)),I 9 (.mv (.v .nils))])
def ZXJ:PC :=
 (R [0,4,5,8,9] [K 10 0])
def ZXK:PC :=
 (R [0,4,5,8,9,33] [F 29 1 4,L 30 29,F 31 1 5,L 32 31,B 33 .geq 30 32])
def ZXL:PC :=
 (R [0,4,5,8,9,10] [M 35 0,T 36 7 4,I 37 (C Yq [(.s 35),(.s 36)]),M 34 37,X 38 34 0,X 39 34 1,M 8 38,M 10 39])
def ZXM:PC :=
 (R [0,4,5,8,9,10,41] [M 40 10,W 41 .neq 40 0])
def ZXN:PC :=
 (R [6,7] [M 42 10,I 6 (.mv (.v .nils)),M 7 42])
def ZXO:PC :=
 (R [0,4,5,8,9,47] [F 43 1 5,L 44 43,F 45 1 4,L 46 45,B 47 .geq 44 46])
def ZS3:PC :=
 (R [0,4,5,8,9,10] [M 49 0,T 50 7 5,I 51 (C Yq [(.s 49),(.s 50)]),M 48 51,X 52 48 0,X 53 48 1,M 9 52,M 10 53])
def ZS4:PC :=
 (R [0,4,5,8,9,10,55] [M 54 10,W 55 .neq 54 0])
def ZS5:PC :=
 (R [6,7] [M 56 10,I 6 (.mv (.v .nils)),M 7 56])
def ZS6:PC :=
 (R [0,4,5,8,9,57] [F 58 1 4,L 59 58,F 60 1 5,L 61 60,B 62 .eql 59 61,M 63 62,U 64 63 true 8,G 65 63 true (.len 1 (.s 64)),U 66 63 true 9,G 67 63 true (.len 1 (.s 66)),G 68 63 true (.bin .add (.s 65) (.s 67)),G 69 63 true (.bin .leq (.s 68) (V 4)),I 70 (.pick (.s 63) (.s 69) (.v (.bool false))),M 57 70])
def ZS7:PC :=
 (R [6,7] [I 71 (.bslice false 7 [] []),M 72 8,I 73 (.app 7 80 (.s 71) (.s 72)),M 74 9,I 75 (.app 7 80 (.s 73) (.s 74)),I 76 (C QL [(.s 75)]),I 77 (.bslice false 7 [ZT] [(0,(.s 76))]),M 6 77,K 7 0])
def ZS8:PC :=
 (R [0,4,5,8,9,78] [F 79 1 4,L 80 79,F 81 1 5,L 82 81,B 83 .eql 80 82,M 78 83])
def ZS9:PC :=
 (R [6,7] [T 84 7 4,T 85 7 5,I 86 (.bslice false 7 [ZT,ZT] [(0,(.s 84)),(1,(.s 85))]),M 6 86,K 7 0])
def ZTA:PC :=
 (R [0,4,5,8,9,87] [F 88 1 4,L 89 88,F 90 1 5,L 91 90,B 92 .gtr 89 91,M 87 92])
def ZTB:PC :=
 (R [0,5,8,11] [M 93 8,I 94 (.len 1 (.s 93)),W 95 .sub 94 1,M 11 95])
def ZTC:PC :=
 (R [8,11,12,13] [M 97 0,M 98 8,M 99 11,I 100 (.ixS 7 (.s 98) (.s 99)),T 101 7 100,T 102 7 5,I 103 (C ZAh [(.s 97),(.s 101),(.s 102)]),M 96 103,X 104 96 0,X 105 96 1,M 12 104,M 13 105])
def ZTD:PC :=
 (R [8,11,12,13,107] [M 106 13,W 107 .neq 106 0])
def ZTE:PC :=
 (R [6,7] [M 108 13,I 6 (.mv (.v .nils)),M 7 108])
def ZTF:PC :=
 (R [6,7] [I 109 (.bslice false 7 [] []),M 110 8,M 111 11,I 112 (.slc 7 (.s 110) none (some (.s 111))),I 113 (.app 7 80 (.s 109) (.s 112)),M 114 12,I 115 (.app 7 80 (.s 113) (.s 114)),I 116 (C ZDd [(.s 115)]),M 6 116,K 7 0])
def ZTG:PC :=
 (R [9,10,14] [M 118 0,T 119 7 4,M 120 9,I 121 (.ixS 7 (.s 120) (V 0)),T 122 7 121,I 123 (C ZAh [(.s 118),(.s 119),(.s 122)]),M 117 123,X 124 117 0,X 125 117 1,M 14 124,M 10 125])
def ZTH:PC :=
 (R [9,10,14,127] [M 126 10,W 127 .neq 126 0])
def ZTI:PC :=
 (R [6,7] [M 128 10,I 6 (.mv (.v .nils)),M 7 128])
def ZTJ:PC :=
 (R [6,7] [I 129 (.w .imm (.bslice false 7 [] [])),M 130 14,I 131 (.w .app0 (.app 7 80 (.s 129) (.s 130))),M 132 9,I 133 (.w .blind (.slc 7 (.s 132) (some (V 1)) none)),I 134 (.app 7 80 (.s 131) (.s 133)),I 135 (C ZDd [(.s 134)]),M 6 135,K 7 0])
def ZMi:PF:=⟨false,
 (D ZXF
 (D (D ZXG
 (E 22
 (D ZXH
 .ret)
 .skip))
 (D ZXI
 (D ZXJ
 (D (D ZXK
 (E 33
 (D ZXL
 (D ZXM
 (E 41
 (D ZXN
 .ret)
 .skip)))
 .skip))
 (D (D ZXO
 (E 47
 (D ZS3
 (D ZS4
 (E 55
 (D ZS5
 .ret)
 .skip)))
 .skip))
 (D (.block 0
 (D ZS6
 (E 57
 (D ZS7
 .ret)
 (D ZS8
 (E 78
 (D ZS9
 .ret)
 (D ZTA
 (E 87
 (D ZTB
 (D ZTC
 (D (D ZTD
 (E 107
 (D ZTE
 .ret)
 .skip))
 (D ZTF
 .ret))))
 .skip)))))))
 (D ZTG
 (D (D ZTH
 (E 127
 (D ZTI
 .ret)
 .skip))
 (D ZTJ
 .ret)))))))))),
 [.s 6,.s 7]⟩
theorem ZdX:Zv Proofs.Try.prog false ZdW Proofs.Try.f83=some ZMi:=by kernel_rfl
def ZXP:List Hint:=[H [1,2,3],H [1,2,3,4],H [2,4],H [2,4,8],H []]
def ZPb:PC :=
 (R [1,2,3] [I 3 (.box (.s 0))])
def ZPc:PC :=
 (R [1,2,3,4] [I 4 (.box (.v .nilfunc))])
def ZPd:PC :=
 (R [2,4] [I 5 (.mkf (.func YU) [] [(.s 1),(.s 3),(.s 4)]),N 1 4 5])
def ZPe:PC :=
 (R [2,4,8] [F 6 0 2,L 7 6,I 8 (.bin .neq (.s 7) (.v (.int .u64 0)))])
def ZPf:PC :=
 (R [] [L 9 4,F 10 0 2,L 11 10,I 12 (.call .norm (.s 9) [(.s 11)])])
def ZHh:PF:=⟨false,
 (D ZPb
 (D ZPc
 (D ZPd
 (D ZPe
 (E 8
 ZPf
 .skip))))),
 []⟩
theorem ZXQ:Zv Proofs.Try.prog false ZXP Proofs.Try.f84=some ZHh:=by kernel_rfl
def ZPg:List Hint:=[H [0,1,2,3],H [0,2,3,6,7],H [3,6,26],H [5],H [3,28,29,30],H [3,28,29,30,31],H [3,9,28,29,30],H [3,28,29,30,38],H [5],H [3,28,29,30],H [5]]
def ZJ4:PC :=
 (R [0,1,2,3] [I 5 (.mv (.v (.bool false)))])
def ZJ5:PC :=
 (R [0,2,3,6,7] [L 11 1,M 12 0,I 13 (C QN [(.s 11),(.s 12)]),M 10 13,X 14 10 0,X 15 10 1,I 6 (.box (.v ZN)),N 3 6 14,M 7 15])
def ZJ6:PC :=
 (R [3,6,26] [L 16 2,M 17 0,T 18 3 6,M 19 7,I 20 (.build [(.int .i64 0),(.str []),.nils,(.int .i64 0)] [(0,3,(.s 18)),(3,1,(.s 19))]),I 21 (.call .norm (.s 16) [(.s 17),(.s 20)]),I 22 (.un .not (.s 21)),M 23 22,U 24 23 false 7,G 25 23 false (.bin .neq (.s 24) (V 0)),I 26 (.pick (.s 23) (.v (.bool true)) (.s 25))])
def ZJ7:PC :=
 (R [5] [I 5 (.mv (.v (.bool false)))])
def ZJ8:PC :=
 (R [3,28,29,30] [F 27 2 6,L 28 27,I 29 (.len 1 (.s 28)),K 30 0])
def ZJ9:PC :=
 (R [3,28,29,30,31] [B 31 .lss 30 29])
def ZKA:PC :=
 (R [3,9,28,29,30] [I 32 (.ixS 4 (.s 28) (.s 30)),T 33 4 32,I 9 (.box (.v ZK)),N 4 9 33])
def ZKB:PC :=
 (R [3,28,29,30,38] [L 34 3,F 35 0 9,L 36 35,I 37 (.call .norm (.s 34) [(.s 36)]),I 38 (.un .not (.s 37))])
def ZKC:PC :=
 (R [5] [I 5 (.mv (.v (.bool false)))])
def ZKD:PC :=
 (R [3,28,29,30] [W 39 .add 30 1,M 30 39])
def ZIk:PC :=
 (D ZJ9
 (D (E 31
 .skip
 (.exit 0))
 (D (.block 1
 (D ZKA
 (D ZKB
 (E 38
 (D ZKC
 .ret)
 .skip))))
 ZKD)))
def ZIl:PC :=
 (R [5] [I 5 (.mv (.v (.bool true)))])
def ZEx:PF:=⟨false,
 (D ZJ4
 (D ZJ5
 (D (D ZJ6
 (E 26
 (D ZJ7
 .ret)
 .skip))
 (D (D ZJ8
 (.block 0
 (.loop ZIk)))
 (D ZIl
 .ret))))),
 [.s 5]⟩
theorem ZPh:Zv Proofs.Try.prog false ZPg Proofs.Try.f85=some ZEx:=by kernel_rfl
def ZPi:List Hint:=[H [0,1,2],⟨[2,5,6],[],[(5,.pure)],[],[],[]⟩,H [2,5,6,18],H [5,6],H [3,4]]
def ZKE:PC :=
 (R [0,1,2] [I 3 (.mv (.v (.int .u64 0))),K 4 0])
def ZKF:PC :=
 (R [2,5,6] [L 8 0,I 9 (.nilck (.s 8)),F 10 0 9,L 11 10,L 12 1,I 13 (.call .pure (.s 12) []),I 14 (C JZ [(.s 11),(.s 13)]),M 7 14,X 15 7 0,X 16 7 1,M 5 15,M 6 16])
def ZKG:PC :=
 (R [2,5,6,18] [M 17 6,W 18 .eql 17 0])
def ZKH:PC :=
 (R [5,6] [L 19 2,M 20 5,I 21 (.nilck (.s 19)),F 22 0 21,N 1 22 20])
def ZKI:PC :=
 (R [3,4] [M 23 5,M 24 6,M 3 23,M 4 24])
def ZEy:PF:=⟨false,
 (D ZKE
 (D ZKF
 (D (D ZKG
 (E 18
 ZKH
 .skip))
 (D ZKI
 .ret)))),
 [.s 3,.s 4]⟩
theorem ZPj:Zv Proofs.Try.prog false ZPi Proofs.Try.f86=some ZEy:=by kernel_rfl
def ZIm:List Hint:=[H [0,3],H [0,3,16],H [4,5],H [0,3,6],H [0,3,6,20],H [4,5],H [0,3,23,24,25],H [0,3,23,24,25,26],H [0,3,8,23,24,25],H [0,3,8,9,10,23,24,25],H [0,3,8,9,23,24,25,40],H [4,5],H [0,3,8,9,11,12,23,24,25],H [0,3,23,24,25,61],H [4,5],H [0,3,23,24,25],H [0,3,13,14],H [0,3,13,14,72],H [4,5],H [0,3,13],H [0,13],H [13],H [4,5]]
def ZGt:PC :=
 (R [0,3] [I 3 (.box (.s 1)),I 4 (.mv (.v (.int .u64 0))),K 5 0])
def ZGu:PC :=
 (R [0,3,16] [M 15 0,I 16 (.eqs false 3 [] (.s 15) (.v .nilptr))])
def ZGv:PC :=
 (R [4,5] [I 4 (.mv (.v (.int .u64 0))),K 5 1])
def ZGw:PC :=
 (R [0,3,6] [T 17 3 3,I 18 (C ZB0 [(.s 17)]),M 6 18])
def ZGx:PC :=
 (R [0,3,6,20] [M 19 6,W 20 .neq 19 0])
def ZGy:PC :=
 (R [4,5] [M 21 6,I 4 (.mv (.v (.int .u64 0))),M 5 21])
def ZGz:PC :=
 (R [0,3,23,24,25] [F 22 2 3,L 23 22,I 24 (.len 1 (.s 23)),K 25 0])
def ZG0:PC :=
 (R [0,3,23,24,25,26] [B 26 .lss 25 24])
def ZG1:PC :=
 (R [0,3,8,23,24,25] [I 27 (.ixS 4 (.s 23) (.s 25)),T 28 4 27,I 8 (.box (.v ZK)),N 4 8 28])
def ZG2:PC :=
 (R [0,3,8,9,10,23,24,25] [M 30 0,I 31 (.nilck (.s 30)),F 32 2 31,L 33 32,F 34 0 8,L 35 34,I 36 (.look 0 ZN true (.s 33) (.s 35)),M 29 36,X 37 29 0,X 38 29 1,I 9 (.box (.v ZN)),N 3 9 37,M 10 38])
def ZFg:PC :=
 (R [0,3,8,9,23,24,25,40] [M 39 10,I 40 (.un .not (.s 39))])
def ZFh:PC :=
 (R [4,5] [I 4 (.mv (.v (.int .u64 0))),K 5 10])
def ZFi:PC :=
 (R [0,3,8,9,11,12,23,24,25] [T 42 3 9,I 43 (C XS [(.s 42)]),M 41 43,X 44 41 0,X 45 41 1,I 11 (.box (.v ZM)),N 3 11 44,M 12 45])
def ZFj:PC :=
 (R [0,3,23,24,25,61] [M 46 12,W 47 .neq 46 0,M 48 47,G 49 48 false (.fadr 0 (.s 9)),G 50 48 false (.ld false 1 (.s 49)),G 51 48 false (.fadr 0 (.s 3)),G 52 48 false (.ld false 1 (.s 51)),G 53 48 false (.bin .sub (.s 52) (V 1)),G 54 48 false (.bin .neq (.s 50) (.s 53)),I 55 (.pick (.s 48) (.v (.bool true)) (.s 54)),M 56 55,G 57 56 false (.ld true 3 (.s 11)),G 58 56 false (.fadr 1 (.s 8)),G 59 56 false (.ld true 3 (.s 58)),G 60 56 false (.eqs true 0 [(0,0),(1,0),(2,0)] (.s 57) (.s 59)),I 61 (.pick (.s 56) (.v (.bool true)) (.s 60))])
def ZFk:PC :=
 (R [4,5] [I 4 (.mv (.v (.int .u64 0))),K 5 23])
def ZFl:PC :=
 (R [0,3,23,24,25] [W 62 .add 25 1,M 25 62])
def ZFm:PC :=
 (D ZG0
 (D (E 26
 .skip
 (.exit 0))
 (D (.block 1
 (D ZG1
 (D ZG2
 (D (D ZFg
 (E 40
 (D ZFh
 .ret)
 .skip))
 (D ZFi
 (D ZFj
 (E 61
 (D ZFk
 .ret)
 .skip)))))))
 ZFl)))
def ZFn:PC :=
 (R [0,3,13,14] [M 64 0,I 65 (.nilck (.s 64)),F 66 1 65,L 67 66,I 68 (C XV [(.s 67)]),M 63 68,X 69 63 0,X 70 63 1,M 13 69,M 14 70])
def ZFo:PC :=
 (R [0,3,13,14,72] [M 71 14,W 72 .neq 71 0])
def ZFp:PC :=
 (R [4,5] [M 73 14,I 4 (.mv (.v (.int .u64 0))),M 5 73])
def ZAj:PC :=
 (R [0,3,13] [F 74 2 3,L 75 74,I 76 (C Z7 [(.s 75)]),F 77 2 3,N 1 77 76])
def ZAk:PC :=
 (R [0,13] [M 78 0,I 79 (.nilck (.s 78)),F 80 2 79,L 81 80,M 82 13,T 83 3 3,J (.mupd 0 (.s 81) (.s 82) (.s 83))])
def ZAl:PC :=
 (R [13] [M 84 0,I 85 (.nilck (.s 84)),F 86 3 85,L 87 86,W 88 .add 87 1,I 89 (.nilck (.s 84)),F 90 3 89,N 1 90 88])
def ZAm:PC :=
 (R [4,5] [M 91 13,M 4 91,K 5 0])
def ZBq:PF:=⟨false,
 (D ZGt
 (D (D ZGu
 (E 16
 (D ZGv
 .ret)
 .skip))
 (D (D ZGw
 (D ZGx
 (E 20
 (D ZGy
 .ret)
 .skip)))
 (D (D ZGz
 (.block 0
 (.loop ZFm)))
 (D ZFn
 (D (D ZFo
 (E 72
 (D ZFp
 .ret)
 .skip))
 (D ZAj
 (D ZAk
 (D ZAl
 (D ZAm
 .ret)))))))))),
 [.s 4,.s 5]⟩
theorem ZIn:Zv Proofs.Try.prog false ZIm Proofs.Try.f87=some ZBq:=by kernel_rfl
def ZaR:List Hint:=[H [1],H [1,9],H [2],H [1,50],H [2],H [1,3,4],H [3,4,59,60,61],H [3,4,59,60,61,62],H [3,4,6,59,60,61],H [3,4,59,60,61,112],H [2],H [3,4,59,60,61],H [2]]
def ZTK:PC :=
 (R [1] [I 1 (.box (.s 0)),I 2 (.mv (.v (.bool false)))])
def ZTL:PC :=
 (R [1,9] [F 7 0 1,L 8 7,W 9 .eql 8 0])
def ZTM:PC :=
 (R [2] [F 10 1 1,L 11 10,I 12 (.len 0 (.s 11)),W 13 .geq 12 1,M 14 13,G 15 14 true (.fadr 1 (.s 1)),G 16 14 true (.ld false 1 (.s 15)),G 17 14 true (.len 0 (.s 16)),G 18 14 true (.bin .leq (.s 17) (V 16)),I 19 (.pick (.s 14) (.s 18) (.v (.bool false))),M 20 19,G 21 20 true (.fadr 2 (.s 1)),G 22 20 true (.ld false 1 (.s 21)),G 23 20 true (.len 1 (.s 22)),G 24 20 true (.bin .eql (.s 23) (V 0)),I 25 (.pick (.s 20) (.s 24) (.v (.bool false))),M 2 25])
def ZTN:PC :=
 (R [1,50] [F 26 0 1,L 27 26,W 28 .lss 27 1,M 29 28,G 30 29 false (.fadr 0 (.s 1)),G 31 29 false (.ld false 1 (.s 30)),G 32 29 false (.bin .gtr (.s 31) (V 16)),I 33 (.pick (.s 29) (.v (.bool true)) (.s 32)),M 34 33,G 35 34 false (.fadr 1 (.s 1)),G 36 34 false (.ld false 1 (.s 35)),G 37 34 false (.bin .neq (.s 36) (.v (.str []))),I 38 (.pick (.s 34) (.v (.bool true)) (.s 37)),M 39 38,G 40 39 false (.fadr 2 (.s 1)),G 41 39 false (.ld false 1 (.s 40)),G 42 39 false (.len 1 (.s 41)),G 43 39 false (.bin .lss (.s 42) (V 2)),I 44 (.pick (.s 39) (.v (.bool true)) (.s 43)),M 45 44,G 46 45 false (.fadr 2 (.s 1)),G 47 45 false (.ld false 1 (.s 46)),G 48 45 false (.len 1 (.s 47)),G 49 45 false (.bin .gtr (.s 48) (V 4)),I 50 (.pick (.s 45) (.v (.bool true)) (.s 49))])
def ZTO:PC :=
 (R [2] [I 2 (.mv (.v (.bool false)))])
def ZTP:PC :=
 (R [1,3,4] [F 52 0 1,L 53 52,W 54 .sub 53 1,I 55 (C ZDz [(.s 54)]),M 51 55,X 56 51 0,X 57 51 1,M 3 56,M 4 57])
def ZTQ:PC :=
 (R [3,4,59,60,61] [F 58 2 1,L 59 58,I 60 (.len 1 (.s 59)),K 61 0])
def ZTR:PC :=
 (R [3,4,59,60,61,62] [B 62 .lss 61 60])
def ZTS:PC :=
 (R [3,4,6,59,60,61] [I 63 (.ixS 4 (.s 59) (.s 61)),T 64 4 63,I 6 (.box (.v ZK)),N 4 6 64])
def ZTT:PC :=
 (R [3,4,59,60,61,112] [F 65 0 6,L 66 65,I 67 (C ZCj [(.s 66)]),W 68 .neq 67 0,M 69 68,G 70 69 false (.fadr 1 (.s 6)),G 71 69 false (.fadr 0 (.s 70)),G 72 69 false (.ld false 1 (.s 71)),U 73 69 false 3,G 74 69 false (.bin .lss (.s 72) (.s 73)),I 75 (.pick (.s 69) (.v (.bool true)) (.s 74)),M 76 75,G 77 76 false (.fadr 1 (.s 6)),G 78 76 false (.fadr 0 (.s 77)),G 79 76 false (.ld false 1 (.s 78)),U 80 76 false 4,G 81 76 false (.bin .gtr (.s 79) (.s 80)),I 82 (.pick (.s 76) (.v (.bool true)) (.s 81)),M 83 82,G 84 83 false (.fadr 1 (.s 6)),G 85 83 false (.fadr 1 (.s 84)),G 86 83 false (.ld false 1 (.s 85)),G 87 83 false (.bin .lss (.s 86) (V 0)),I 88 (.pick (.s 83) (.v (.bool true)) (.s 87)),M 89 88,G 90 89 false (.fadr 1 (.s 6)),G 91 89 false (.fadr 1 (.s 90)),G 92 89 false (.ld false 1 (.s 91)),G 93 89 false (.fadr 1 (.s 6)),G 94 89 false (.fadr 0 (.s 93)),G 95 89 false (.ld false 1 (.s 94)),G 96 89 false (.bin .gtr (.s 92) (.s 95)),I 97 (.pick (.s 89) (.v (.bool true)) (.s 96)),M 98 97,G 99 98 false (.fadr 1 (.s 6)),G 100 98 false (.fadr 2 (.s 99)),G 101 98 false (.ld false 1 (.s 100)),G 102 98 false (.bin .lss (.s 101) (V 0)),I 103 (.pick (.s 98) (.v (.bool true)) (.s 102)),M 104 103,G 105 104 false (.fadr 1 (.s 6)),G 106 104 false (.fadr 2 (.s 105)),G 107 104 false (.ld false 1 (.s 106)),G 108 104 false (.fadr 1 (.s 6)),G 109 104 false (.fadr 1 (.s 108)),G 110 104 false (.ld false 1 (.s 109)),G 111 104 false (.bin .gtr (.s 107) (.s 110)),I 112 (.pick (.s 104) (.v (.bool true)) (.s 111))])
def ZPk:PC :=
 (R [2] [I 2 (.mv (.v (.bool false)))])
def ZPl:PC :=
 (R [3,4,59,60,61] [W 113 .add 61 1,M 61 113])
def ZPm:PC :=
 (D ZTR
 (D (E 62
 .skip
 (.exit 0))
 (D (.block 1
 (D ZTS
 (D ZTT
 (E 112
 (D ZPk
 .ret)
 .skip))))
 ZPl)))
def ZPn:PC :=
 (R [2] [I 2 (.mv (.v (.bool true)))])
def ZI7:PF:=⟨false,
 (D ZTK
 (D (D ZTL
 (E 9
 (D ZTM
 .ret)
 .skip))
 (D (D ZTN
 (E 50
 (D ZTO
 .ret)
 .skip))
 (D ZTP
 (D (D ZTQ
 (.block 0
 (.loop ZPm)))
 (D ZPn
 .ret)))))),
 [.s 2]⟩
theorem ZaS:Zv Proofs.Try.prog false ZaR Proofs.Try.f88=some ZI7:=by kernel_rfl
def ZdY:List Hint:=[H [0,2],H [0,2,3],H [0,2,3,6,7],H [0,2,3,6,7,8],H [0,2,3,4,5,6,7],H [0,2,3,6,7],H [0,2,3,6,7],H [2]]
def ZXR:PC :=
 (R [0,2] [I 2 (.box (.v ZM))])
def ZXS:PC :=
 (R [0,2,3] [I 3 (.box (.v ZM))])
def ZXT:PC :=
 (R [0,2,3,6,7] [I 6 (.build [.nilfunc,.nilfunc,.nilfunc] [(0,1,(.v (.func (.func X7) [] []))),(1,1,(.v (.func (.func Xj) [] []))),(2,1,(.v (.func (.func X8) [] [])))]),K 7 0])
def ZXU:PC :=
 (R [0,2,3,6,7,8] [W 8 .lss 7 3])
def ZXV:PC :=
 (R [0,2,3,4,5,6,7] [M 9 7,I 10 (.ixArr false 3 1 (.s 6) (.s 7)),M 4 9,M 5 10])
def ZXW:PC :=
 (R [0,2,3,6,7] [M 11 4,M 12 0,M 13 5,I 14 (C ZBj [(.s 12),(.s 13)]),I 15 (.ixA 3 1 (.s 3) (.s 11)),N 1 15 14])
def ZXX:PC :=
 (R [0,2,3,6,7] [W 16 .add 7 1,M 7 16])
def ZXY:PC :=
 (D ZXU
 (D (E 8
 .skip
 (.exit 0))
 (D (.block 1
 (D ZXV
 ZXW))
 ZXX)))
def ZXZ:PC :=
 (R [2] [T 17 3 3,I 18 (C Yh [(.s 17)]),N 3 2 18])
def ZMj:PF:=⟨false,
 (D ZXR
 (D ZXS
 (D (D ZXT
 (.block 0
 (.loop ZXY)))
 (D ZXZ
 .ret)))),
 [.c 2 true 3]⟩
theorem ZdZ:Zv Proofs.Try.prog false ZdY Proofs.Try.f89=some ZMj:=by kernel_rfl
def ZaT:List Hint:=[H [0,2],H [0,2,3],H [2,3,8,9,10],H [2,3,8,9,10,11],H [2,3,5,8,9,10],H [2,3,8,9,10,20,21],H [2,3,8,9,10,20,21,22],H [2,3,6,7,8,9,10,20,21],H [2,3,8,9,10,20,21],H [2,3,8,9,10,20,21],H [2,3,8,9,10],H [2]]
def ZTU:PC :=
 (R [0,2] [I 2 (.box (.v ZM))])
def ZTV:PC :=
 (R [0,2,3] [I 3 (.box (.v ZM))])
def ZTW:PC :=
 (R [2,3,8,9,10] [M 8 0,I 9 (.len 1 (.s 8)),K 10 0])
def ZTX:PC :=
 (R [2,3,8,9,10,11] [B 11 .lss 10 9])
def ZTY:PC :=
 (R [2,3,5,8,9,10] [I 12 (.ixS 3 (.s 8) (.s 10)),T 13 3 12,I 5 (.box (.v ZM)),N 3 5 13])
def ZTZ:PC :=
 (R [2,3,8,9,10,20,21] [F 14 0 5,L 15 14,F 16 1 5,L 17 16,F 18 2 5,L 19 18,I 20 (.build [(.int .i64 0),(.int .i64 0),(.int .i64 0)] [(0,1,(.s 15)),(1,1,(.s 17)),(2,1,(.s 19))]),K 21 0])
def ZTa:PC :=
 (R [2,3,8,9,10,20,21,22] [W 22 .lss 21 3])
def ZTb:PC :=
 (R [2,3,6,7,8,9,10,20,21] [M 23 21,I 24 (.ixArr false 3 1 (.s 20) (.s 21)),M 6 23,M 7 24])
def ZTc:PC :=
 (R [2,3,8,9,10,20,21] [M 25 6,I 26 (.ixA 3 1 (.s 3) (.s 25)),L 27 26,M 28 7,B 29 .add 27 28,I 30 (.ixA 3 1 (.s 3) (.s 25)),N 1 30 29])
def ZTd:PC :=
 (R [2,3,8,9,10,20,21] [W 31 .add 21 1,M 21 31])
def ZPo:PC :=
 (D ZTa
 (D (E 22
 .skip
 (.exit 2))
 (D (.block 3
 (D ZTb
 ZTc))
 ZTd)))
def ZPp:PC :=
 (R [2,3,8,9,10] [W 32 .add 10 1,M 10 32])
def ZPq:PC :=
 (D ZTX
 (D (E 11
 .skip
 (.exit 0))
 (D (.block 1
 (D ZTY
 (D ZTZ
 (.block 2
 (.loop ZPo)))))
 ZPp)))
def ZPr:PC :=
 (R [2] [T 33 3 3,I 34 (C Yh [(.s 33)]),N 3 2 34])
def ZI8:PF:=⟨false,
 (D ZTU
 (D ZTV
 (D (D ZTW
 (.block 0
 (.loop ZPq)))
 (D ZPr
 .ret)))),
 [.c 2 true 3]⟩
theorem ZaU:Zv Proofs.Try.prog false ZaT Proofs.Try.f90=some ZI8:=by kernel_rfl
def Zda:List Hint:=[H [0],H [2]]
def ZXa:PC :=
 (R [0] [I 2 (.mv (.v (.bool false)))])
def ZXb:PC :=
 (R [2] [M 3 0,I 4 (.len 0 (.s 3)),W 5 .geq 4 1,M 6 5,U 7 6 true 0,G 8 6 true (.len 0 (.s 7)),G 9 6 true (.bin .leq (.s 8) (V 16)),I 10 (.pick (.s 6) (.s 9) (.v (.bool false))),M 2 10])
def ZMk:PF:=⟨false,
 (D ZXa
 (D ZXb
 .ret)),
 [.s 2]⟩
theorem Zdb:Zv Proofs.Try.prog false Zda Proofs.Try.f91=some ZMk:=by kernel_rfl
def ZaV:List Hint:=[H [0,4,5],⟨[0,4,5,8,9],[],[(1,.pure)],[],[],[]⟩,H [0,4,5,32],H [6,7],H [0,5,10,11],H [0,5,10,11,43],H [6,7],H [10,11,12],H [10,11,12,52],H [6,7],H [11,13],H [11,13,61],H [6,7],⟨[13,14],[0],[],[],[],[]⟩,H [14,63,64,65],H [14,63,64,65,66],H [14,16,63,64,65],H [14,63,64,65],H [14,63,64,65],H [6,7]]
def ZTe:PC :=
 (R [0,4,5] [I 4 (.box (.s 1)),I 5 (.box (.s 2)),I 6 (.mv (.v .nils)),K 7 0])
def ZTf:PC :=
 (R [0,4,5,8,9] [T 17 7 4,I 18 (.call .pure (.v (.func (.func QS) [] [])) [(.s 17)]),T 19 7 5,I 20 (C QS [(.s 19)]),M 8 18,M 9 20])
def ZTg:PC :=
 (R [0,4,5,32] [M 21 8,M 22 9,B 23 .add 21 22,W 24 .gtr 23 16,M 25 24,U 26 25 true 8,G 27 25 true (.bin .geq (.s 26) (V 8)),I 28 (.pick (.s 25) (.s 27) (.v (.bool false))),M 29 28,U 30 29 true 9,G 31 29 true (.bin .geq (.s 30) (V 8)),I 32 (.pick (.s 29) (.s 31) (.v (.bool false)))])
def ZTh:PC :=
 (R [6,7] [T 33 7 4,T 34 7 5,I 35 (.bslice false 7 [ZT,ZT] [(0,(.s 33)),(1,(.s 34))]),M 6 35,K 7 0])
def ZTi:PC :=
 (R [0,5,10,11] [M 37 0,T 38 7 4,I 39 (C ZBU [(.s 37),(.s 38)]),M 36 39,X 40 36 0,X 41 36 1,M 10 40,M 11 41])
def ZTj:PC :=
 (R [0,5,10,11,43] [M 42 11,W 43 .neq 42 0])
def ZTk:PC :=
 (R [6,7] [M 44 11,I 6 (.mv (.v .nils)),M 7 44])
def ZTl:PC :=
 (R [10,11,12] [M 46 0,T 47 7 5,I 48 (C ZBU [(.s 46),(.s 47)]),M 45 48,X 49 45 0,X 50 45 1,M 12 49,M 11 50])
def ZTm:PC :=
 (R [10,11,12,52] [M 51 11,W 52 .neq 51 0])
def ZTn:PC :=
 (R [6,7] [M 53 11,I 6 (.mv (.v .nils)),M 7 53])
def ZPs:PC :=
 (R [11,13] [M 55 10,M 56 12,I 57 (C ZFV [(.s 55),(.s 56)]),M 54 57,X 58 54 0,X 59 54 1,M 13 58,M 11 59])
def ZPt:PC :=
 (R [11,13,61] [M 60 11,W 61 .neq 60 0])
def ZPu:PC :=
 (R [6,7] [M 62 11,I 6 (.mv (.v .nils)),M 7 62])
def ZPv:PC :=
 (R [13,14] [I 14 (.onil 7)])
def ZPw:PC :=
 (R [14,63,64,65] [M 63 13,I 64 (.len 1 (.s 63)),K 65 0])
def ZPx:PC :=
 (R [14,63,64,65,66] [B 66 .lss 65 64])
def ZPy:PC :=
 (R [14,16,63,64,65] [I 67 (.ixS 1 (.s 63) (.s 65)),L 68 67,M 16 68])
def ZPz:PC :=
 (R [14,63,64,65] [M 69 14,M 70 16,I 71 (.build [(.int .u64 0),(.int .i64 0),(.int .i64 0),(.int .i64 0),(.int .i64 0),(.str []),.nils] [(5,1,(.s 70))]),I 72 (.bslice false 7 [ZT] [(0,(.s 71))]),I 73 (.app 7 80 (.s 69) (.s 72)),M 14 73])
def ZP0:PC :=
 (R [14,63,64,65] [W 74 .add 65 1,M 65 74])
def ZEz:PC :=
 (D ZPx
 (D (E 66
 .skip
 (.exit 0))
 (D (.block 1
 (D ZPy
 ZPz))
 ZP0)))
def ZP1:PC :=
 (R [6,7] [M 75 14,M 6 75,K 7 0])
def ZI9:PF:=⟨false,
 (D ZTe
 (D ZTf
 (D (D ZTg
 (E 32
 (D ZTh
 .ret)
 .skip))
 (D ZTi
 (D (D ZTj
 (E 43
 (D ZTk
 .ret)
 .skip))
 (D ZTl
 (D (D ZTm
 (E 52
 (D ZTn
 .ret)
 .skip))
 (D ZPs
 (D (D ZPt
 (E 61
 (D ZPu
 .ret)
 .skip))
 (D ZPv
 (D (D ZPw
 (.block 0
 (.loop ZEz)))
 (D ZP1
 .ret)))))))))))),
 [.s 6,.s 7]⟩
theorem ZaW:Zv Proofs.Try.prog false ZaV Proofs.Try.f92=some ZI9:=by kernel_rfl
def Ze6:List Hint:=[H [0],H [0,6],H [2],H [0,3],⟨[2],[],[(3,.pure)],[],[],[]⟩]
def ZaX:PC :=
 (R [0] [I 2 (.mv (.v .nils))])
def ZaY:PC :=
 (R [0,6] [M 4 0,I 5 (.len 1 (.s 4)),W 6 .leq 5 4])
def ZaZ:PC :=
 (R [2] [M 7 0,I 8 (C QL [(.s 7)]),I 9 (.bslice false 7 [ZT] [(0,(.s 8))]),M 2 9])
def Zaa:PC :=
 (R [0,3] [M 10 0,I 11 (.len 1 (.s 10)),W 12 .add 11 1,W 13 .quo 12 2,M 3 13])
def Zab:PC :=
 (R [2] [M 14 0,M 15 3,I 16 (.slc 7 (.s 14) none (some (.s 15))),I 17 (.call .pure (.v (.func (.func QL) [] [])) [(.s 16)]),M 18 0,M 19 3,I 20 (.slc 7 (.s 18) (some (.s 19)) none),I 21 (C QL [(.s 20)]),I 22 (.bslice false 7 [ZT,ZT] [(0,(.s 17)),(1,(.s 21))]),M 2 22])
def ZQr:PF:=⟨false,
 (D ZaX
 (D (D ZaY
 (E 6
 (D ZaZ
 .ret)
 .skip))
 (D Zaa
 (D Zab
 .ret)))),
 [.s 2]⟩
theorem Ze7:Zv Proofs.Try.prog false Ze6 Proofs.Try.f93=some ZQr:=by kernel_rfl
def ZHi:List Hint:=[H [0],H [0,6],H [2,3],H [0,12],H [2,3],H [0,4],H [0,4],H [0,4],H [2,3]]
def ZFq:PC :=
 (R [0] [I 2 (.mv (.v (.int .u64 0))),K 3 0])
def ZFr:PC :=
 (R [0,6] [M 5 0,I 6 (.eqs false 3 [] (.s 5) (.v .nilptr))])
def ZFs:PC :=
 (R [2,3] [I 2 (.mv (.v (.int .u64 0))),K 3 1])
def ZFt:PC :=
 (R [0,12] [M 7 0,I 8 (.nilck (.s 7)),F 9 0 8,L 10 9,I 11 (.len 1 (.s 10)),W 12 .eql 11 0])
def ZFu:PC :=
 (R [2,3] [I 2 (.mv (.v (.int .u64 0))),K 3 6])
def ZFv:PC :=
 (R [0,4] [M 13 0,I 14 (.nilck (.s 13)),F 15 0 14,L 16 15,M 17 0,I 18 (.nilck (.s 17)),F 19 0 18,L 20 19,I 21 (.len 1 (.s 20)),W 22 .sub 21 1,I 23 (.ixS 1 (.s 16) (.s 22)),L 24 23,M 4 24])
def ZFw:PC :=
 (R [0,4] [M 25 0,M 26 0,I 27 (.nilck (.s 26)),F 28 0 27,L 29 28,M 30 0,I 31 (.nilck (.s 30)),F 32 0 31,L 33 32,I 34 (.len 1 (.s 33)),W 35 .sub 34 1,I 36 (.slc 1 (.s 29) none (some (.s 35))),I 37 (.nilck (.s 25)),F 38 0 37,N 1 38 36])
def ZFx:PC :=
 (R [0,4] [M 39 0,I 40 (.nilck (.s 39)),F 41 1 40,L 42 41,M 43 4,I 44 (.ixS 1 (.s 42) (.s 43)),J (.st 1 (.s 44) (.v (.int .u8 1)))])
def ZFy:PC :=
 (R [2,3] [M 45 4,M 46 0,I 47 (.nilck (.s 46)),F 48 2 47,L 49 48,M 50 4,I 51 (.ixS 1 (.s 49) (.s 50)),L 52 51,I 53 (C ZBK [(.s 45),(.s 52)]),X 54 53 0,X 55 53 1,M 2 54,M 3 55])
def ZBW:PF:=⟨false,
 (D ZFq
 (D (D ZFr
 (E 6
 (D ZFs
 .ret)
 .skip))
 (D (D ZFt
 (E 12
 (D ZFu
 .ret)
 .skip))
 (D ZFv
 (D ZFw
 (D ZFx
 (D ZFy
 .ret))))))),
 [.s 2,.s 3]⟩
theorem ZHj:Zv Proofs.Try.prog false ZHi Proofs.Try.f94=some ZBW:=by kernel_rfl
def Zac:List Hint:=[H [0],H [0,2,3],H [2,3,4,5],H [2,3,4,5,6],H [2,3,4,5],H [2,3,4,5],H [2,3,4,5],H [2,3]]
def ZTo:PC :=
 (R [0] [K 2 0,K 3 0])
def ZTp:PC :=
 (R [0,2,3] [K 2 8,K 3 16])
def ZTq:PC :=
 (R [2,3,4,5] [M 4 0,K 5 0])
def ZTr:PC :=
 (R [2,3,4,5,6] [B 6 .lss 5 4])
def ZTs:PC :=
 (R [2,3,4,5] [M 7 2,W 8 .mul 7 2,M 2 8])
def ZTt:PC :=
 (R [2,3,4,5] [M 9 3,W 10 .mul 9 4,I 11 (.mnx false (.s 10) (V 65536)),M 3 11])
def ZTu:PC :=
 (R [2,3,4,5] [W 12 .add 5 1,M 5 12])
def ZTv:PC :=
 (D ZTr
 (D (E 6
 .skip
 (.exit 0))
 (D (.block 1
 (D ZTs
 ZTt))
 ZTu)))
def ZTw:PC :=
 (R [2,3] [M 13 2,M 14 3,I 15 (.mnx false (.s 14) (V 65536)),M 2 13,M 3 15])
def ZJA:PF:=⟨false,
 (D ZTo
 (D ZTp
 (D (D ZTq
 (.block 0
 (.loop ZTv)))
 (D ZTw
 .ret)))),
 [.s 2,.s 3]⟩
theorem Zad:Zv Proofs.Try.prog false Zac Proofs.Try.f95=some ZJA:=by kernel_rfl
def ZXc:List Hint:=[H [0],H [3,4],H [19],H [2],H [2]]
def ZP2:PC :=
 (R [0] [K 2 0])
def ZP3:PC :=
 (R [3,4] [M 6 0,I 7 (C ZCk [(.s 6)]),M 5 7,X 8 5 0,X 9 5 1,M 3 8,M 4 9])
def ZP4:PC :=
 (R [19] [M 10 3,W 11 .geq 10 16384,M 12 11,U 13 12 false 4,G 14 12 false (.bin .lss (.s 13) (.v (.int .u64 1))),I 15 (.pick (.s 12) (.v (.bool true)) (.s 14)),M 16 15,U 17 16 false 4,G 18 16 false (.bin .gtr (.s 17) (.v (.int .u64 4294967295))),I 19 (.pick (.s 16) (.v (.bool true)) (.s 18))])
def ZP5:PC :=
 (R [2] [K 2 2])
def ZP6:PC :=
 (R [2] [K 2 0])
def ZHk:PF:=⟨false,
 (D ZP2
 (D (D ZP3
 (D ZP4
 (E 19
 (D ZP5
 .ret)
 .skip)))
 (D ZP6
 .ret))),
 [.s 2]⟩
theorem ZXd:Zv Proofs.Try.prog false ZXc Proofs.Try.f96=some ZHk:=by kernel_rfl
def ZTx:List Hint:=[H [],H [2]]
def ZMl:PC :=
 (R [] [I 2 (.mv (.v (.bool false)))])
def ZMm:PC :=
 (R [2] [I 2 (.mv (.v (.bool true)))])
def ZGQ:PF:=⟨false,
 (D ZMl
 (D ZMm
 .ret)),
 [.s 2]⟩
theorem ZTy:Zv Proofs.Try.prog false ZTx Proofs.Try.f97=some ZGQ:=by kernel_rfl
def ZP7:List Hint:=[H [0],H [2]]
def ZKJ:PC :=
 (R [0] [I 2 (.mv (.v (.bool false)))])
def ZKK:PC :=
 (R [2] [M 3 0,I 4 (.bin .lss (.s 3) (.v (.int .u8 128))),M 5 4,U 6 5 false 0,G 7 5 false (.bin .gtr (.s 6) (.v (.int .u8 191))),I 8 (.pick (.s 5) (.v (.bool true)) (.s 7)),M 2 8])
def ZE0:PF:=⟨false,
 (D ZKJ
 (D ZKK
 .ret)),
 [.s 2]⟩
theorem ZP8:Zv Proofs.Try.prog false ZP7 Proofs.Try.f98=some ZE0:=by kernel_rfl
def ZTz:List Hint:=[H [0],H [2]]
def ZMn:PC :=
 (R [0] [I 2 (.mv (.v (.bool false)))])
def ZMo:PC :=
 (R [2] [M 3 0,I 4 (.bin .eql (.s 3) (.v (.int .u8 10))),M 2 4])
def ZGR:PF:=⟨false,
 (D ZMn
 (D ZMo
 .ret)),
 [.s 2]⟩
theorem ZT0:Zv Proofs.Try.prog false ZTz Proofs.Try.f99=some ZGR:=by kernel_rfl
def ZT1:List Hint:=[H [0,1],H [0,1,5],H [0,1,5,8,9],H [0,1,5,8,9,10],H [0,1,5,6,8,9],H [0,1,5,8,9,16],H [0,1,5,8,9],H [0,1,5,8,9],H [4]]
def ZMp:PC :=
 (R [0,1] [K 4 0])
def ZMq:PC :=
 (R [0,1,5] [K 5 0])
def ZMr:PC :=
 (R [0,1,5,8,9] [M 7 0,I 8 (.len 0 (.s 7)),K 9 0])
def ZMs:PC :=
 (R [0,1,5,8,9,10] [B 10 .lss 9 8])
def ZMt:PC :=
 (R [0,1,5,6,8,9] [M 11 9,M 6 11])
def ZMu:PC :=
 (R [0,1,5,8,9,16] [M 12 1,M 13 0,M 14 6,I 15 (.ixStr (.s 13) (.s 14)),I 16 (.call .norm (.s 12) [(.s 15)])])
def ZMv:PC :=
 (R [0,1,5,8,9] [M 17 5,W 18 .add 17 1,M 5 18])
def ZMw:PC :=
 (R [0,1,5,8,9] [W 19 .add 9 1,M 9 19])
def ZMx:PC :=
 (D ZMs
 (D (E 10
 .skip
 (.exit 0))
 (D (.block 1
 (D ZMt
 (D ZMu
 (E 16
 ZMv
 .skip))))
 ZMw)))
def ZMy:PC :=
 (R [4] [M 20 5,M 4 20])
def ZGS:PF:=⟨false,
 (D ZMp
 (D ZMq
 (D (D ZMr
 (.block 0
 (.loop ZMx)))
 (D ZMy
 .ret)))),
 [.s 4]⟩
theorem ZT2:Zv Proofs.Try.prog false ZT1 Proofs.Try.f100=some ZGS:=by kernel_rfl
def ZKL:List Hint:=[H [1,2],H [1,2,5],H [2],H [2]]
def ZHl:PC :=
 (R [1,2] [I 1 (.box (.s 0)),I 2 (.box (.v ZM))])
def ZHm:PC :=
 (R [1,2,5] [T 3 3 1,I 4 (.build [(.int .i64 0),(.int .i64 0),(.int .i64 0)] []),I 5 (.eqs false 0 [(0,0),(1,0),(2,0)] (.s 3) (.s 4))])
def ZHn:PC :=
 (R [2] [I 6 (.build [(.int .i64 0),(.int .i64 0),(.int .i64 0)] []),N 3 2 6])
def ZHo:PC :=
 (R [2] [I 7 (.ixA 3 1 (.s 1) (V 0)),L 8 7,I 9 (.ixA 3 1 (.s 1) (V 1)),L 10 9,I 11 (.ixA 3 1 (.s 1) (V 2)),L 12 11,I 13 (.build [(.int .i64 0),(.int .i64 0),(.int .i64 0)] [(0,1,(.s 8)),(1,1,(.s 10)),(2,1,(.s 12))]),N 3 2 13])
def ZC8:PF:=⟨false,
 (D ZHl
 (D (D ZHm
 (E 5
 (D ZHn
 .ret)
 .skip))
 (D ZHo
 .ret))),
 [.c 2 true 3]⟩
theorem ZKM:Zv Proofs.Try.prog false ZKL Proofs.Try.f101=some ZC8:=by kernel_rfl
def Zdc:List Hint:=[H [0,1],H [0,1,15],H [4,5],H [0,1,6],H [0,1,6,21],H [4,5],H [0,1,6,31],H [4,5],H [6,7],H [4,5]]
def ZXe:PC :=
 (R [0,1] [I 4 (.mv (.v .nils)),K 5 0])
def ZXf:PC :=
 (R [0,1,15] [M 8 0,I 9 (C ZAi [(.s 8)]),I 10 (.un .not (.s 9)),M 11 10,U 12 11 false 1,G 13 11 false (C ZAi [(.s 12)]),G 14 11 false (.un .not (.s 13)),I 15 (.pick (.s 11) (.v (.bool true)) (.s 14))])
def ZXg:PC :=
 (R [4,5] [I 4 (.mv (.v .nils)),K 5 2])
def ZXh:PC :=
 (R [0,1,6] [M 16 0,M 17 1,B 18 .add 16 17,M 6 18])
def ZXi:PC :=
 (R [0,1,6,21] [M 19 6,I 20 (.len 0 (.s 19)),W 21 .leq 20 16])
def ZXj:PC :=
 (R [4,5] [M 22 6,I 23 (.bslice false 1 [(.str [])] [(0,(.s 22))]),M 4 23,K 5 0])
def ZXk:PC :=
 (R [0,1,6,31] [M 24 0,I 25 (.len 0 (.s 24)),W 26 .geq 25 8,M 27 26,U 28 27 true 1,G 29 27 true (.len 0 (.s 28)),G 30 27 true (.bin .geq (.s 29) (V 8)),I 31 (.pick (.s 27) (.s 30) (.v (.bool false)))])
def ZXl:PC :=
 (R [4,5] [M 32 0,M 33 1,I 34 (.bslice false 1 [(.str []),(.str [])] [(0,(.s 32)),(1,(.s 33))]),M 4 34,K 5 0])
def ZXm:PC :=
 (R [6,7] [M 35 6,I 36 (.len 0 (.s 35)),W 37 .add 36 1,W 38 .quo 37 2,M 7 38])
def ZXn:PC :=
 (R [4,5] [M 39 6,M 40 7,I 41 (.slcS (.s 39) none (some (.s 40))),M 42 6,M 43 7,I 44 (.slcS (.s 42) (some (.s 43)) none),I 45 (.bslice false 1 [(.str []),(.str [])] [(0,(.s 41)),(1,(.s 44))]),M 4 45,K 5 0])
def ZMz:PF:=⟨false,
 (D ZXe
 (D (D ZXf
 (E 15
 (D ZXg
 .ret)
 .skip))
 (D ZXh
 (D (D ZXi
 (E 21
 (D ZXj
 .ret)
 .skip))
 (D (D ZXk
 (E 31
 (D ZXl
 .ret)
 .skip))
 (D ZXm
 (D ZXn
 .ret))))))),
 [.s 4,.s 5]⟩
theorem Zdd:Zv Proofs.Try.prog false Zdc Proofs.Try.f102=some ZMz:=by kernel_rfl
def ZXo:List Hint:=[H [0],H [2,3]]
def ZP9:PC :=
 (R [0] [K 2 0,I 3 (.mv (.v (.int .u64 0)))])
def ZQA:PC :=
 (R [2,3] [M 4 0,I 5 (.bin .and (.s 4) (.v (.int .u64 65535))),I 6 (.cint .i64 (.s 5)),M 7 0,I 8 (.bin .shr (.s 7) (.v (.int .u64 16))),M 2 6,M 3 8])
def ZHp:PF:=⟨false,
 (D ZP9
 (D ZQA
 .ret)),
 [.s 2,.s 3]⟩
theorem ZXp:Zv Proofs.Try.prog false ZXo Proofs.Try.f103=some ZHp:=by kernel_rfl
end Go.Q15
