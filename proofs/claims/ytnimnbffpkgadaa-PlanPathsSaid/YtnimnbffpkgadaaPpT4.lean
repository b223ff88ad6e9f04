/- Resolved code, printed by program. No condition. -/
import Derived.Test.YtnimnbffpkgadaaProg
import Derived.KernelRfl
import Derived.Test.YtnimnbffpkgadaaPpT3
set_option linter.unusedVariables false
set_option linter.unusedSimpArgs false
namespace Go.Q15
open Go Go.QAbs
set_option maxRecDepth 100000
abbrev Zjz:FuncId:=1
abbrev Zfx:FuncId:=2
abbrev Zbc:FuncId:=3
abbrev J7:FuncId:=4
abbrev Zdy:FuncId:=5
abbrev Zdz:FuncId:=6
abbrev J1:FuncId:=7
abbrev Jt:FuncId:=8
abbrev Ze1:FuncId:=9
abbrev Zd0:FuncId:=10
abbrev ZkM:FuncId:=11
abbrev YK:FuncId:=12
abbrev ZcL:FuncId:=13
abbrev ZdN:FuncId:=14
abbrev Q7:FuncId:=15
abbrev ZiM:FuncId:=16
abbrev Zi8:FuncId:=17
abbrev ZBs:FuncId:=18
abbrev ZDX:FuncId:=19
abbrev J2:FuncId:=20
abbrev Jf:FuncId:=21
abbrev Xl:FuncId:=22
abbrev Xv:FuncId:=23
abbrev YL:FuncId:=24
abbrev Xw:FuncId:=25
abbrev ZBt:FuncId:=26
abbrev ZIk:FuncId:=27
abbrev Jz:FuncId:=28
abbrev ZDY:FuncId:=29
abbrev Yn:FuncId:=30
abbrev XG:FuncId:=31
abbrev Z9:FuncId:=32
abbrev JQ:FuncId:=33
abbrev QD:FuncId:=34
abbrev YM:FuncId:=35
abbrev Qh:FuncId:=36
abbrev ZAX:FuncId:=37
abbrev ZBu:FuncId:=38
abbrev Zj0:FuncId:=39
abbrev Yd:FuncId:=40
abbrev Xx:FuncId:=41
abbrev ZkN:FuncId:=42
abbrev Ye:FuncId:=43
abbrev Yx:FuncId:=44
abbrev Jk:FuncId:=45
abbrev J8:FuncId:=46
abbrev ZDZ:FuncId:=47
abbrev ZBv:FuncId:=48
abbrev ZFU:FuncId:=49
abbrev QH:FuncId:=50
abbrev Qb:FuncId:=51
abbrev JC:FuncId:=52
abbrev J9:FuncId:=53
abbrev YA:FuncId:=54
abbrev Yf:FuncId:=55
abbrev Xm:FuncId:=56
abbrev Jo:FuncId:=57
abbrev ZBw:FuncId:=58
abbrev Xy:FuncId:=59
abbrev Yy:FuncId:=60
abbrev Xe:FuncId:=61
abbrev J3:FuncId:=62
abbrev J4:FuncId:=63
abbrev XH:FuncId:=64
abbrev Jc:FuncId:=65
abbrev Yi:FuncId:=66
abbrev Xz:FuncId:=67
abbrev X3:FuncId:=68
abbrev Yz:FuncId:=69
abbrev Zz:FuncId:=70
abbrev JR:FuncId:=71
abbrev JD:FuncId:=72
abbrev YB:FuncId:=73
abbrev Qy:FuncId:=74
abbrev ZBB:FuncId:=75
abbrev ZIl:FuncId:=76
abbrev ZDw:FuncId:=77
abbrev ZDa:FuncId:=78
abbrev Jg:FuncId:=79
abbrev ZAf:FuncId:=80
abbrev JJ:FuncId:=81
abbrev ZAg:FuncId:=82
abbrev XL:FuncId:=83
abbrev ZAY:FuncId:=84
abbrev JF:FuncId:=85
abbrev JK:FuncId:=86
abbrev J0:FuncId:=87
abbrev Yj:FuncId:=88
abbrev Xf:FuncId:=89
abbrev Ju:FuncId:=90
abbrev X4:FuncId:=91
abbrev ZFV:FuncId:=92
abbrev Jp:FuncId:=93
abbrev ZDx:FuncId:=94
abbrev ZBx:FuncId:=95
abbrev ZFW:FuncId:=96
abbrev ZDy:FuncId:=97
abbrev X5:FuncId:=98
abbrev ZAZ:FuncId:=99
abbrev ZBy:FuncId:=100
abbrev XW:FuncId:=101
abbrev Y7:FuncId:=102
abbrev XY:FuncId:=103
abbrev ZAt:FuncId:=104
abbrev YN:FuncId:=105
abbrev XI:FuncId:=106
abbrev XJ:FuncId:=107
abbrev Xg:FuncId:=108
abbrev I (d:Nat) (o:PO):PI:=⟨some d,none,false,o⟩
abbrev G (d g:Nat) (b:Bool) (o:PO):PI:=⟨some d,some (g,b),false,o⟩
abbrev J (o:PO):PI:=⟨none,none,false,o⟩
abbrev C (f:FuncId) (a:List Opd):PO:=.call .norm (.v (.func (.func f) [] [])) a
abbrev H (k:List Nat):Hint:=⟨k,[],[],[],[],[]⟩
abbrev V (i:Int):Opd:=.v (.int .i64 i)
abbrev ZT:AV:=.agg [(.int .u64 0),(.int .i64 0),(.int .i64 0),(.int .i64 0),(.int .i64 0),(.str []),.nils]
abbrev ZR:AV:=.agg [(.int .u64 0),(.int .i64 0),(.int .i64 0),(.int .i64 0),(.int .i64 0)]
abbrev ZM:AV:=.agg [(.int .i64 0),(.int .i64 0),(.int .i64 0)]
abbrev ZN:AV:=.agg [(.int .i64 0),(.str []),.nils]
abbrev ZK:AV:=.agg [(.int .u64 0),(.int .i64 0),(.int .i64 0),(.int .i64 0)]
def ZEH:List Hint:=[H [0,1,2,3],H [0,1,2,3,31],H [8],H [0,1,2,3,9,10],H [0,1,2,3,9,40],H [8],H [0,1,2,3,11,12],H [0,1,2,3,11,12,13,14],H [0,1,2,3,11,12,13,14,15,16],H [0,1,2,3,11,12,13,14,15,58],H [8],H [0,2,3,11,12,13,14,15,17],H [3,11,12,13,14,15,17,18],H [3,11,12,13,14,15,16,18,19],H [3,11,12,13,14,15,16,18,19,20,21],⟨[3,11,12,13,14,15,18,19,100],[],[(8,.pure),(14,.pure)],[],[],[]⟩,H [8],H [11,12,13,14,19,112],H [8],H [11,12,13,14,19,22],H [11,12,13,14,19,22,23],H [11,12,13,14,19,22,23,118],H [11,12,13,14,19,22,23,127],H [8],H [11,12,13,14,19,22,23],H [11,13,14,16,19],H [11,13,14,16,21],⟨[8],[],[(8,.pure)],[],[],[]⟩]
def ZCw:PC :=
 (.reg [0,1,2,3] [I 8 (.mv (.v (.bool false)))])
def ZCx:PC :=
 (.reg [0,1,2,3,31] [I 24 (.mv (.s 0)),I 25 (.len 0 (.s 24)),I 26 (.bin .gtr (.s 25) (V 900)),I 27 (.mv (.s 26)),G 28 27 false (.mv (.s 3)),G 29 27 false (.len 0 (.s 28)),G 30 27 false (.bin .gtr (.s 29) (V 300)),I 31 (.pick (.s 27) (.v (.bool true)) (.s 30))])
def ZCy:PC :=
 (.reg [8] [I 32 (C J1 []),I 8 (.mv (.s 32))])
def ZCz:PC :=
 (.reg [0,1,2,3,9,10] [I 34 (.mv (.s 0)),I 35 (.bslice false 1 [(.str [])] [(0,(.s 34))]),I 36 (C Jt [(.s 35)]),I 33 (.mv (.s 36)),I 37 (.ext (.s 33) 0),I 38 (.ext (.s 33) 1),I 9 (.box (.v (.agg [.nilptr,.nilptr,.nils]))),J (.st 3 (.s 9) (.s 37)),I 10 (.mv (.s 38))])
def ZC0:PC :=
 (.reg [0,1,2,3,9,40] [I 39 (.mv (.s 10)),I 40 (.un .not (.s 39))])
def ZC1:PC :=
 (.reg [8] [I 8 (.mv (.v (.bool false)))])
def ZC2:PC :=
 (.reg [0,1,2,3,11,12] [I 41 (.fadr 0 (.s 9)),I 42 (.ld false 1 (.s 41)),I 43 (.fadr 2 (.s 9)),I 44 (.ld false 1 (.s 43)),I 45 (.ixS 5 (.s 44) (V 0)),I 46 (.ld true 5 (.s 45)),I 12 (.box (.v ZR)),I 11 (.mv (.s 42)),J (.st 5 (.s 12) (.s 46))])
def ZC3:PC :=
 (.reg [0,1,2,3,11,12,13,14] [I 47 (.mv (.s 11)),I 48 (C J2 [(.s 47)]),I 49 (.mv (.s 11)),I 50 (C Jf [(.s 49)]),I 13 (.box (.v (.agg [(.int .i64 0),(.int .i64 0),(.int .i64 0),(.int .i64 0),(.int .i64 0),(.int .i64 0),(.int .i64 0)]))),J (.st 7 (.s 13) (.s 48)),I 14 (.mv (.s 50))])
def ZC4:PC :=
 (.reg [0,1,2,3,11,12,13,14,15,16] [I 52 (.mv (.s 11)),I 53 (.ld true 5 (.s 12)),I 54 (C Xl [(.s 52),(.s 53)]),I 51 (.mv (.s 54)),I 55 (.ext (.s 51) 0),I 56 (.ext (.s 51) 1),I 15 (.box (.v ZT)),J (.st 7 (.s 15) (.s 55)),I 16 (.mv (.s 56))])
def ZC5:PC :=
 (.reg [0,1,2,3,11,12,13,14,15,58] [I 57 (.mv (.s 16)),I 58 (.bin .neq (.s 57) (V 0))])
def ZBz:PC :=
 (.reg [8] [I 8 (.mv (.v (.bool false)))])
def ZB0:PC :=
 (.reg [0,2,3,11,12,13,14,15,17] [I 59 (.mv (.s 1)),I 60 (.mv (.s 0)),I 61 (.len 0 (.s 60)),I 62 (C YK [(.s 59),(.s 61)]),I 17 (.mv (.s 62))])
def ZB1:PC :=
 (.reg [3,11,12,13,14,15,17,18] [I 63 (.mv (.s 2)),I 64 (.mv (.s 0)),I 65 (.len 0 (.s 64)),I 66 (.mv (.s 17)),I 67 (.bin .sub (.s 65) (.s 66)),I 68 (C YK [(.s 63),(.s 67)]),I 18 (.mv (.s 68))])
def ZB2:PC :=
 (.reg [3,11,12,13,14,15,16,18,19] [I 70 (.mv (.s 11)),I 71 (.ld true 7 (.s 15)),I 72 (.mv (.s 17)),I 73 (.mv (.s 18)),I 74 (.mv (.s 3)),I 75 (C ZBs [(.s 70),(.s 71),(.s 72),(.s 73),(.s 74)]),I 69 (.mv (.s 75)),I 76 (.ext (.s 69) 0),I 77 (.ext (.s 69) 1),I 19 (.box (.v ZT)),J (.st 7 (.s 19) (.s 76)),I 16 (.mv (.s 77))])
def ZB3:PC :=
 (.reg [3,11,12,13,14,15,16,18,19,20,21] [I 79 (.mv (.s 3)),I 80 (C Xv [(.s 79)]),I 78 (.mv (.s 80)),I 81 (.ext (.s 78) 0),I 82 (.ext (.s 78) 1),I 20 (.box (.v ZT)),J (.st 7 (.s 20) (.s 81)),I 21 (.mv (.s 82))])
def ZB4:PC :=
 (.reg [3,11,12,13,14,15,18,19,100] [I 83 (.mv (.s 16)),I 84 (.bin .neq (.s 83) (V 0)),I 85 (.mv (.s 84)),G 86 85 false (.mv (.s 21)),G 87 85 false (.bin .neq (.s 86) (V 0)),I 88 (.pick (.s 85) (.v (.bool true)) (.s 87)),I 89 (.mv (.s 88)),G 90 89 false (.ld true 7 (.s 19)),G 91 89 false (.call .pure (.v (.func (.func YL) [] [])) [(.s 90)]),G 92 89 false (.fadr 1 (.s 12)),G 93 89 false (.ld false 1 (.s 92)),G 94 89 false (.bin .add (.s 93) (V 2)),G 95 89 false (.bin .mul (V 12) (.s 94)),G 96 89 false (.ld true 7 (.s 20)),G 97 89 false (.call .pure (.v (.func (.func YL) [] [])) [(.s 96)]),G 98 89 false (.bin .add (.s 95) (.s 97)),G 99 89 false (.bin .gtr (.s 91) (.s 98)),I 100 (.pick (.s 89) (.v (.bool true)) (.s 99))])
def ZB5:PC :=
 (.reg [8] [I 8 (.mv (.v (.bool false)))])
def ZB6:PC :=
 (.reg [11,12,13,14,19,112] [I 101 (.mv (.s 18)),I 102 (.bin .eql (.s 101) (V 0)),I 103 (.mv (.s 102)),G 104 103 true (.mv (.s 3)),G 105 103 true (.bin .eql (.s 104) (.v (.str []))),I 106 (.pick (.s 103) (.s 105) (.v (.bool false))),I 107 (.mv (.s 106)),G 108 107 true (.ld true 7 (.s 19)),G 109 107 true (.ld true 7 (.s 15)),G 110 107 true (C Q7 [(.s 108),(.s 109)]),G 111 107 true (.un .not (.s 110)),I 112 (.pick (.s 107) (.s 111) (.v (.bool false)))])
def ZB7:PC :=
 (.reg [8] [I 8 (.mv (.v (.bool false)))])
def ZB8:PC :=
 (.reg [11,12,13,14,19,22] [I 113 (.ld true 7 (.s 19)),I 114 (C ZDX [(.s 113)]),I 22 (.mv (.s 114))])
def ZB9:PC :=
 (.reg [11,12,13,14,19,22,23] [I 23 (.mv (V 0))])
def ZCA:PC :=
 (.reg [11,12,13,14,19,22,23,118] [I 115 (.mv (.s 23)),I 116 (.mv (.s 22)),I 117 (.len 1 (.s 116)),I 118 (.bin .lss (.s 115) (.s 117))])
def ZCB:PC :=
 (.reg [11,12,13,14,19,22,23,127] [I 121 (.mv (.s 14)),I 122 (.mv (.s 22)),I 123 (.mv (.s 23)),I 124 (.ixS 1 (.s 122) (.s 123)),I 125 (.ld false 1 (.s 124)),I 126 (C Xw [(.s 121),(.s 125)]),I 127 (.un .not (.s 126))])
def ZCC:PC :=
 (.reg [8] [I 8 (.mv (.v (.bool false)))])
def ZCD:PC :=
 (.reg [11,12,13,14,19,22,23] [I 119 (.mv (.s 23)),I 120 (.bin .add (.s 119) (V 1)),I 23 (.mv (.s 120))])
def p_quartolaw15_PlanPaths_25:PC :=
 (.seq (.seq ZCA
 (.ite (.s 118)
 .skip
 (.exit 0)))
 (.seq (.block 1
 (.seq ZCB
 (.ite (.s 127)
 (.seq ZCC
 .ret)
 .skip)))
 ZCD))
def p_quartolaw15_PlanPaths_26:PC :=
 (.reg [11,13,14,16,19] [I 129 (.mv (.s 11)),I 130 (.ld true 5 (.s 12)),I 131 (.ld true 7 (.s 19)),I 132 (C ZBt [(.s 129),(.s 130),(.s 131)]),I 128 (.mv (.s 132)),I 133 (.ext (.s 128) 0),I 134 (.ext (.s 128) 1),I 16 (.mv (.s 134))])
def p_quartolaw15_PlanPaths_27:PC :=
 (.reg [11,13,14,16,21] [I 136 (.mv (.s 11)),I 137 (.ld true 7 (.s 19)),I 138 (C ZIk [(.s 136),(.s 137)]),I 135 (.mv (.s 138)),I 139 (.ext (.s 135) 0),I 140 (.ext (.s 135) 1),I 21 (.mv (.s 140))])
def p_quartolaw15_PlanPaths_28:PC :=
 (.reg [8] [I 141 (.mv (.s 16)),I 142 (.bin .eql (.s 141) (V 0)),I 143 (.mv (.s 142)),G 144 143 true (.mv (.s 21)),G 145 143 true (.bin .eql (.s 144) (V 0)),I 146 (.pick (.s 143) (.s 145) (.v (.bool false))),I 147 (.mv (.s 146)),G 148 147 true (.mv (.s 11)),G 149 147 true (.call .pure (.v (.func (.func J2) [] [])) [(.s 148)]),G 150 147 true (.ld true 7 (.s 13)),G 151 147 true (.eqs false 0 [(0,0),(1,0),(2,0),(3,0),(4,0),(5,0),(6,0)] (.s 149) (.s 150)),I 152 (.pick (.s 147) (.s 151) (.v (.bool false))),I 153 (.mv (.s 152)),G 154 153 true (.mv (.s 11)),G 155 153 true (C Jf [(.s 154)]),G 156 153 true (.mv (.s 14)),G 157 153 true (C Jz [(.s 155),(.s 156)]),I 158 (.pick (.s 153) (.s 157) (.v (.bool false))),I 159 (.mv (.s 158)),G 160 159 true (C J1 []),I 161 (.pick (.s 159) (.s 160) (.v (.bool false))),I 8 (.mv (.s 161))])
def Xn:PF:=⟨false,
 (.seq ZCw
 (.seq (.seq ZCx
 (.ite (.s 31)
 (.seq ZCy
 .ret)
 .skip))
 (.seq ZCz
 (.seq (.seq ZC0
 (.ite (.s 40)
 (.seq ZC1
 .ret)
 .skip))
 (.seq ZC2
 (.seq ZC3
 (.seq ZC4
 (.seq (.seq ZC5
 (.ite (.s 58)
 (.seq ZBz
 .ret)
 .skip))
 (.seq ZB0
 (.seq ZB1
 (.seq ZB2
 (.seq ZB3
 (.seq (.seq ZB4
 (.ite (.s 100)
 (.seq ZB5
 .ret)
 .skip))
 (.seq (.seq ZB6
 (.ite (.s 112)
 (.seq ZB7
 .ret)
 .skip))
 (.seq ZB8
 (.seq (.seq ZB9
 (.block 0
 (.loop p_quartolaw15_PlanPaths_25)))
 (.seq p_quartolaw15_PlanPaths_26
 (.seq p_quartolaw15_PlanPaths_27
 (.seq p_quartolaw15_PlanPaths_28
 .ret))))))))))))))))))),
 [.s 8]⟩
theorem ZEI:Zt Go.Proofs.Try.prog false ZEH Go.Proofs.Try.f4=some Xn:=by kernel_rfl
def ZKF:List Hint:=[H [],H [1,2],H [0]]
def ZHB:PC :=
 (.reg [] [I 0 (.mv (.v (.bool false)))])
def ZHC:PC :=
 (.reg [1,2] [I 4 (C Xv [(.v (.str [97,98,99,100,101,102,103,104,105,106,107,108,109,110,111,112,113]))]),I 3 (.mv (.s 4)),I 5 (.ext (.s 3) 0),I 6 (.ext (.s 3) 1),I 1 (.box (.v ZT)),J (.st 7 (.s 1) (.s 5)),I 2 (.mv (.s 6))])
def ZHD:PC :=
 (.reg [0] [I 7 (.mv (.s 2)),I 8 (.bin .eql (.s 7) (V 0)),I 9 (.mv (.s 8)),G 10 9 true (.fadr 1 (.s 1)),G 11 9 true (.ld false 1 (.s 10)),G 12 9 true (.bin .eql (.s 11) (V 1)),I 13 (.pick (.s 9) (.s 12) (.v (.bool false))),I 14 (.mv (.s 13)),G 15 14 true (.fadr 6 (.s 1)),G 16 14 true (.ld false 1 (.s 15)),G 17 14 true (.len 1 (.s 16)),G 18 14 true (.bin .eql (.s 17) (V 2)),I 19 (.pick (.s 14) (.s 18) (.v (.bool false))),I 20 (.mv (.s 19)),G 21 20 true (.fadr 6 (.s 1)),G 22 20 true (.ld false 1 (.s 21)),G 23 20 true (.ixS 7 (.s 22) (V 0)),G 24 20 true (.fadr 5 (.s 23)),G 25 20 true (.ld false 1 (.s 24)),G 26 20 true (.bin .eql (.s 25) (.v (.str [97,98,99,100,101,102,103,104,105]))),I 27 (.pick (.s 20) (.s 26) (.v (.bool false))),I 28 (.mv (.s 27)),G 29 28 true (.fadr 6 (.s 1)),G 30 28 true (.ld false 1 (.s 29)),G 31 28 true (.ixS 7 (.s 30) (V 1)),G 32 28 true (.fadr 5 (.s 31)),G 33 28 true (.ld false 1 (.s 32)),G 34 28 true (.bin .eql (.s 33) (.v (.str [106,107,108,109,110,111,112,113]))),I 35 (.pick (.s 28) (.s 34) (.v (.bool false))),I 36 (.mv (.s 35)),G 37 36 true (.ld true 7 (.s 1)),G 38 36 true (C YL [(.s 37)]),G 39 36 true (.bin .eql (.s 38) (V 3)),I 40 (.pick (.s 36) (.s 39) (.v (.bool false))),I 0 (.mv (.s 40))])
def ZAx:PF:=⟨false,
 (.seq ZHB
 (.seq ZHC
 (.seq ZHD
 .ret))),
 [.s 0]⟩
theorem ZKG:Zt Go.Proofs.Try.prog false ZKF Go.Proofs.Try.f7=some ZAx:=by kernel_rfl
def ZM6:List Hint:=[H [0,2],H [0,2,4,5],H [0,2,4,5,6,7],H [0,2,4,5,6,7,8],H [0,2,4,6,8,35],H [2,3],H [0,2,4,6,8,9],H [0,2,4,6,8,9,40],H [0,2,4,6,8,9,10],H [0,2,4,6,8,9,10,11,12],H [0,2,4,6,8,9,11,12,13,14],H [0,2,4,6,8,9,11,72],H [2,3],H [0,2,4,6,8,9],H [0,2,4,6,8,9],H [2,3]]
def ZKH:PC :=
 (.reg [0,2] [I 2 (.box (.v (.agg [.nilptr,.nilptr,.nils]))),I 3 (.mv (.v (.bool false)))])
def ZKI:PC :=
 (.reg [0,2,4,5] [I 16 (C ZDY [(V 700),(.v (.int .u64 3))]),I 15 (.mv (.s 16)),I 17 (.ext (.s 15) 0),I 18 (.ext (.s 15) 1),I 4 (.mv (.s 17)),I 5 (.mv (.s 18))])
def ZKJ:PC :=
 (.reg [0,2,4,5,6,7] [I 20 (C Yn [(V 700),(.v (.int .u64 3))]),I 19 (.mv (.s 20)),I 21 (.ext (.s 19) 0),I 22 (.ext (.s 19) 1),I 6 (.mv (.s 21)),I 7 (.mv (.s 22))])
def ZKK:PC :=
 (.reg [0,2,4,5,6,7,8] [I 23 (.mv (.s 4)),I 24 (.mv (.s 6)),I 25 (.build [.nilptr,.nilptr,.nils] [(0,1,(.s 23)),(1,1,(.s 24))]),I 8 (.box (.v (.agg [.nilptr,.nilptr,.nils]))),J (.st 3 (.s 8) (.s 25))])
def ZKL:PC :=
 (.reg [0,2,4,6,8,35] [I 26 (.mv (.s 4)),I 27 (.eqs false 3 [] (.s 26) (.v .nilptr)),I 28 (.mv (.s 27)),G 29 28 false (.mv (.s 5)),G 30 28 false (.bin .neq (.s 29) (V 0)),I 31 (.pick (.s 28) (.v (.bool true)) (.s 30)),I 32 (.mv (.s 31)),G 33 32 false (.mv (.s 7)),G 34 32 false (.bin .neq (.s 33) (V 0)),I 35 (.pick (.s 32) (.v (.bool true)) (.s 34))])
def ZKM:PC :=
 (.reg [2,3] [I 36 (.ld true 3 (.s 8)),J (.st 3 (.s 2) (.s 36)),I 3 (.mv (.v (.bool false)))])
def ZKN:PC :=
 (.reg [0,2,4,6,8,9] [I 9 (.mv (V 0))])
def ZKO:PC :=
 (.reg [0,2,4,6,8,9,40] [I 37 (.mv (.s 9)),I 38 (.mv (.s 0)),I 39 (.len 1 (.s 38)),I 40 (.bin .lss (.s 37) (.s 39))])
def ZKP:PC :=
 (.reg [0,2,4,6,8,9,10] [I 43 (.mv (.s 0)),I 44 (.mv (.s 9)),I 45 (.ixS 1 (.s 43) (.s 44)),I 46 (.ld false 1 (.s 45)),I 47 (C XG [(.s 46)]),I 10 (.box (.v ZT)),J (.st 7 (.s 10) (.s 47))])
def ZKQ:PC :=
 (.reg [0,2,4,6,8,9,10,11,12] [I 49 (.mv (.s 4)),I 50 (.mkf (.func JQ) [(.s 49)] []),I 51 (.ld true 7 (.s 10)),I 52 (C Z9 [(.s 50),(.s 51)]),I 48 (.mv (.s 52)),I 53 (.ext (.s 48) 0),I 54 (.ext (.s 48) 1),I 11 (.box (.v ZR)),J (.st 5 (.s 11) (.s 53)),I 12 (.mv (.s 54))])
def ZIm:PC :=
 (.reg [0,2,4,6,8,9,11,12,13,14] [I 56 (.mv (.s 6)),I 57 (.mkf (.func QD) [(.s 56)] []),I 58 (.ld true 7 (.s 10)),I 59 (C Z9 [(.s 57),(.s 58)]),I 55 (.mv (.s 59)),I 60 (.ext (.s 55) 0),I 61 (.ext (.s 55) 1),I 13 (.box (.v ZR)),J (.st 5 (.s 13) (.s 60)),I 14 (.mv (.s 61))])
def ZIn:PC :=
 (.reg [0,2,4,6,8,9,11,72] [I 62 (.mv (.s 12)),I 63 (.bin .neq (.s 62) (V 0)),I 64 (.mv (.s 63)),G 65 64 false (.mv (.s 14)),G 66 64 false (.bin .neq (.s 65) (V 0)),I 67 (.pick (.s 64) (.v (.bool true)) (.s 66)),I 68 (.mv (.s 67)),G 69 68 false (.ld true 5 (.s 11)),G 70 68 false (.ld true 5 (.s 13)),G 71 68 false (.eqs true 0 [(0,0),(1,0),(2,0),(3,0),(4,0)] (.s 69) (.s 70)),I 72 (.pick (.s 68) (.v (.bool true)) (.s 71))])
def ZIo:PC :=
 (.reg [2,3] [I 73 (.ld true 3 (.s 8)),J (.st 3 (.s 2) (.s 73)),I 3 (.mv (.v (.bool false)))])
def ZIp:PC :=
 (.reg [0,2,4,6,8,9] [I 74 (.fadr 2 (.s 8)),I 75 (.ld false 1 (.s 74)),I 76 (.ld true 5 (.s 11)),I 77 (.bslice false 5 [ZR] [(0,(.s 76))]),I 78 (.app 5 40 (.s 75) (.s 77)),I 79 (.fadr 2 (.s 8)),J (.st 1 (.s 79) (.s 78))])
def ZIq:PC :=
 (.reg [0,2,4,6,8,9] [I 41 (.mv (.s 9)),I 42 (.bin .add (.s 41) (V 1)),I 9 (.mv (.s 42))])
def ZIr:PC :=
 (.seq (.seq ZKO
 (.ite (.s 40)
 .skip
 (.exit 0)))
 (.seq (.block 1
 (.seq ZKP
 (.seq ZKQ
 (.seq ZIm
 (.seq (.seq ZIn
 (.ite (.s 72)
 (.seq ZIo
 .ret)
 .skip))
 ZIp)))))
 ZIq))
def ZIs:PC :=
 (.reg [2,3] [I 80 (.ld true 3 (.s 8)),J (.st 3 (.s 2) (.s 80)),I 3 (.mv (.v (.bool true)))])
def ZDb:PF:=⟨true,
 (.seq ZKH
 (.seq ZKI
 (.seq ZKJ
 (.seq ZKK
 (.seq (.seq ZKL
 (.ite (.s 35)
 (.seq ZKM
 .ret)
 .skip))
 (.seq (.seq ZKN
 (.block 0
 (.loop ZIr)))
 (.seq ZIs
 .ret))))))),
 [.c 2 true 3,.s 3]⟩
theorem ZM7:Zt Go.Proofs.Try.prog true ZM6 Go.Proofs.Try.f8=some ZDb:=by kernel_rfl
def ZL3:List Hint:=[H [0,1],H [4]]
def ZIt:PC :=
 (.reg [0,1] [I 4 (.mv (V 0))])
def ZIu:PC :=
 (.reg [4] [I 5 (.mv (.s 0)),I 6 (.cint .u64 (.s 5)),I 7 (.mv (.s 1)),I 8 (.bin .add (.s 7) (V 1)),I 9 (.cint .u64 (.s 8)),I 10 (.bin .rem (.s 6) (.s 9)),I 11 (.cint .i64 (.s 10)),I 4 (.mv (.s 11))])
def ZCE:PF:=⟨false,
 (.seq ZIt
 (.seq ZIu
 .ret)),
 [.s 4]⟩
theorem ZL4:Zt Go.Proofs.Try.prog false ZL3 Go.Proofs.Try.f12=some ZCE:=by kernel_rfl
def ZL5:List Hint:=[H [2,3],H [2,3,40],H [4],H [2,3,5],H [2,3,5,45],H [2,3,5,59],H [4],H [2,3,5],H [4]]
def ZIv:PC :=
 (.reg [2,3] [I 2 (.box (.s 0)),I 3 (.box (.s 1)),I 4 (.mv (.v (.bool false)))])
def ZIw:PC :=
 (.reg [2,3,40] [I 6 (.fadr 0 (.s 2)),I 7 (.ld false 1 (.s 6)),I 8 (.fadr 0 (.s 3)),I 9 (.ld false 1 (.s 8)),I 10 (.bin .neq (.s 7) (.s 9)),I 11 (.mv (.s 10)),G 12 11 false (.fadr 1 (.s 2)),G 13 11 false (.ld false 1 (.s 12)),G 14 11 false (.fadr 1 (.s 3)),G 15 11 false (.ld false 1 (.s 14)),G 16 11 false (.bin .neq (.s 13) (.s 15)),I 17 (.pick (.s 11) (.v (.bool true)) (.s 16)),I 18 (.mv (.s 17)),G 19 18 false (.fadr 2 (.s 2)),G 20 18 false (.ld true 3 (.s 19)),G 21 18 false (.fadr 2 (.s 3)),G 22 18 false (.ld true 3 (.s 21)),G 23 18 false (.eqs true 0 [(0,0),(1,0),(2,0)] (.s 20) (.s 22)),I 24 (.pick (.s 18) (.v (.bool true)) (.s 23)),I 25 (.mv (.s 24)),G 26 25 false (.fadr 5 (.s 2)),G 27 25 false (.ld false 1 (.s 26)),G 28 25 false (.fadr 5 (.s 3)),G 29 25 false (.ld false 1 (.s 28)),G 30 25 false (.bin .neq (.s 27) (.s 29)),I 31 (.pick (.s 25) (.v (.bool true)) (.s 30)),I 32 (.mv (.s 31)),G 33 32 false (.fadr 6 (.s 2)),G 34 32 false (.ld false 1 (.s 33)),G 35 32 false (.len 1 (.s 34)),G 36 32 false (.fadr 6 (.s 3)),G 37 32 false (.ld false 1 (.s 36)),G 38 32 false (.len 1 (.s 37)),G 39 32 false (.bin .neq (.s 35) (.s 38)),I 40 (.pick (.s 32) (.v (.bool true)) (.s 39))])
def ZIx:PC :=
 (.reg [4] [I 4 (.mv (.v (.bool false)))])
def ZIy:PC :=
 (.reg [2,3,5] [I 5 (.mv (V 0))])
def ZIz:PC :=
 (.reg [2,3,5,45] [I 41 (.mv (.s 5)),I 42 (.fadr 6 (.s 2)),I 43 (.ld false 1 (.s 42)),I 44 (.len 1 (.s 43)),I 45 (.bin .lss (.s 41) (.s 44))])
def ZI0:PC :=
 (.reg [2,3,5,59] [I 48 (.fadr 6 (.s 2)),I 49 (.ld false 1 (.s 48)),I 50 (.mv (.s 5)),I 51 (.ixS 7 (.s 49) (.s 50)),I 52 (.ld true 7 (.s 51)),I 53 (.fadr 6 (.s 3)),I 54 (.ld false 1 (.s 53)),I 55 (.mv (.s 5)),I 56 (.ixS 7 (.s 54) (.s 55)),I 57 (.ld true 7 (.s 56)),I 58 (C Q7 [(.s 52),(.s 57)]),I 59 (.un .not (.s 58))])
def ZI1:PC :=
 (.reg [4] [I 4 (.mv (.v (.bool false)))])
def ZI2:PC :=
 (.reg [2,3,5] [I 46 (.mv (.s 5)),I 47 (.bin .add (.s 46) (V 1)),I 5 (.mv (.s 47))])
def ZI3:PC :=
 (.seq (.seq ZIz
 (.ite (.s 45)
 .skip
 (.exit 0)))
 (.seq (.block 1
 (.seq ZI0
 (.ite (.s 59)
 (.seq ZI1
 .ret)
 .skip)))
 ZI2))
def ZI4:PC :=
 (.reg [4] [I 4 (.mv (.v (.bool true)))])
def ZCF:PF:=⟨false,
 (.seq ZIv
 (.seq (.seq ZIw
 (.ite (.s 40)
 (.seq ZIx
 .ret)
 .skip))
 (.seq (.seq ZIy
 (.block 0
 (.loop ZI3)))
 (.seq ZI4
 .ret)))),
 [.s 4]⟩
theorem ZL6:Zt Go.Proofs.Try.prog false ZL5 Go.Proofs.Try.f15=some ZCF:=by kernel_rfl
def ZUM:List Hint:=[H [0,2,3,4,6,10],H [0,2,3,4,6,10,12],H [0,2,3,4,6,10,12,24],H [10,11],H [0,2,3,4,6,10,13],H [0,2,3,4,6,10,13,46],H [10,11],H [0,2,3,4,6,10,60],H [10,11],H [0,2,3,4,6,10,67],H [10,11],H [0,3,4,10,14,15,16],H [0,3,4,10,14,15,16,79],H [10,11],H [0,4,10,14,16,18],H [0,4,10,14,16,18,91],H [10,11],H [0,10,14,16,18,19],H [0,10,14,16,18,19,100],H [10,11],H [0,10,14,16,18],H [0,10,14,16,18,111],H [10,11],H [10,14,16],H [10,11]]
def ZO4:PC :=
 (.reg [0,2,3,4,6,10] [I 6 (.box (.s 1)),I 10 (.box (.v ZT)),I 11 (.mv (V 0))])
def ZO5:PC :=
 (.reg [0,2,3,4,6,10,12] [I 20 (.mv (.s 0)),I 21 (.ld true 7 (.s 6)),I 22 (C YM [(.s 20),(.s 21)]),I 12 (.mv (.s 22))])
def ZO6:PC :=
 (.reg [0,2,3,4,6,10,12,24] [I 23 (.mv (.s 12)),I 24 (.bin .neq (.s 23) (V 0))])
def ZO7:PC :=
 (.reg [10,11] [I 25 (.build [(.int .u64 0),(.int .i64 0),(.int .i64 0),(.int .i64 0),(.int .i64 0),(.str []),.nils] []),I 26 (.mv (.s 12)),J (.st 7 (.s 10) (.s 25)),I 11 (.mv (.s 26))])
def ZO8:PC :=
 (.reg [0,2,3,4,6,10,13] [I 27 (.ld true 7 (.s 6)),I 28 (C Qh [(.s 27)]),I 13 (.mv (.s 28))])
def ZO9:PC :=
 (.reg [0,2,3,4,6,10,13,46] [I 29 (.mv (.s 2)),I 30 (.bin .lss (.s 29) (V 0)),I 31 (.mv (.s 30)),G 32 31 false (.mv (.s 2)),G 33 31 false (.mv (.s 13)),G 34 31 false (.bin .gtr (.s 32) (.s 33)),I 35 (.pick (.s 31) (.v (.bool true)) (.s 34)),I 36 (.mv (.s 35)),G 37 36 false (.mv (.s 3)),G 38 36 false (.bin .lss (.s 37) (V 0)),I 39 (.pick (.s 36) (.v (.bool true)) (.s 38)),I 40 (.mv (.s 39)),G 41 40 false (.mv (.s 3)),G 42 40 false (.mv (.s 13)),G 43 40 false (.mv (.s 2)),G 44 40 false (.bin .sub (.s 42) (.s 43)),G 45 40 false (.bin .gtr (.s 41) (.s 44)),I 46 (.pick (.s 40) (.v (.bool true)) (.s 45))])
def ZPA:PC :=
 (.reg [10,11] [I 47 (.build [(.int .u64 0),(.int .i64 0),(.int .i64 0),(.int .i64 0),(.int .i64 0),(.str []),.nils] []),J (.st 7 (.s 10) (.s 47)),I 11 (.mv (V 3))])
def ZPB:PC :=
 (.reg [0,2,3,4,6,10,60] [I 48 (.mv (.s 13)),I 49 (.mv (.s 3)),I 50 (.bin .sub (.s 48) (.s 49)),I 51 (.mv (.s 4)),I 52 (.len 0 (.s 51)),I 53 (.mnx false (.s 52) (V 65536)),I 54 (.bin .sub (V 65536) (.s 53)),I 55 (.bin .gtr (.s 50) (.s 54)),I 56 (.mv (.s 55)),G 57 56 false (.mv (.s 4)),G 58 56 false (.len 0 (.s 57)),G 59 56 false (.bin .gtr (.s 58) (V 65536)),I 60 (.pick (.s 56) (.v (.bool true)) (.s 59))])
def ZPC:PC :=
 (.reg [10,11] [I 61 (.build [(.int .u64 0),(.int .i64 0),(.int .i64 0),(.int .i64 0),(.int .i64 0),(.str []),.nils] []),J (.st 7 (.s 10) (.s 61)),I 11 (.mv (V 5))])
def ZPD:PC :=
 (.reg [0,2,3,4,6,10,67] [I 62 (.mv (.s 3)),I 63 (.bin .eql (.s 62) (V 0)),I 64 (.mv (.s 63)),G 65 64 true (.mv (.s 4)),G 66 64 true (.bin .eql (.s 65) (.v (.str []))),I 67 (.pick (.s 64) (.s 66) (.v (.bool false)))])
def ZM8:PC :=
 (.reg [10,11] [I 68 (.ld true 7 (.s 6)),I 69 (C ZBu [(.s 68)]),J (.st 7 (.s 10) (.s 69)),I 11 (.mv (V 0))])
def ZM9:PC :=
 (.reg [0,3,4,10,14,15,16] [I 71 (.mv (.s 0)),I 72 (.ld true 7 (.s 6)),I 73 (.mv (.s 2)),I 74 (C ZAX [(.s 71),(.s 72),(.s 73)]),I 70 (.mv (.s 74)),I 75 (.ext (.s 70) 0),I 76 (.ext (.s 70) 1),I 77 (.ext (.s 70) 2),I 14 (.box (.v ZT)),I 15 (.box (.v ZT)),J (.st 7 (.s 14) (.s 75)),J (.st 7 (.s 15) (.s 76)),I 16 (.mv (.s 77))])
def ZNA:PC :=
 (.reg [0,3,4,10,14,15,16,79] [I 78 (.mv (.s 16)),I 79 (.bin .neq (.s 78) (V 0))])
def ZNB:PC :=
 (.reg [10,11] [I 80 (.build [(.int .u64 0),(.int .i64 0),(.int .i64 0),(.int .i64 0),(.int .i64 0),(.str []),.nils] []),I 81 (.mv (.s 16)),J (.st 7 (.s 10) (.s 80)),I 11 (.mv (.s 81))])
def ZNC:PC :=
 (.reg [0,4,10,14,16,18] [I 83 (.mv (.s 0)),I 84 (.ld true 7 (.s 15)),I 85 (.mv (.s 3)),I 86 (C ZAX [(.s 83),(.s 84),(.s 85)]),I 82 (.mv (.s 86)),I 87 (.ext (.s 82) 0),I 88 (.ext (.s 82) 1),I 89 (.ext (.s 82) 2),I 17 (.box (.v ZT)),I 18 (.box (.v ZT)),J (.st 7 (.s 17) (.s 87)),J (.st 7 (.s 18) (.s 88)),I 16 (.mv (.s 89))])
def ZND:PC :=
 (.reg [0,4,10,14,16,18,91] [I 90 (.mv (.s 16)),I 91 (.bin .neq (.s 90) (V 0))])
def ZNE:PC :=
 (.reg [10,11] [I 92 (.build [(.int .u64 0),(.int .i64 0),(.int .i64 0),(.int .i64 0),(.int .i64 0),(.str []),.nils] []),I 93 (.mv (.s 16)),J (.st 7 (.s 10) (.s 92)),I 11 (.mv (.s 93))])
def ZNF:PC :=
 (.reg [0,10,14,16,18,19] [I 95 (.mv (.s 4)),I 96 (C Xv [(.s 95)]),I 94 (.mv (.s 96)),I 97 (.ext (.s 94) 0),I 98 (.ext (.s 94) 1),I 19 (.box (.v ZT)),J (.st 7 (.s 19) (.s 97)),I 16 (.mv (.s 98))])
def ZNG:PC :=
 (.reg [0,10,14,16,18,19,100] [I 99 (.mv (.s 16)),I 100 (.bin .neq (.s 99) (V 0))])
def ZNH:PC :=
 (.reg [10,11] [I 101 (.build [(.int .u64 0),(.int .i64 0),(.int .i64 0),(.int .i64 0),(.int .i64 0),(.str []),.nils] []),I 102 (.mv (.s 16)),J (.st 7 (.s 10) (.s 101)),I 11 (.mv (.s 102))])
def ZNI:PC :=
 (.reg [0,10,14,16,18] [I 104 (.mv (.s 0)),I 105 (.ld true 7 (.s 14)),I 106 (.ld true 7 (.s 19)),I 107 (C Yd [(.s 104),(.s 105),(.s 106)]),I 103 (.mv (.s 107)),I 108 (.ext (.s 103) 0),I 109 (.ext (.s 103) 1),J (.st 7 (.s 14) (.s 108)),I 16 (.mv (.s 109))])
def ZNJ:PC :=
 (.reg [0,10,14,16,18,111] [I 110 (.mv (.s 16)),I 111 (.bin .neq (.s 110) (V 0))])
def ZNK:PC :=
 (.reg [10,11] [I 112 (.build [(.int .u64 0),(.int .i64 0),(.int .i64 0),(.int .i64 0),(.int .i64 0),(.str []),.nils] []),I 113 (.mv (.s 16)),J (.st 7 (.s 10) (.s 112)),I 11 (.mv (.s 113))])
def ZNL:PC :=
 (.reg [10,14,16] [I 115 (.mv (.s 0)),I 116 (.ld true 7 (.s 14)),I 117 (.ld true 7 (.s 18)),I 118 (C Yd [(.s 115),(.s 116),(.s 117)]),I 114 (.mv (.s 118)),I 119 (.ext (.s 114) 0),I 120 (.ext (.s 114) 1),J (.st 7 (.s 14) (.s 119)),I 16 (.mv (.s 120))])
def ZNM:PC :=
 (.reg [10,11] [I 121 (.ld true 7 (.s 14)),I 122 (C ZBu [(.s 121)]),I 123 (.mv (.s 16)),J (.st 7 (.s 10) (.s 122)),I 11 (.mv (.s 123))])
def ZI5:PF:=⟨false,
 (.seq ZO4
 (.seq (.seq ZO5
 (.seq ZO6
 (.ite (.s 24)
 (.seq ZO7
 .ret)
 .skip)))
 (.seq ZO8
 (.seq (.seq ZO9
 (.ite (.s 46)
 (.seq ZPA
 .ret)
 .skip))
 (.seq (.seq ZPB
 (.ite (.s 60)
 (.seq ZPC
 .ret)
 .skip))
 (.seq (.seq ZPD
 (.ite (.s 67)
 (.seq ZM8
 .ret)
 .skip))
 (.seq ZM9
 (.seq (.seq ZNA
 (.ite (.s 79)
 (.seq ZNB
 .ret)
 .skip))
 (.seq ZNC
 (.seq (.seq ZND
 (.ite (.s 91)
 (.seq ZNE
 .ret)
 .skip))
 (.seq ZNF
 (.seq (.seq ZNG
 (.ite (.s 100)
 (.seq ZNH
 .ret)
 .skip))
 (.seq (.seq ZNI
 (.seq ZNJ
 (.ite (.s 111)
 (.seq ZNK
 .ret)
 .skip)))
 (.seq ZNL
 (.seq ZNM
 .ret))))))))))))))),
 [.c 10 true 7,.s 11]⟩
theorem ZUN:Zt Go.Proofs.Try.prog false ZUM Go.Proofs.Try.f18=some ZI5:=by kernel_rfl
def ZcM:List Hint:=[H [1],⟨[1,3],[0],[],[],[],[]⟩,H [1,3,4],H [1,3,4,5],H [1,3,5],H [3],H [2]]
def ZWw:PC :=
 (.reg [1] [I 1 (.box (.s 0)),I 2 (.mv (.v .nils))])
def ZWx:PC :=
 (.reg [1,3] [I 3 (.boxnil 1)])
def ZWy:PC :=
 (.reg [1,3,4] [I 6 (.mkmap),I 4 (.box (.v .nilmap)),J (.st 1 (.s 4) (.s 6))])
def ZWz:PC :=
 (.reg [1,3,4,5] [I 5 (.box (.v .nilfunc))])
def ZW0:PC :=
 (.reg [1,3,5] [I 7 (.mkf (.func Ye) [] [(.s 4),(.s 3),(.s 5)]),J (.st 1 (.s 5) (.s 7))])
def ZW1:PC :=
 (.reg [3] [I 8 (.ld false 1 (.s 5)),I 9 (.ld true 7 (.s 1)),I 10 (.call .norm (.s 8) [(.s 9)])])
def ZW2:PC :=
 (.reg [2] [I 11 (.ld false 1 (.s 3)),I 2 (.mv (.s 11))])
def ZQq:PF:=⟨false,
 (.seq ZWw
 (.seq ZWx
 (.seq ZWy
 (.seq ZWz
 (.seq ZW0
 (.seq ZW1
 (.seq ZW2
 .ret))))))),
 [.s 2]⟩
theorem ZcN:Zt Go.Proofs.Try.prog false ZcM Go.Proofs.Try.f19=some ZQq:=by kernel_rfl
def ZKR:List Hint:=[H [0,2],H [0,2,4],H [2],⟨[2],[],[(8,.pure),(19,.pure)],[],[],[]⟩]
def ZHE:PC :=
 (.reg [0,2] [I 2 (.box (.v (.agg [(.int .i64 0),(.int .i64 0),(.int .i64 0),(.int .i64 0),(.int .i64 0),(.int .i64 0),(.int .i64 0)])))])
def ZHF:PC :=
 (.reg [0,2,4] [I 3 (.mv (.s 0)),I 4 (.eqs false 3 [] (.s 3) (.v .nilptr))])
def ZHG:PC :=
 (.reg [2] [I 5 (.build [(.int .i64 0),(.int .i64 0),(.int .i64 0),(.int .i64 0),(.int .i64 0),(.int .i64 0),(.int .i64 0)] []),J (.st 7 (.s 2) (.s 5))])
def ZHH:PC :=
 (.reg [2] [I 6 (.mv (.s 0)),I 7 (.nilck (.s 6)),I 8 (.fadr 0 (.s 7)),I 9 (.ld false 1 (.s 8)),I 10 (.mv (.s 0)),I 11 (.nilck (.s 10)),I 12 (.fadr 1 (.s 11)),I 13 (.ld false 1 (.s 12)),I 14 (.call .pure (.v (.func (.func Yx) [] [])) [(.s 13)]),I 15 (.len 1 (.s 14)),I 16 (.mv (.s 0)),I 17 (.nilck (.s 16)),I 18 (.fadr 2 (.s 17)),I 19 (.ld false 1 (.s 18)),I 20 (.len 2 (.s 19)),I 21 (.mv (.s 0)),I 22 (.nilck (.s 21)),I 23 (.fadr 1 (.s 22)),I 24 (.ld false 1 (.s 23)),I 25 (.call .pure (.v (.func (.func Jk) [] [])) [(.s 24)]),I 26 (.len 1 (.s 25)),I 27 (.mv (.s 0)),I 28 (.nilck (.s 27)),I 29 (.fadr 3 (.s 28)),I 30 (.ld false 1 (.s 29)),I 31 (.mv (.s 0)),I 32 (.nilck (.s 31)),I 33 (.fadr 4 (.s 32)),I 34 (.ld false 1 (.s 33)),I 35 (.mv (.s 0)),I 36 (.nilck (.s 35)),I 37 (.fadr 5 (.s 36)),I 38 (.ld false 1 (.s 37)),I 39 (.build [(.int .i64 0),(.int .i64 0),(.int .i64 0),(.int .i64 0),(.int .i64 0),(.int .i64 0),(.int .i64 0)] [(0,1,(.s 9)),(1,1,(.s 15)),(2,1,(.s 20)),(3,1,(.s 26)),(4,1,(.s 30)),(5,1,(.s 34)),(6,1,(.s 38))]),J (.st 7 (.s 2) (.s 39))])
def ZAy:PF:=⟨false,
 (.seq ZHE
 (.seq (.seq ZHF
 (.ite (.s 4)
 (.seq ZHG
 .ret)
 .skip))
 (.seq ZHH
 .ret))),
 [.c 2 true 7]⟩
theorem ZKS:Zt Go.Proofs.Try.prog false ZKR Go.Proofs.Try.f20=some ZAy:=by kernel_rfl
def ZHI:List Hint:=[H [0],H [0,4],H [2],H [2]]
def ZEJ:PC :=
 (.reg [0] [I 2 (.mv (.v .nils))])
def ZEK:PC :=
 (.reg [0,4] [I 3 (.mv (.s 0)),I 4 (.eqs false 3 [] (.s 3) (.v .nilptr))])
def ZEL:PC :=
 (.reg [2] [I 2 (.mv (.v .nils))])
def ZEM:PC :=
 (.reg [2] [I 5 (.mv (.s 0)),I 6 (.nilck (.s 5)),I 7 (.fadr 1 (.s 6)),I 8 (.ld false 1 (.s 7)),I 9 (C J8 [(.s 8)]),I 2 (.mv (.s 9))])
def ZAH:PF:=⟨false,
 (.seq ZEJ
 (.seq (.seq ZEK
 (.ite (.s 4)
 (.seq ZEL
 .ret)
 .skip))
 (.seq ZEM
 .ret))),
 [.s 2]⟩
theorem ZHJ:Zt Go.Proofs.Try.prog false ZHI Go.Proofs.Try.f21=some ZAH:=by kernel_rfl
def ZcO:List Hint:=[H [0,3,4],H [0,3,4,8],H [4,5],H [0,3,4,12],H [4,5],H [0,3,4,16],H [4,5],H [3,4,6],H [3,4,6,27],H [4,5],H [4,5]]
def ZW3:PC :=
 (.reg [0,3,4] [I 3 (.box (.s 1)),I 4 (.box (.v ZT)),I 5 (.mv (V 0))])
def ZW4:PC :=
 (.reg [0,3,4,8] [I 7 (.mv (.s 0)),I 8 (.eqs false 3 [] (.s 7) (.v .nilptr))])
def ZW5:PC :=
 (.reg [4,5] [I 9 (.build [(.int .u64 0),(.int .i64 0),(.int .i64 0),(.int .i64 0),(.int .i64 0),(.str []),.nils] []),J (.st 7 (.s 4) (.s 9)),I 5 (.mv (V 1))])
def ZW6:PC :=
 (.reg [0,3,4,12] [I 10 (.ld true 5 (.s 3)),I 11 (.build [(.int .u64 0),(.int .i64 0),(.int .i64 0),(.int .i64 0),(.int .i64 0)] []),I 12 (.eqs false 0 [(0,0),(1,0),(2,0),(3,0),(4,0)] (.s 10) (.s 11))])
def ZW7:PC :=
 (.reg [4,5] [I 13 (.build [(.int .u64 0),(.int .i64 0),(.int .i64 0),(.int .i64 0),(.int .i64 0),(.str []),.nils] []),J (.st 7 (.s 4) (.s 13)),I 5 (.mv (V 0))])
def ZW8:PC :=
 (.reg [0,3,4,16] [I 14 (.fadr 0 (.s 3)),I 15 (.ld false 1 (.s 14)),I 16 (.bin .eql (.s 15) (.v (.int .u64 0)))])
def ZW9:PC :=
 (.reg [4,5] [I 17 (.build [(.int .u64 0),(.int .i64 0),(.int .i64 0),(.int .i64 0),(.int .i64 0),(.str []),.nils] []),J (.st 7 (.s 4) (.s 17)),I 5 (.mv (V 2))])
def ZXA:PC :=
 (.reg [3,4,6] [I 18 (.mv (.s 0)),I 19 (.fadr 0 (.s 3)),I 20 (.ld false 1 (.s 19)),I 21 (.fadr 1 (.s 3)),I 22 (.ld false 1 (.s 21)),I 23 (.fadr 2 (.s 3)),I 24 (.ld true 3 (.s 23)),I 25 (C ZDZ [(.s 18),(.s 20),(.s 22),(.s 24)]),I 6 (.mv (.s 25))])
def ZXB:PC :=
 (.reg [3,4,6,27] [I 26 (.mv (.s 6)),I 27 (.bin .neq (.s 26) (V 0))])
def ZXC:PC :=
 (.reg [4,5] [I 28 (.build [(.int .u64 0),(.int .i64 0),(.int .i64 0),(.int .i64 0),(.int .i64 0),(.str []),.nils] []),I 29 (.mv (.s 6)),J (.st 7 (.s 4) (.s 28)),I 5 (.mv (.s 29))])
def ZUO:PC :=
 (.reg [4,5] [I 30 (.fadr 0 (.s 3)),I 31 (.ld false 1 (.s 30)),I 32 (.fadr 1 (.s 3)),I 33 (.ld false 1 (.s 32)),I 34 (.fadr 2 (.s 3)),I 35 (.ld true 3 (.s 34)),I 36 (.build [(.int .u64 0),(.int .i64 0),(.int .i64 0),(.int .i64 0),(.int .i64 0),(.str []),.nils] [(0,1,(.s 31)),(1,1,(.s 33)),(2,3,(.s 35))]),J (.st 7 (.s 4) (.s 36)),I 5 (.mv (V 0))])
def ZQr:PF:=⟨false,
 (.seq ZW3
 (.seq (.seq ZW4
 (.ite (.s 8)
 (.seq ZW5
 .ret)
 .skip))
 (.seq (.seq ZW6
 (.ite (.s 12)
 (.seq ZW7
 .ret)
 .skip))
 (.seq (.seq ZW8
 (.ite (.s 16)
 (.seq ZW9
 .ret)
 .skip))
 (.seq (.seq ZXA
 (.seq ZXB
 (.ite (.s 27)
 (.seq ZXC
 .ret)
 .skip)))
 (.seq ZUO
 .ret)))))),
 [.c 4 true 7,.s 5]⟩
theorem ZcP:Zt Go.Proofs.Try.prog false ZcO Go.Proofs.Try.f22=some ZQr:=by kernel_rfl
def ZaD:List Hint:=[H [0,2],H [0,2,14],H [2,3],⟨[0,2,4],[0],[],[],[],[]⟩,H [2,4,17,18,19],H [2,4,17,18,19,20],H [2,4,6,17,18,19],H [2,4,17,18,19],H [2,4,17,18,19],H [2,4,31],H [2,4,7,8],H [2,4,7,8,39],H [2,3],⟨[2,4,7,9],[0],[],[],[],[]⟩,H [2,4,9,42,43,44],H [2,4,9,42,43,44,45],H [2,4,9,11,42,43,44],H [2,4,9,11,42,43,44],H [2,4,9,42,43,44],H [2,4,9,42,43,44],H [2,4],H [2,3]]
def ZUP:PC :=
 (.reg [0,2] [I 2 (.box (.v ZT)),I 3 (.mv (V 0))])
def ZUQ:PC :=
 (.reg [0,2,14] [I 12 (.mv (.s 0)),I 13 (.len 0 (.s 12)),I 14 (.bin .gtr (.s 13) (V 65536))])
def ZUR:PC :=
 (.reg [2,3] [I 15 (.build [(.int .u64 0),(.int .i64 0),(.int .i64 0),(.int .i64 0),(.int .i64 0),(.str []),.nils] []),J (.st 7 (.s 2) (.s 15)),I 3 (.mv (V 5))])
def ZUS:PC :=
 (.reg [0,2,4] [I 4 (.onil 7)])
def ZUT:PC :=
 (.reg [2,4,17,18,19] [I 16 (.mv (.s 0)),I 17 (C ZBv [(.s 16)]),I 18 (.len 1 (.s 17)),I 19 (.mv (V 0))])
def ZUU:PC :=
 (.reg [2,4,17,18,19,20] [I 20 (.bin .lss (.s 19) (.s 18))])
def ZUV:PC :=
 (.reg [2,4,6,17,18,19] [I 21 (.ixS 1 (.s 17) (.s 19)),I 22 (.ld false 1 (.s 21)),I 6 (.mv (.s 22))])
def ZUW:PC :=
 (.reg [2,4,17,18,19] [I 23 (.mv (.s 4)),I 24 (.mv (.s 6)),I 25 (.build [(.int .u64 0),(.int .i64 0),(.int .i64 0),(.int .i64 0),(.int .i64 0),(.str []),.nils] [(5,1,(.s 24))]),I 26 (.bslice false 7 [ZT] [(0,(.s 25))]),I 27 (.app 7 80 (.s 23) (.s 26)),I 4 (.mv (.s 27))])
def ZUX:PC :=
 (.reg [2,4,17,18,19] [I 28 (.bin .add (.s 19) (V 1)),I 19 (.mv (.s 28))])
def ZUY:PC :=
 (.seq ZUU
 (.seq (.ite (.s 20)
 .skip
 (.exit 0))
 (.seq (.block 1
 (.seq ZUV
 ZUW))
 ZUX)))
def ZRB:PC :=
 (.reg [2,4,31] [I 29 (.mv (.s 4)),I 30 (.len 1 (.s 29)),I 31 (.bin .gtr (.s 30) (V 1))])
def ZRC:PC :=
 (.reg [2,4,7,8] [I 33 (.mv (.s 4)),I 34 (.len 1 (.s 33)),I 35 (C ZFU [(.s 34),(V 4)]),I 32 (.mv (.s 35)),I 36 (.ext (.s 32) 0),I 37 (.ext (.s 32) 1),I 7 (.mv (.s 36)),I 8 (.mv (.s 37))])
def ZRD:PC :=
 (.reg [2,4,7,8,39] [I 38 (.mv (.s 8)),I 39 (.bin .neq (.s 38) (V 0))])
def ZRE:PC :=
 (.reg [2,3] [I 40 (.build [(.int .u64 0),(.int .i64 0),(.int .i64 0),(.int .i64 0),(.int .i64 0),(.str []),.nils] []),I 41 (.mv (.s 8)),J (.st 7 (.s 2) (.s 40)),I 3 (.mv (.s 41))])
def ZRF:PC :=
 (.reg [2,4,7,9] [I 9 (.onil 7)])
def ZRG:PC :=
 (.reg [2,4,9,42,43,44] [I 42 (.mv (.s 7)),I 43 (.len 1 (.s 42)),I 44 (.mv (V 0))])
def ZRH:PC :=
 (.reg [2,4,9,42,43,44,45] [I 45 (.bin .lss (.s 44) (.s 43))])
def ZRI:PC :=
 (.reg [2,4,9,11,42,43,44] [I 46 (.ixS 1 (.s 42) (.s 44)),I 47 (.ld false 1 (.s 46)),I 11 (.mv (.s 47))])
def ZRJ:PC :=
 (.reg [2,4,9,11,42,43,44] [I 48 (.mv (.s 9)),I 49 (.mv (.s 4)),I 50 (.mv (.s 11)),I 51 (.slc 7 (.s 49) none (some (.s 50))),I 52 (C QH [(.s 51)]),I 53 (.bslice false 7 [ZT] [(0,(.s 52))]),I 54 (.app 7 80 (.s 48) (.s 53)),I 9 (.mv (.s 54))])
def ZRK:PC :=
 (.reg [2,4,9,42,43,44] [I 55 (.mv (.s 4)),I 56 (.mv (.s 11)),I 57 (.slc 7 (.s 55) (some (.s 56)) none),I 4 (.mv (.s 57))])
def ZRL:PC :=
 (.reg [2,4,9,42,43,44] [I 58 (.bin .add (.s 44) (V 1)),I 44 (.mv (.s 58))])
def ZRM:PC :=
 (.seq ZRH
 (.seq (.ite (.s 45)
 .skip
 (.exit 4))
 (.seq (.block 5
 (.seq ZRI
 (.seq ZRJ
 ZRK)))
 ZRL)))
def ZRN:PC :=
 (.reg [2,4] [I 59 (.mv (.s 9)),I 4 (.mv (.s 59))])
def ZG1:PC :=
 (.seq (.seq ZRB
 (.ite (.s 31)
 .skip
 (.exit 2)))
 (.block 3
 (.seq ZRC
 (.seq (.seq ZRD
 (.ite (.s 39)
 (.seq ZRE
 .ret)
 .skip))
 (.seq ZRF
 (.seq (.seq ZRG
 (.block 4
 (.loop ZRM)))
 ZRN))))))
def ZG2:PC :=
 (.reg [2,3] [I 60 (.mv (.s 4)),I 61 (C QH [(.s 60)]),J (.st 7 (.s 2) (.s 61)),I 3 (.mv (V 0))])
def ZNN:PF:=⟨false,
 (.seq ZUP
 (.seq (.seq ZUQ
 (.ite (.s 14)
 (.seq ZUR
 .ret)
 .skip))
 (.seq ZUS
 (.seq (.seq ZUT
 (.block 0
 (.loop ZUY)))
 (.seq (.block 2
 (.loop ZG1))
 (.seq ZG2
 .ret)))))),
 [.c 2 true 7,.s 3]⟩
theorem ZaE:Zt Go.Proofs.Try.prog false ZaD Go.Proofs.Try.f23=some ZNN:=by kernel_rfl
def Zd1:List Hint:=[H [1],H [1,3],H [1,3,4],H [1,3,14],H [1,3],H [3,16,17,18],H [3,16,17,18,19],H [3,6,16,17,18],H [3,16,17,18],H [3,16,17,18],H [2]]
def ZaF:PC :=
 (.reg [1] [I 1 (.box (.s 0)),I 2 (.mv (V 0))])
def ZaG:PC :=
 (.reg [1,3] [I 3 (.mv (V 0))])
def ZaH:PC :=
 (.reg [1,3,4] [I 7 (.ld true 7 (.s 1)),I 8 (C Qb [(.s 7)]),I 4 (.mv (.s 8))])
def ZaI:PC :=
 (.reg [1,3,14] [I 9 (.mv (.s 4)),I 10 (.bin .eql (.s 9) (V 3)),I 11 (.mv (.s 10)),G 12 11 false (.mv (.s 4)),G 13 11 false (.bin .eql (.s 12) (V 4)),I 14 (.pick (.s 11) (.v (.bool true)) (.s 13))])
def ZaJ:PC :=
 (.reg [1,3] [I 3 (.mv (V 1))])
def ZaK:PC :=
 (.reg [3,16,17,18] [I 15 (.fadr 6 (.s 1)),I 16 (.ld false 1 (.s 15)),I 17 (.len 1 (.s 16)),I 18 (.mv (V 0))])
def ZaL:PC :=
 (.reg [3,16,17,18,19] [I 19 (.bin .lss (.s 18) (.s 17))])
def ZaM:PC :=
 (.reg [3,6,16,17,18] [I 20 (.ixS 7 (.s 16) (.s 18)),I 21 (.ld true 7 (.s 20)),I 6 (.box (.v ZT)),J (.st 7 (.s 6) (.s 21))])
def ZaN:PC :=
 (.reg [3,16,17,18] [I 22 (.mv (.s 3)),I 23 (.ld true 7 (.s 6)),I 24 (C YL [(.s 23)]),I 25 (.bin .add (.s 22) (.s 24)),I 3 (.mv (.s 25))])
def ZaO:PC :=
 (.reg [3,16,17,18] [I 26 (.bin .add (.s 18) (V 1)),I 18 (.mv (.s 26))])
def ZXD:PC :=
 (.seq ZaL
 (.seq (.ite (.s 19)
 .skip
 (.exit 0))
 (.seq (.block 1
 (.seq ZaM
 ZaN))
 ZaO)))
def ZXE:PC :=
 (.reg [2] [I 27 (.mv (.s 3)),I 2 (.mv (.s 27))])
def ZUZ:PF:=⟨false,
 (.seq ZaF
 (.seq ZaG
 (.seq (.seq ZaH
 (.seq ZaI
 (.ite (.s 14)
 ZaJ
 .skip)))
 (.seq (.seq ZaK
 (.block 0
 (.loop ZXD)))
 (.seq ZXE
 .ret))))),
 [.s 2]⟩
theorem Zd2:Zt Go.Proofs.Try.prog false Zd1 Go.Proofs.Try.f24=some ZUZ:=by kernel_rfl
def ZNO:List Hint:=[H [0,1],H [0,1,5],H [0,1,5,9],H [0,1,5,17],H [4],H [0,1,5],H [4]]
def ZKT:PC :=
 (.reg [0,1] [I 4 (.mv (.v (.bool false)))])
def ZKU:PC :=
 (.reg [0,1,5] [I 5 (.mv (V 0))])
def ZKV:PC :=
 (.reg [0,1,5,9] [I 6 (.mv (.s 5)),I 7 (.mv (.s 0)),I 8 (.len 1 (.s 7)),I 9 (.bin .lss (.s 6) (.s 8))])
def ZKW:PC :=
 (.reg [0,1,5,17] [I 12 (.mv (.s 0)),I 13 (.mv (.s 5)),I 14 (.ixS 1 (.s 12) (.s 13)),I 15 (.ld false 1 (.s 14)),I 16 (.mv (.s 1)),I 17 (.bin .eql (.s 15) (.s 16))])
def ZKX:PC :=
 (.reg [4] [I 4 (.mv (.v (.bool true)))])
def ZKY:PC :=
 (.reg [0,1,5] [I 10 (.mv (.s 5)),I 11 (.bin .add (.s 10) (V 1)),I 5 (.mv (.s 11))])
def ZKZ:PC :=
 (.seq (.seq ZKV
 (.ite (.s 9)
 .skip
 (.exit 0)))
 (.seq (.block 1
 (.seq ZKW
 (.ite (.s 17)
 (.seq ZKX
 .ret)
 .skip)))
 ZKY))
def ZKa:PC :=
 (.reg [4] [I 4 (.mv (.v (.bool false)))])
def ZDc:PF:=⟨false,
 (.seq ZKT
 (.seq (.seq ZKU
 (.block 0
 (.loop ZKZ)))
 (.seq ZKa
 .ret))),
 [.s 4]⟩
theorem ZNP:Zt Go.Proofs.Try.prog false ZNO Go.Proofs.Try.f25=some ZDc:=by kernel_rfl
def ZUa:List Hint:=[H [0,4,5],H [0,4,5,9],H [0,4,5,9,24],H [6,7],H [0,4,5,10],H [0,4,5,10,30],H [6,7],H [0,4,5,11],H [0,4,11,34,35,36],H [0,4,11,34,35,36,37],H [0,4,11,13,34,35,36],H [0,4,11,14,34,35,36],H [0,4,11,14,34,35,36,45],H [6,7],H [0,4,11,34,35,36],⟨[0,4,11,15],[0],[],[],[],[]⟩,H [0,4,11,15,50],H [6,7],H [15,16],H [15,16,58],H [6,7],H [6,7]]
def ZPE:PC :=
 (.reg [0,4,5] [I 4 (.box (.s 1)),I 5 (.box (.s 2)),I 6 (.mv (.v .nils)),I 7 (.mv (V 0))])
def ZPF:PC :=
 (.reg [0,4,5,9] [I 18 (.mv (.s 0)),I 19 (.ld true 5 (.s 4)),I 20 (C Xl [(.s 18),(.s 19)]),I 17 (.mv (.s 20)),I 21 (.ext (.s 17) 0),I 22 (.ext (.s 17) 1),I 8 (.box (.v ZT)),J (.st 7 (.s 8) (.s 21)),I 9 (.mv (.s 22))])
def ZPG:PC :=
 (.reg [0,4,5,9,24] [I 23 (.mv (.s 9)),I 24 (.bin .neq (.s 23) (V 0))])
def ZPH:PC :=
 (.reg [6,7] [I 25 (.mv (.s 9)),I 6 (.mv (.v .nils)),I 7 (.mv (.s 25))])
def ZPI:PC :=
 (.reg [0,4,5,10] [I 26 (.mv (.s 0)),I 27 (.ld true 7 (.s 5)),I 28 (C YM [(.s 26),(.s 27)]),I 10 (.mv (.s 28))])
def ZPJ:PC :=
 (.reg [0,4,5,10,30] [I 29 (.mv (.s 10)),I 30 (.bin .neq (.s 29) (V 0))])
def ZPK:PC :=
 (.reg [6,7] [I 31 (.mv (.s 10)),I 6 (.mv (.v .nils)),I 7 (.mv (.s 31))])
def ZPL:PC :=
 (.reg [0,4,5,11] [I 32 (.mkmap),I 11 (.box (.v .nilmap)),J (.st 1 (.s 11) (.s 32))])
def ZPM:PC :=
 (.reg [0,4,11,34,35,36] [I 33 (.ld true 7 (.s 5)),I 34 (C ZDX [(.s 33)]),I 35 (.len 1 (.s 34)),I 36 (.mv (V 0))])
def ZPN:PC :=
 (.reg [0,4,11,34,35,36,37] [I 37 (.bin .lss (.s 36) (.s 35))])
def ZNQ:PC :=
 (.reg [0,4,11,13,34,35,36] [I 38 (.ixS 1 (.s 34) (.s 36)),I 39 (.ld false 1 (.s 38)),I 13 (.mv (.s 39))])
def ZNR:PC :=
 (.reg [0,4,11,14,34,35,36] [I 40 (.mv (.s 0)),I 41 (.mv (.s 13)),I 42 (.ld false 1 (.s 11)),I 43 (C JC [(.s 40),(.s 41),(.s 42),(.v (.func (.func J9) [] []))]),I 14 (.mv (.s 43))])
def ZNS:PC :=
 (.reg [0,4,11,14,34,35,36,45] [I 44 (.mv (.s 14)),I 45 (.bin .neq (.s 44) (V 0))])
def ZNT:PC :=
 (.reg [6,7] [I 46 (.mv (.s 14)),I 6 (.mv (.v .nils)),I 7 (.mv (.s 46))])
def ZNU:PC :=
 (.reg [0,4,11,34,35,36] [I 47 (.bin .add (.s 36) (V 1)),I 36 (.mv (.s 47))])
def ZNV:PC :=
 (.seq ZPN
 (.seq (.ite (.s 37)
 .skip
 (.exit 0))
 (.seq (.block 1
 (.seq ZNQ
 (.seq ZNR
 (.seq ZNS
 (.ite (.s 45)
 (.seq ZNT
 .ret)
 .skip)))))
 ZNU)))
def ZNW:PC :=
 (.reg [0,4,11,15] [I 15 (.boxnil 1)])
def ZNX:PC :=
 (.reg [0,4,11,15,50] [I 48 (.fadr 0 (.s 4)),I 49 (.ld false 1 (.s 48)),I 50 (.bin .eql (.s 49) (.v (.int .u64 0)))])
def ZNY:PC :=
 (.reg [6,7] [I 6 (.mv (.v .nils)),I 7 (.mv (V 0))])
def ZNZ:PC :=
 (.reg [15,16] [I 51 (.mv (.s 0)),I 52 (.fadr 0 (.s 4)),I 53 (.ld false 1 (.s 52)),I 54 (.mkmap),I 55 (.mkf (.func YA) [] [(.s 11),(.s 15)]),I 56 (C JC [(.s 51),(.s 53),(.s 54),(.s 55)]),I 16 (.mv (.s 56))])
def ZNa:PC :=
 (.reg [15,16,58] [I 57 (.mv (.s 16)),I 58 (.bin .neq (.s 57) (V 0))])
def ZNb:PC :=
 (.reg [6,7] [I 59 (.mv (.s 16)),I 6 (.mv (.v .nils)),I 7 (.mv (.s 59))])
def ZNc:PC :=
 (.reg [6,7] [I 60 (.ld false 1 (.s 15)),I 6 (.mv (.s 60)),I 7 (.mv (V 0))])
def ZI6:PF:=⟨false,
 (.seq ZPE
 (.seq (.seq ZPF
 (.seq ZPG
 (.ite (.s 24)
 (.seq ZPH
 .ret)
 .skip)))
 (.seq (.seq ZPI
 (.seq ZPJ
 (.ite (.s 30)
 (.seq ZPK
 .ret)
 .skip)))
 (.seq ZPL
 (.seq (.seq ZPM
 (.block 0
 (.loop ZNV)))
 (.seq ZNW
 (.seq (.seq ZNX
 (.ite (.s 50)
 (.seq ZNY
 .ret)
 .skip))
 (.seq ZNZ
 (.seq (.seq ZNa
 (.ite (.s 58)
 (.seq ZNb
 .ret)
 .skip))
 (.seq ZNc
 .ret)))))))))),
 [.s 6,.s 7]⟩
theorem ZUb:Zt Go.Proofs.Try.prog false ZUa Go.Proofs.Try.f26=some ZI6:=by kernel_rfl
def ZcQ:List Hint:=[H [2,3],H [2,3,6],H [2,3,6,14],H [4,5],⟨[2,3,7],[0],[],[],[],[]⟩,H [2,3,7,8],H [3,7,8],H [3,7,8,19],H [4,5],H [7,9],H [7,9,24],H [4,5],H [4,5]]
def ZXF:PC :=
 (.reg [2,3] [I 2 (.box (.s 0)),I 3 (.box (.s 1)),I 4 (.mv (.v (.str []))),I 5 (.mv (V 0))])
def ZXG:PC :=
 (.reg [2,3,6] [I 10 (.ld false 1 (.s 2)),I 11 (.ld true 7 (.s 3)),I 12 (C YM [(.s 10),(.s 11)]),I 6 (.mv (.s 12))])
def ZXH:PC :=
 (.reg [2,3,6,14] [I 13 (.mv (.s 6)),I 14 (.bin .neq (.s 13) (V 0))])
def ZXI:PC :=
 (.reg [4,5] [I 15 (.mv (.s 6)),I 4 (.mv (.v (.str []))),I 5 (.mv (.s 15))])
def ZXJ:PC :=
 (.reg [2,3,7] [I 7 (.boxnil 1)])
def ZXK:PC :=
 (.reg [2,3,7,8] [I 8 (.box (.v .nilfunc))])
def ZXL:PC :=
 (.reg [3,7,8] [I 16 (.mkf (.func Yf) [] [(.s 2),(.s 7),(.s 8)]),J (.st 1 (.s 8) (.s 16))])
def ZXM:PC :=
 (.reg [3,7,8,19] [I 17 (.ld true 7 (.s 3)),I 18 (C Qb [(.s 17)]),I 19 (.bin .eql (.s 18) (V 1))])
def ZXN:PC :=
 (.reg [4,5] [I 4 (.mv (.v (.str []))),I 5 (.mv (V 0))])
def ZXO:PC :=
 (.reg [7,9] [I 20 (.ld false 1 (.s 8)),I 21 (.ld true 7 (.s 3)),I 22 (.call .norm (.s 20) [(.s 21)]),I 9 (.mv (.s 22))])
def ZUc:PC :=
 (.reg [7,9,24] [I 23 (.mv (.s 9)),I 24 (.bin .neq (.s 23) (V 0))])
def ZUd:PC :=
 (.reg [4,5] [I 25 (.mv (.s 9)),I 4 (.mv (.v (.str []))),I 5 (.mv (.s 25))])
def ZUe:PC :=
 (.reg [4,5] [I 26 (.ld false 1 (.s 7)),I 27 (.b2s (.s 26)),I 4 (.mv (.s 27)),I 5 (.mv (V 0))])
def ZQs:PF:=⟨false,
 (.seq ZXF
 (.seq (.seq ZXG
 (.seq ZXH
 (.ite (.s 14)
 (.seq ZXI
 .ret)
 .skip)))
 (.seq ZXJ
 (.seq ZXK
 (.seq ZXL
 (.seq (.seq ZXM
 (.ite (.s 19)
 (.seq ZXN
 .ret)
 .skip))
 (.seq (.seq ZXO
 (.seq ZUc
 (.ite (.s 24)
 (.seq ZUd
 .ret)
 .skip)))
 (.seq ZUe
 .ret)))))))),
 [.s 4,.s 5]⟩
theorem ZcR:Zt Go.Proofs.Try.prog false ZcQ Go.Proofs.Try.f27=some ZQs:=by kernel_rfl
def ZDz:List Hint:=[H [0,1],H [0,1,10],H [4],H [0,1,5],H [0,1,5,14],H [0,1,5,25],H [4],H [0,1,5],H [4]]
def ZCG:PC :=
 (.reg [0,1] [I 4 (.mv (.v (.bool false)))])
def ZCH:PC :=
 (.reg [0,1,10] [I 6 (.mv (.s 0)),I 7 (.len 1 (.s 6)),I 8 (.mv (.s 1)),I 9 (.len 1 (.s 8)),I 10 (.bin .neq (.s 7) (.s 9))])
def ZCI:PC :=
 (.reg [4] [I 4 (.mv (.v (.bool false)))])
def ZCJ:PC :=
 (.reg [0,1,5] [I 5 (.mv (V 0))])
def ZCK:PC :=
 (.reg [0,1,5,14] [I 11 (.mv (.s 5)),I 12 (.mv (.s 0)),I 13 (.len 1 (.s 12)),I 14 (.bin .lss (.s 11) (.s 13))])
def ZCL:PC :=
 (.reg [0,1,5,25] [I 17 (.mv (.s 0)),I 18 (.mv (.s 5)),I 19 (.ixS 1 (.s 17) (.s 18)),I 20 (.ld false 1 (.s 19)),I 21 (.mv (.s 1)),I 22 (.mv (.s 5)),I 23 (.ixS 1 (.s 21) (.s 22)),I 24 (.ld false 1 (.s 23)),I 25 (.bin .neq (.s 20) (.s 24))])
def ZCM:PC :=
 (.reg [4] [I 4 (.mv (.v (.bool false)))])
def ZCN:PC :=
 (.reg [0,1,5] [I 15 (.mv (.s 5)),I 16 (.bin .add (.s 15) (V 1)),I 5 (.mv (.s 16))])
def ZCO:PC :=
 (.seq (.seq ZCK
 (.ite (.s 14)
 .skip
 (.exit 0)))
 (.seq (.block 1
 (.seq ZCL
 (.ite (.s 25)
 (.seq ZCM
 .ret)
 .skip)))
 ZCN))
def ZCP:PC :=
 (.reg [4] [I 4 (.mv (.v (.bool true)))])
def XM:PF:=⟨false,
 (.seq ZCG
 (.seq (.seq ZCH
 (.ite (.s 10)
 (.seq ZCI
 .ret)
 .skip))
 (.seq (.seq ZCJ
 (.block 0
 (.loop ZCO)))
 (.seq ZCP
 .ret)))),
 [.s 4]⟩
theorem ZD0:Zt Go.Proofs.Try.prog false ZDz Go.Proofs.Try.f28=some XM:=by kernel_rfl
def ZcS:List Hint:=[H [0,1],H [0,6,7],H [0,6,7,15],H [4,5],H [4,5]]
def ZXP:PC :=
 (.reg [0,1] [I 4 (.mv (.v .nilptr)),I 5 (.mv (V 0))])
def ZXQ:PC :=
 (.reg [0,6,7] [I 9 (.mv (.s 0)),I 10 (.mv (.s 1)),I 11 (C ZBw [(.s 9),(.s 10)]),I 8 (.mv (.s 11)),I 12 (.ext (.s 8) 0),I 13 (.ext (.s 8) 1),I 6 (.mv (.s 12)),I 7 (.mv (.s 13))])
def ZXR:PC :=
 (.reg [0,6,7,15] [I 14 (.mv (.s 7)),I 15 (.bin .neq (.s 14) (V 0))])
def ZXS:PC :=
 (.reg [4,5] [I 16 (.mv (.s 7)),I 4 (.mv (.v .nilptr)),I 5 (.mv (.s 16))])
def ZXT:PC :=
 (.reg [4,5] [I 17 (.mv (.s 0)),I 18 (.mv (.s 6)),I 19 (.mkmap),I 20 (.build [(.int .i64 0),.nilptr,.nilmap,(.int .i64 0),(.int .i64 0),(.int .i64 0)] [(0,1,(.s 17)),(1,1,(.s 18)),(2,1,(.s 19))]),I 21 (.box (.s 20)),I 4 (.mv (.s 21)),I 5 (.mv (V 0))])
def ZQt:PF:=⟨true,
 (.seq ZXP
 (.seq ZXQ
 (.seq (.seq ZXR
 (.ite (.s 15)
 (.seq ZXS
 .ret)
 .skip))
 (.seq ZXT
 .ret)))),
 [.s 4,.s 5]⟩
theorem ZcT:Zt Go.Proofs.Try.prog true ZcS Go.Proofs.Try.f29=some ZQt:=by kernel_rfl
def ZNd:List Hint:=[H [0,1],H [6,7],H [6,7,15],H [4,5],H [4,5]]
def ZKb:PC :=
 (.reg [0,1] [I 4 (.mv (.v .nilptr)),I 5 (.mv (V 0))])
def ZKc:PC :=
 (.reg [6,7] [I 9 (.mv (.s 0)),I 10 (.mv (.s 1)),I 11 (C Xy [(.s 9),(.s 10)]),I 8 (.mv (.s 11)),I 12 (.ext (.s 8) 0),I 13 (.ext (.s 8) 1),I 6 (.mv (.s 12)),I 7 (.mv (.s 13))])
def ZKd:PC :=
 (.reg [6,7,15] [I 14 (.mv (.s 7)),I 15 (.bin .neq (.s 14) (V 0))])
def ZKe:PC :=
 (.reg [4,5] [I 16 (.mv (.s 7)),I 4 (.mv (.v .nilptr)),I 5 (.mv (.s 16))])
def ZKf:PC :=
 (.reg [4,5] [I 17 (.mv (.s 6)),I 18 (.build [.nilptr,.nils,(.int .i64 0),(.int .i64 0),(.int .i64 0),(.int .i64 0),(.int .i64 0),(.int .i64 0),(.int .i64 0)] [(0,1,(.s 17))]),I 19 (.box (.s 18)),I 4 (.mv (.s 19)),I 5 (.mv (V 0))])
def ZDd:PF:=⟨true,
 (.seq ZKb
 (.seq ZKc
 (.seq (.seq ZKd
 (.ite (.s 15)
 (.seq ZKe
 .ret)
 .skip))
 (.seq ZKf
 .ret)))),
 [.s 4,.s 5]⟩
theorem ZNe:Zt Go.Proofs.Try.prog true ZNd Go.Proofs.Try.f30=some ZDd:=by kernel_rfl
def ZKg:List Hint:=[H [0,2],⟨[0,2,3],[0],[],[],[],[]⟩,H [2,3,4],H [2,3,4,5],H [2,3,4,5,14],H [2,3,4,5],H [2,3,4,5],H [2,3,27],⟨[2,3,6],[0],[],[],[],[]⟩,H [2,3,6,7],H [2,3,6,7,8],H [2,3,6,7,8,34],H [2,3,6,7,8],H [2,3,6,7,8],H [2,3,6,7,8],H [2,3],H [2]]
def ZHK:PC :=
 (.reg [0,2] [I 2 (.box (.v ZT))])
def ZHL:PC :=
 (.reg [0,2,3] [I 3 (.onil 7)])
def ZHM:PC :=
 (.reg [2,3,4] [I 9 (.mv (.s 0)),I 10 (C Yy [(.s 9)]),I 4 (.mv (.s 10))])
def ZHN:PC :=
 (.reg [2,3,4,5] [I 5 (.mv (V 0))])
def ZHO:PC :=
 (.reg [2,3,4,5,14] [I 11 (.mv (.s 5)),I 12 (.mv (.s 4)),I 13 (.len 1 (.s 12)),I 14 (.bin .lss (.s 11) (.s 13))])
def ZHP:PC :=
 (.reg [2,3,4,5] [I 17 (.mv (.s 3)),I 18 (.mv (.s 4)),I 19 (.mv (.s 5)),I 20 (.ixS 1 (.s 18) (.s 19)),I 21 (.ld false 1 (.s 20)),I 22 (C Xe [(.s 21)]),I 23 (.bslice false 7 [ZT] [(0,(.s 22))]),I 24 (.app 7 80 (.s 17) (.s 23)),I 3 (.mv (.s 24))])
def ZHQ:PC :=
 (.reg [2,3,4,5] [I 15 (.mv (.s 5)),I 16 (.bin .add (.s 15) (V 1)),I 5 (.mv (.s 16))])
def ZHR:PC :=
 (.seq (.seq ZHO
 (.ite (.s 14)
 .skip
 (.exit 0)))
 (.seq (.block 1
 ZHP)
 ZHQ))
def ZHS:PC :=
 (.reg [2,3,27] [I 25 (.mv (.s 3)),I 26 (.len 1 (.s 25)),I 27 (.bin .gtr (.s 26) (V 1))])
def ZHT:PC :=
 (.reg [2,3,6] [I 6 (.onil 7)])
def ZFX:PC :=
 (.reg [2,3,6,7] [I 28 (.mv (.s 3)),I 29 (.len 1 (.s 28)),I 30 (C J3 [(.s 29),(V 4)]),I 7 (.mv (.s 30))])
def ZFY:PC :=
 (.reg [2,3,6,7,8] [I 8 (.mv (V 0))])
def ZFZ:PC :=
 (.reg [2,3,6,7,8,34] [I 31 (.mv (.s 8)),I 32 (.mv (.s 7)),I 33 (.len 1 (.s 32)),I 34 (.bin .lss (.s 31) (.s 33))])
def ZFa:PC :=
 (.reg [2,3,6,7,8] [I 37 (.mv (.s 6)),I 38 (.mv (.s 3)),I 39 (.mv (.s 7)),I 40 (.mv (.s 8)),I 41 (.ixS 1 (.s 39) (.s 40)),I 42 (.ld false 1 (.s 41)),I 43 (.slc 7 (.s 38) none (some (.s 42))),I 44 (C J4 [(.s 43)]),I 45 (.bslice false 7 [ZT] [(0,(.s 44))]),I 46 (.app 7 80 (.s 37) (.s 45)),I 6 (.mv (.s 46))])
def ZFb:PC :=
 (.reg [2,3,6,7,8] [I 47 (.mv (.s 3)),I 48 (.mv (.s 7)),I 49 (.mv (.s 8)),I 50 (.ixS 1 (.s 48) (.s 49)),I 51 (.ld false 1 (.s 50)),I 52 (.slc 7 (.s 47) (some (.s 51)) none),I 3 (.mv (.s 52))])
def ZFc:PC :=
 (.reg [2,3,6,7,8] [I 35 (.mv (.s 8)),I 36 (.bin .add (.s 35) (V 1)),I 8 (.mv (.s 36))])
def ZFd:PC :=
 (.seq (.seq ZFZ
 (.ite (.s 34)
 .skip
 (.exit 4)))
 (.seq (.block 5
 (.seq ZFa
 ZFb))
 ZFc))
def ZFe:PC :=
 (.reg [2,3] [I 53 (.mv (.s 6)),I 3 (.mv (.s 53))])
def X6:PC :=
 (.seq (.seq ZHS
 (.ite (.s 27)
 .skip
 (.exit 2)))
 (.block 3
 (.seq ZHT
 (.seq ZFX
 (.seq (.seq ZFY
 (.block 4
 (.loop ZFd)))
 ZFe)))))
def X7:PC :=
 (.reg [2] [I 54 (.mv (.s 3)),I 55 (C XH [(.s 54)]),J (.st 7 (.s 2) (.s 55))])
def ZAz:PF:=⟨false,
 (.seq ZHK
 (.seq ZHL
 (.seq ZHM
 (.seq (.seq ZHN
 (.block 0
 (.loop ZHR)))
 (.seq (.block 2
 (.loop X6))
 (.seq X7
 .ret)))))),
 [.c 2 true 7]⟩
theorem ZKh:Zt Go.Proofs.Try.prog false ZKg Go.Proofs.Try.f31=some ZAz:=by kernel_rfl
def ZKi:List Hint:=[H [0,3,4],H [0,3,4,14],H [4,5],H [0,3,4,18],H [4,5],H [0,3,4,6],H [0,3,4,6,7],H [0,3,4,6,7,8],H [0,3,4,6,7,8,38],H [0,3,4,6,7,8,9,10],H [0,3,4,6,7,8,9,10,52],H [4,5],H [0,3,4,6,7,8,9],⟨[0,3,4,6,7,8],[],[],[],[(21,(.plain (.s 7))),(16,(.hide [(.s 7)])),(19,(.plain (.s 7))),(10,(.hide [(.s 7)]))],[]⟩,H [0,3,4,6,7,8],H [3,4,7,11,12],H [3,4,7,11,12,93],H [4,5],H [4,5]]
def ZHU:PC :=
 (.reg [0,3,4] [I 3 (.box (.s 1)),I 4 (.box (.v ZR)),I 5 (.mv (V 0))])
def ZHV:PC :=
 (.reg [0,3,4,14] [I 13 (.ld true 7 (.s 3)),I 14 (C Jc [(.s 13)])])
def ZHW:PC :=
 (.reg [4,5] [I 15 (.build [(.int .u64 0),(.int .i64 0),(.int .i64 0),(.int .i64 0),(.int .i64 0)] []),J (.st 5 (.s 4) (.s 15)),I 5 (.mv (V 0))])
def ZHX:PC :=
 (.reg [0,3,4,18] [I 16 (.fadr 0 (.s 3)),I 17 (.ld false 1 (.s 16)),I 18 (.bin .neq (.s 17) (.v (.int .u64 0)))])
def ZHY:PC :=
 (.reg [4,5] [I 19 (.fadr 0 (.s 3)),I 20 (.ld false 1 (.s 19)),I 21 (.fadr 1 (.s 3)),I 22 (.ld false 1 (.s 21)),I 23 (.fadr 2 (.s 3)),I 24 (.ld true 3 (.s 23)),I 25 (.build [(.int .u64 0),(.int .i64 0),(.int .i64 0),(.int .i64 0),(.int .i64 0)] [(0,1,(.s 20)),(1,1,(.s 22)),(2,3,(.s 24))]),J (.st 5 (.s 4) (.s 25)),I 5 (.mv (V 0))])
def ZHZ:PC :=
 (.reg [0,3,4,6] [I 26 (.fadr 1 (.s 3)),I 27 (.ld false 1 (.s 26)),I 28 (.fadr 5 (.s 3)),I 29 (.ld false 1 (.s 28)),I 30 (.build [(.int .i64 0),(.str []),.nils] [(0,1,(.s 27)),(1,1,(.s 29))]),I 6 (.box (.v ZN)),J (.st 3 (.s 6) (.s 30))])
def ZHa:PC :=
 (.reg [0,3,4,6,7] [I 31 (.fadr 5 (.s 3)),I 32 (.ld false 1 (.s 31)),I 33 (C Yi [(.s 32)]),I 7 (.box (.v ZM)),J (.st 3 (.s 7) (.s 33))])
def ZHb:PC :=
 (.reg [0,3,4,6,7,8] [I 8 (.mv (V 0))])
def ZHc:PC :=
 (.reg [0,3,4,6,7,8,38] [I 34 (.mv (.s 8)),I 35 (.fadr 6 (.s 3)),I 36 (.ld false 1 (.s 35)),I 37 (.len 1 (.s 36)),I 38 (.bin .lss (.s 34) (.s 37))])
def ZHd:PC :=
 (.reg [0,3,4,6,7,8,9,10] [I 42 (.mv (.s 0)),I 43 (.fadr 6 (.s 3)),I 44 (.ld false 1 (.s 43)),I 45 (.mv (.s 8)),I 46 (.ixS 7 (.s 44) (.s 45)),I 47 (.ld true 7 (.s 46)),I 48 (C Z9 [(.s 42),(.s 47)]),I 41 (.mv (.s 48)),I 49 (.ext (.s 41) 0),I 50 (.ext (.s 41) 1),I 9 (.box (.v ZR)),J (.st 5 (.s 9) (.s 49)),I 10 (.mv (.s 50))])
def ZFf:PC :=
 (.reg [0,3,4,6,7,8,9,10,52] [I 51 (.mv (.s 10)),I 52 (.bin .neq (.s 51) (V 0))])
def ZFg:PC :=
 (.reg [4,5] [I 53 (.build [(.int .u64 0),(.int .i64 0),(.int .i64 0),(.int .i64 0),(.int .i64 0)] []),I 54 (.mv (.s 10)),J (.st 5 (.s 4) (.s 53)),I 5 (.mv (.s 54))])
def ZFh:PC :=
 (.reg [0,3,4,6,7,8,9] [I 55 (.fadr 2 (.s 6)),I 56 (.ld false 1 (.s 55)),I 57 (.fadr 0 (.s 9)),I 58 (.ld false 1 (.s 57)),I 59 (.fadr 2 (.s 9)),I 60 (.ld true 3 (.s 59)),I 61 (.build [(.int .u64 0),(.int .i64 0),(.int .i64 0),(.int .i64 0)] [(0,1,(.s 58)),(1,3,(.s 60))]),I 62 (.bslice false 4 [ZK] [(0,(.s 61))]),I 63 (.app 4 32 (.s 56) (.s 62)),I 64 (.fadr 2 (.s 6)),J (.st 1 (.s 64) (.s 63))])
def X8:PC :=
 (.reg [0,3,4,6,7,8] [I 65 (.fadr 0 (.s 7)),I 66 (.ld false 1 (.s 65)),I 67 (.fadr 2 (.s 9)),I 68 (.fadr 0 (.s 67)),I 69 (.ld false 1 (.s 68)),I 70 (.bin .add (.s 66) (.s 69)),I 71 (.fadr 1 (.s 7)),I 72 (.ld false 1 (.s 71)),I 73 (.fadr 2 (.s 9)),I 74 (.fadr 1 (.s 73)),I 75 (.w (.hide [(.s 7)]) (.ld false 1 (.s 74))),I 76 (.bin .add (.s 72) (.s 75)),I 77 (.fadr 2 (.s 7)),I 78 (.ld false 1 (.s 77)),I 79 (.fadr 2 (.s 9)),I 80 (.fadr 2 (.s 79)),I 81 (.w (.hide [(.s 7)]) (.ld false 1 (.s 80))),I 82 (.bin .add (.s 78) (.s 81)),I 83 (.fadr 0 (.s 7)),J (.w (.plain (.s 7)) (.st 1 (.s 83) (.s 70))),I 84 (.fadr 1 (.s 7)),J (.w (.plain (.s 7)) (.st 1 (.s 84) (.s 76))),I 85 (.fadr 2 (.s 7)),J (.st 1 (.s 85) (.s 82))])
def ZFi:PC :=
 (.reg [0,3,4,6,7,8] [I 39 (.mv (.s 8)),I 40 (.bin .add (.s 39) (V 1)),I 8 (.mv (.s 40))])
def ZFj:PC :=
 (.seq (.seq ZHc
 (.ite (.s 38)
 .skip
 (.exit 0)))
 (.seq (.block 1
 (.seq ZHd
 (.seq (.seq ZFf
 (.ite (.s 52)
 (.seq ZFg
 .ret)
 .skip))
 (.seq ZFh
 X8))))
 ZFi))
def ZFk:PC :=
 (.reg [3,4,7,11,12] [I 87 (.mv (.s 0)),I 88 (.ld true 3 (.s 6)),I 89 (.call .norm (.s 87) [(.s 88)]),I 86 (.mv (.s 89)),I 90 (.ext (.s 86) 0),I 91 (.ext (.s 86) 1),I 11 (.mv (.s 90)),I 12 (.mv (.s 91))])
def ZFl:PC :=
 (.reg [3,4,7,11,12,93] [I 92 (.mv (.s 12)),I 93 (.bin .neq (.s 92) (V 0))])
def ZFm:PC :=
 (.reg [4,5] [I 94 (.build [(.int .u64 0),(.int .i64 0),(.int .i64 0),(.int .i64 0),(.int .i64 0)] []),I 95 (.mv (.s 12)),J (.st 5 (.s 4) (.s 94)),I 5 (.mv (.s 95))])
def ZFn:PC :=
 (.reg [4,5] [I 96 (.mv (.s 11)),I 97 (.fadr 1 (.s 3)),I 98 (.ld false 1 (.s 97)),I 99 (.ld true 3 (.s 7)),I 100 (.build [(.int .u64 0),(.int .i64 0),(.int .i64 0),(.int .i64 0),(.int .i64 0)] [(0,1,(.s 96)),(1,1,(.s 98)),(2,3,(.s 99))]),J (.st 5 (.s 4) (.s 100)),I 5 (.mv (V 0))])
def ZA0:PF:=⟨true,
 (.seq ZHU
 (.seq (.seq ZHV
 (.ite (.s 14)
 (.seq ZHW
 .ret)
 .skip))
 (.seq (.seq ZHX
 (.ite (.s 18)
 (.seq ZHY
 .ret)
 .skip))
 (.seq ZHZ
 (.seq ZHa
 (.seq (.seq ZHb
 (.block 0
 (.loop ZFj)))
 (.seq ZFk
 (.seq (.seq ZFl
 (.ite (.s 93)
 (.seq ZFm
 .ret)
 .skip))
 (.seq ZFn
 .ret))))))))),
 [.c 4 true 5,.s 5]⟩
theorem ZKj:Zt Go.Proofs.Try.prog true ZKi Go.Proofs.Try.f32=some ZA0:=by kernel_rfl
def ZKk:List Hint:=[H [0,3],H [0,3,16],H [4,5],H [0,3,6],H [0,3,6,20],H [4,5],H [0,3,23,24,25],H [0,3,23,24,25,26],H [0,3,8,23,24,25],H [0,3,8,9,10,23,24,25],H [0,3,8,9,23,24,25,40],H [4,5],H [0,3,8,9,11,12,23,24,25],H [0,3,23,24,25,61],H [4,5],H [0,3,23,24,25],H [0,3,13,14],H [0,3,13,14,72],H [4,5],H [0,3,13],H [0,13],H [13],H [4,5]]
def ZHe:PC :=
 (.reg [0,3] [I 3 (.box (.s 1)),I 4 (.mv (.v (.int .u64 0))),I 5 (.mv (V 0))])
def ZHf:PC :=
 (.reg [0,3,16] [I 15 (.mv (.s 0)),I 16 (.eqs false 3 [] (.s 15) (.v .nilptr))])
def ZHg:PC :=
 (.reg [4,5] [I 4 (.mv (.v (.int .u64 0))),I 5 (.mv (V 1))])
def ZHh:PC :=
 (.reg [0,3,6] [I 17 (.ld true 3 (.s 3)),I 18 (C Xz [(.s 17)]),I 6 (.mv (.s 18))])
def ZHi:PC :=
 (.reg [0,3,6,20] [I 19 (.mv (.s 6)),I 20 (.bin .neq (.s 19) (V 0))])
def ZHj:PC :=
 (.reg [4,5] [I 21 (.mv (.s 6)),I 4 (.mv (.v (.int .u64 0))),I 5 (.mv (.s 21))])
def ZHk:PC :=
 (.reg [0,3,23,24,25] [I 22 (.fadr 2 (.s 3)),I 23 (.ld false 1 (.s 22)),I 24 (.len 1 (.s 23)),I 25 (.mv (V 0))])
def ZHl:PC :=
 (.reg [0,3,23,24,25,26] [I 26 (.bin .lss (.s 25) (.s 24))])
def ZHm:PC :=
 (.reg [0,3,8,23,24,25] [I 27 (.ixS 4 (.s 23) (.s 25)),I 28 (.ld true 4 (.s 27)),I 8 (.box (.v ZK)),J (.st 4 (.s 8) (.s 28))])
def ZHn:PC :=
 (.reg [0,3,8,9,10,23,24,25] [I 30 (.mv (.s 0)),I 31 (.nilck (.s 30)),I 32 (.fadr 2 (.s 31)),I 33 (.ld false 1 (.s 32)),I 34 (.fadr 0 (.s 8)),I 35 (.ld false 1 (.s 34)),I 36 (.look 0 ZN true (.s 33) (.s 35)),I 29 (.mv (.s 36)),I 37 (.ext (.s 29) 0),I 38 (.ext (.s 29) 1),I 9 (.box (.v ZN)),J (.st 3 (.s 9) (.s 37)),I 10 (.mv (.s 38))])
def ZFo:PC :=
 (.reg [0,3,8,9,23,24,25,40] [I 39 (.mv (.s 10)),I 40 (.un .not (.s 39))])
def ZFp:PC :=
 (.reg [4,5] [I 4 (.mv (.v (.int .u64 0))),I 5 (.mv (V 10))])
def ZFq:PC :=
 (.reg [0,3,8,9,11,12,23,24,25] [I 42 (.ld true 3 (.s 9)),I 43 (C X3 [(.s 42)]),I 41 (.mv (.s 43)),I 44 (.ext (.s 41) 0),I 45 (.ext (.s 41) 1),I 11 (.box (.v ZM)),J (.st 3 (.s 11) (.s 44)),I 12 (.mv (.s 45))])
def ZFr:PC :=
 (.reg [0,3,23,24,25,61] [I 46 (.mv (.s 12)),I 47 (.bin .neq (.s 46) (V 0)),I 48 (.mv (.s 47)),G 49 48 false (.fadr 0 (.s 9)),G 50 48 false (.ld false 1 (.s 49)),G 51 48 false (.fadr 0 (.s 3)),G 52 48 false (.ld false 1 (.s 51)),G 53 48 false (.bin .sub (.s 52) (V 1)),G 54 48 false (.bin .neq (.s 50) (.s 53)),I 55 (.pick (.s 48) (.v (.bool true)) (.s 54)),I 56 (.mv (.s 55)),G 57 56 false (.ld true 3 (.s 11)),G 58 56 false (.fadr 1 (.s 8)),G 59 56 false (.ld true 3 (.s 58)),G 60 56 false (.eqs true 0 [(0,0),(1,0),(2,0)] (.s 57) (.s 59)),I 61 (.pick (.s 56) (.v (.bool true)) (.s 60))])
def ZFs:PC :=
 (.reg [4,5] [I 4 (.mv (.v (.int .u64 0))),I 5 (.mv (V 23))])
def ZFt:PC :=
 (.reg [0,3,23,24,25] [I 62 (.bin .add (.s 25) (V 1)),I 25 (.mv (.s 62))])
def ZFu:PC :=
 (.seq ZHl
 (.seq (.ite (.s 26)
 .skip
 (.exit 0))
 (.seq (.block 1
 (.seq ZHm
 (.seq ZHn
 (.seq (.seq ZFo
 (.ite (.s 40)
 (.seq ZFp
 .ret)
 .skip))
 (.seq ZFq
 (.seq ZFr
 (.ite (.s 61)
 (.seq ZFs
 .ret)
 .skip)))))))
 ZFt)))
def ZFv:PC :=
 (.reg [0,3,13,14] [I 64 (.mv (.s 0)),I 65 (.nilck (.s 64)),I 66 (.fadr 1 (.s 65)),I 67 (.ld false 1 (.s 66)),I 68 (C Yz [(.s 67)]),I 63 (.mv (.s 68)),I 69 (.ext (.s 63) 0),I 70 (.ext (.s 63) 1),I 13 (.mv (.s 69)),I 14 (.mv (.s 70))])
def ZFw:PC :=
 (.reg [0,3,13,14,72] [I 71 (.mv (.s 14)),I 72 (.bin .neq (.s 71) (V 0))])
def ZFx:PC :=
 (.reg [4,5] [I 73 (.mv (.s 14)),I 4 (.mv (.v (.int .u64 0))),I 5 (.mv (.s 73))])
def X9:PC :=
 (.reg [0,3,13] [I 74 (.fadr 2 (.s 3)),I 75 (.ld false 1 (.s 74)),I 76 (C Zz [(.s 75)]),I 77 (.fadr 2 (.s 3)),J (.st 1 (.s 77) (.s 76))])
def ZAA:PC :=
 (.reg [0,13] [I 78 (.mv (.s 0)),I 79 (.nilck (.s 78)),I 80 (.fadr 2 (.s 79)),I 81 (.ld false 1 (.s 80)),I 82 (.mv (.s 13)),I 83 (.ld true 3 (.s 3)),J (.mupd 0 (.s 81) (.s 82) (.s 83))])
def ZAB:PC :=
 (.reg [13] [I 84 (.mv (.s 0)),I 85 (.nilck (.s 84)),I 86 (.fadr 3 (.s 85)),I 87 (.ld false 1 (.s 86)),I 88 (.bin .add (.s 87) (V 1)),I 89 (.nilck (.s 84)),I 90 (.fadr 3 (.s 89)),J (.st 1 (.s 90) (.s 88))])
def ZAC:PC :=
 (.reg [4,5] [I 91 (.mv (.s 13)),I 4 (.mv (.s 91)),I 5 (.mv (V 0))])
def ZA1:PF:=⟨false,
 (.seq ZHe
 (.seq (.seq ZHf
 (.ite (.s 16)
 (.seq ZHg
 .ret)
 .skip))
 (.seq (.seq ZHh
 (.seq ZHi
 (.ite (.s 20)
 (.seq ZHj
 .ret)
 .skip)))
 (.seq (.seq ZHk
 (.block 0
 (.loop ZFu)))
 (.seq ZFv
 (.seq (.seq ZFw
 (.ite (.s 72)
 (.seq ZFx
 .ret)
 .skip))
 (.seq X9
 (.seq ZAA
 (.seq ZAB
 (.seq ZAC
 .ret)))))))))),
 [.s 4,.s 5]⟩
theorem ZKl:Zt Go.Proofs.Try.prog false ZKk Go.Proofs.Try.f33=some ZA1:=by kernel_rfl
def ZC6:List Hint:=[H [0,3],H [0,3,11],H [4,5],H [0,3,6],H [0,3,6,15],H [4,5],H [0,3,7],H [0,3,7,21],H [4,5],H [0,3,8,9],H [0,3,8,9,32],H [4,5],⟨[0,8],[],[(7,.pure)],[],[(9,.imm)],[]⟩,H [8],H [4,5]]
def ZBC:PC :=
 (.reg [0,3] [I 3 (.box (.s 1)),I 4 (.mv (.v (.int .u64 0))),I 5 (.mv (V 0))])
def ZBD:PC :=
 (.reg [0,3,11] [I 10 (.mv (.s 0)),I 11 (.eqs false 3 [] (.s 10) (.v .nilptr))])
def ZBE:PC :=
 (.reg [4,5] [I 4 (.mv (.v (.int .u64 0))),I 5 (.mv (V 1))])
def ZBF:PC :=
 (.reg [0,3,6] [I 12 (.ld true 3 (.s 3)),I 13 (C JR [(.s 12)]),I 6 (.mv (.s 13))])
def ZBG:PC :=
 (.reg [0,3,6,15] [I 14 (.mv (.s 6)),I 15 (.bin .neq (.s 14) (V 0))])
def ZBH:PC :=
 (.reg [4,5] [I 16 (.mv (.s 6)),I 4 (.mv (.v (.int .u64 0))),I 5 (.mv (.s 16))])
def ZBI:PC :=
 (.reg [0,3,7] [I 17 (.mv (.s 0)),I 18 (.ld true 3 (.s 3)),I 19 (C JD [(.s 17),(.s 18)]),I 7 (.mv (.s 19))])
def ZBJ:PC :=
 (.reg [0,3,7,21] [I 20 (.mv (.s 7)),I 21 (.bin .neq (.s 20) (V 0))])
def ZBK:PC :=
 (.reg [4,5] [I 22 (.mv (.s 7)),I 4 (.mv (.v (.int .u64 0))),I 5 (.mv (.s 22))])
def Yo:PC :=
 (.reg [0,3,8,9] [I 24 (.mv (.s 0)),I 25 (.nilck (.s 24)),I 26 (.fadr 0 (.s 25)),I 27 (.ld false 1 (.s 26)),I 28 (C YB [(.s 27)]),I 23 (.mv (.s 28)),I 29 (.ext (.s 23) 0),I 30 (.ext (.s 23) 1),I 8 (.mv (.s 29)),I 9 (.mv (.s 30))])
def YU:PC :=
 (.reg [0,3,8,9,32] [I 31 (.mv (.s 9)),I 32 (.bin .neq (.s 31) (V 0))])
def YV:PC :=
 (.reg [4,5] [I 33 (.mv (.s 9)),I 4 (.mv (.v (.int .u64 0))),I 5 (.mv (.s 33))])
def YW:PC :=
 (.reg [0,8] [I 34 (.mv (.s 0)),I 35 (.mv (.s 0)),I 36 (.nilck (.s 35)),I 37 (.fadr 1 (.s 36)),I 38 (.ld false 1 (.s 37)),I 39 (.mv (.s 8)),I 40 (.ld true 3 (.s 3)),I 41 (.call .pure (.v (.func (.func Qy) [] [])) [(.s 40)]),I 42 (.build [(.int .u64 0),(.int .i64 0),(.str []),.nils] [(0,1,(.s 39)),(1,3,(.s 41))]),I 43 (.w .imm (.bslice false 4 [(.agg [(.int .u64 0),(.int .i64 0),(.str []),.nils])] [(0,(.s 42))])),I 44 (.app 4 56 (.s 38) (.s 43)),I 45 (.nilck (.s 34)),I 46 (.fadr 1 (.s 45)),J (.st 1 (.s 46) (.s 44))])
def YY:PC :=
 (.reg [8] [I 47 (.mv (.s 0)),I 48 (.nilck (.s 47)),I 49 (.fadr 2 (.s 48)),I 50 (.fadr 4 (.s 49)),I 51 (.ld false 1 (.s 50)),I 52 (.bin .add (.s 51) (V 1)),I 53 (.nilck (.s 47)),I 54 (.fadr 2 (.s 53)),I 55 (.fadr 4 (.s 54)),J (.st 1 (.s 55) (.s 52))])
def YZ:PC :=
 (.reg [4,5] [I 56 (.mv (.s 8)),I 4 (.mv (.s 56)),I 5 (.mv (V 0))])
def XA:PF:=⟨true,
 (.seq ZBC
 (.seq (.seq ZBD
 (.ite (.s 11)
 (.seq ZBE
 .ret)
 .skip))
 (.seq (.seq ZBF
 (.seq ZBG
 (.ite (.s 15)
 (.seq ZBH
 .ret)
 .skip)))
 (.seq (.seq ZBI
 (.seq ZBJ
 (.ite (.s 21)
 (.seq ZBK
 .ret)
 .skip)))
 (.seq Yo
 (.seq (.seq YU
 (.ite (.s 32)
 (.seq YV
 .ret)
 .skip))
 (.seq YW
 (.seq YY
 (.seq YZ
 .ret))))))))),
 [.s 4,.s 5]⟩
theorem ZC7:Zt Go.Proofs.Try.prog true ZC6 Go.Proofs.Try.f34=some XA:=by kernel_rfl
def ZaP:List Hint:=[H [0,3],H [0,3,7],H [4],H [0,3,10],H [4],H [3,5],H [3,5,15],H [4],H [19],H [4],H [4]]
def ZUf:PC :=
 (.reg [0,3] [I 3 (.box (.s 1)),I 4 (.mv (V 0))])
def ZUg:PC :=
 (.reg [0,3,7] [I 6 (.mv (.s 0)),I 7 (.eqs false 3 [] (.s 6) (.v .nilptr))])
def ZUh:PC :=
 (.reg [4] [I 4 (.mv (V 1))])
def ZUi:PC :=
 (.reg [0,3,10] [I 8 (.ld true 7 (.s 3)),I 9 (C Qb [(.s 8)]),I 10 (.bin .eql (.s 9) (V 1))])
def ZUj:PC :=
 (.reg [4] [I 4 (.mv (V 0))])
def ZUk:PC :=
 (.reg [3,5] [I 11 (.mv (.s 0)),I 12 (.ld true 7 (.s 3)),I 13 (C ZBB [(.s 11),(.s 12),(.v (.bool false)),(V 0)]),I 5 (.mv (.s 13))])
def ZUl:PC :=
 (.reg [3,5,15] [I 14 (.mv (.s 5)),I 15 (.bin .neq (.s 14) (V 0))])
def ZUm:PC :=
 (.reg [4] [I 16 (.mv (.s 5)),I 4 (.mv (.s 16))])
def ZUn:PC :=
 (.reg [19] [I 17 (.ld true 7 (.s 3)),I 18 (C Qh [(.s 17)]),I 19 (.bin .gtr (.s 18) (V 65536))])
def ZUo:PC :=
 (.reg [4] [I 4 (.mv (V 5))])
def ZRO:PC :=
 (.reg [4] [I 4 (.mv (V 0))])
def ZNf:PF:=⟨false,
 (.seq ZUf
 (.seq (.seq ZUg
 (.ite (.s 7)
 (.seq ZUh
 .ret)
 .skip))
 (.seq (.seq ZUi
 (.ite (.s 10)
 (.seq ZUj
 .ret)
 .skip))
 (.seq (.seq ZUk
 (.seq ZUl
 (.ite (.s 15)
 (.seq ZUm
 .ret)
 .skip)))
 (.seq (.seq ZUn
 (.ite (.s 19)
 (.seq ZUo
 .ret)
 .skip))
 (.seq ZRO
 .ret)))))),
 [.s 4]⟩
theorem ZaQ:Zt Go.Proofs.Try.prog false ZaP Go.Proofs.Try.f35=some ZNf:=by kernel_rfl
def ZaR:List Hint:=[H [1],H [1,3],H [3,14,15,16],H [3,14,15,16,17],H [3,5,14,15,16],H [3,14,15,16],H [3,14,15,16],H [2]]
def ZUp:PC :=
 (.reg [1] [I 1 (.box (.s 0)),I 2 (.mv (V 0))])
def ZUq:PC :=
 (.reg [1,3] [I 6 (.fadr 2 (.s 1)),I 7 (.fadr 0 (.s 6)),I 8 (.ld false 1 (.s 7)),I 9 (.fadr 5 (.s 1)),I 10 (.ld false 1 (.s 9)),I 11 (.len 0 (.s 10)),I 12 (.bin .add (.s 8) (.s 11)),I 3 (.mv (.s 12))])
def ZUr:PC :=
 (.reg [3,14,15,16] [I 13 (.fadr 6 (.s 1)),I 14 (.ld false 1 (.s 13)),I 15 (.len 1 (.s 14)),I 16 (.mv (V 0))])
def ZUs:PC :=
 (.reg [3,14,15,16,17] [I 17 (.bin .lss (.s 16) (.s 15))])
def ZUt:PC :=
 (.reg [3,5,14,15,16] [I 18 (.ixS 7 (.s 14) (.s 16)),I 19 (.ld true 7 (.s 18)),I 5 (.box (.v ZT)),J (.st 7 (.s 5) (.s 19))])
def ZUu:PC :=
 (.reg [3,14,15,16] [I 20 (.mv (.s 3)),I 21 (.ld true 7 (.s 5)),I 22 (C Qh [(.s 21)]),I 23 (.bin .add (.s 20) (.s 22)),I 3 (.mv (.s 23))])
def ZUv:PC :=
 (.reg [3,14,15,16] [I 24 (.bin .add (.s 16) (V 1)),I 16 (.mv (.s 24))])
def ZUw:PC :=
 (.seq ZUs
 (.seq (.ite (.s 17)
 .skip
 (.exit 0))
 (.seq (.block 1
 (.seq ZUt
 ZUu))
 ZUv)))
def ZUx:PC :=
 (.reg [2] [I 25 (.mv (.s 3)),I 2 (.mv (.s 25))])
def ZNg:PF:=⟨false,
 (.seq ZUp
 (.seq ZUq
 (.seq (.seq ZUr
 (.block 0
 (.loop ZUw)))
 (.seq ZUx
 .ret)))),
 [.s 2]⟩
theorem ZaS:Zt Go.Proofs.Try.prog false ZaR Go.Proofs.Try.f36=some ZNg:=by kernel_rfl
def Zd3:List Hint:=[H [0,2,4,6,7],H [0,2,4,6,7,18],⟨[6,7,8],[],[],[],[(1,(.hide [(.s 6)])),(2,(.plain (.s 6)))],[]⟩,H [0,2,4,6,7,24],H [6,7,8],H [0,2,4,6,7,29],H [2,6,7,9,10],H [2,6,7,9,10,37],H [6,7,8],H [6,7,10,11,12],H [6,7,8],H [0,2,6,7,8,13],H [0,2,6,7,8,13,60],H [6,7,8],H [0,2,6,7,13,14],H [0,2,6,7,13,14,77],H [0,2,6,7,13,14],H [0,2,6,7,13,14],H [0,2,6,7,13,14,88],⟨[6,7,8],[],[(3,.pure)],[],[],[]⟩,H [0,6,7,8,13,14,15,16],H [0,6,7,8,13,14,15,16,109],H [6,7,8],⟨[0,6,7,8,13,14,16],[],[(4,.pure)],[],[],[]⟩,H [0,6,7,8,13,14,16,124],H [6,7,8],⟨[6,7,8],[],[(6,.pure)],[],[],[]⟩,H [6,7,8,140],H [6,7,8],⟨[6,7,8],[],[],[],[(1,(.hide [(.s 6)])),(2,(.plain (.s 6)))],[]⟩]
def ZaT:PC :=
 (.reg [0,2,4,6,7] [I 4 (.box (.s 1)),I 6 (.box (.v ZT)),I 7 (.box (.v ZT)),I 8 (.mv (V 0))])
def ZaU:PC :=
 (.reg [0,2,4,6,7,18] [I 17 (.mv (.s 2)),I 18 (.bin .eql (.s 17) (V 0))])
def ZaV:PC :=
 (.reg [6,7,8] [I 19 (.build [(.int .u64 0),(.int .i64 0),(.int .i64 0),(.int .i64 0),(.int .i64 0),(.str []),.nils] []),I 20 (.w (.hide [(.s 6)]) (.ld true 7 (.s 4))),J (.w (.plain (.s 6)) (.st 7 (.s 6) (.s 19))),J (.st 7 (.s 7) (.s 20)),I 8 (.mv (V 0))])
def ZaW:PC :=
 (.reg [0,2,4,6,7,24] [I 21 (.mv (.s 2)),I 22 (.ld true 7 (.s 4)),I 23 (C Qh [(.s 22)]),I 24 (.bin .eql (.s 21) (.s 23))])
def ZaX:PC :=
 (.reg [6,7,8] [I 25 (.ld true 7 (.s 4)),I 26 (.build [(.int .u64 0),(.int .i64 0),(.int .i64 0),(.int .i64 0),(.int .i64 0),(.str []),.nils] []),J (.st 7 (.s 6) (.s 25)),J (.st 7 (.s 7) (.s 26)),I 8 (.mv (V 0))])
def ZaY:PC :=
 (.reg [0,2,4,6,7,29] [I 27 (.fadr 1 (.s 4)),I 28 (.ld false 1 (.s 27)),I 29 (.bin .eql (.s 28) (V 0))])
def ZaZ:PC :=
 (.reg [2,6,7,9,10] [I 31 (.mv (.s 0)),I 32 (.ld true 7 (.s 4)),I 33 (C Xm [(.s 31),(.s 32)]),I 30 (.mv (.s 33)),I 34 (.ext (.s 30) 0),I 35 (.ext (.s 30) 1),I 9 (.mv (.s 34)),I 10 (.mv (.s 35))])
def Zaa:PC :=
 (.reg [2,6,7,9,10,37] [I 36 (.mv (.s 10)),I 37 (.bin .neq (.s 36) (V 0))])
def Zab:PC :=
 (.reg [6,7,8] [I 38 (.build [(.int .u64 0),(.int .i64 0),(.int .i64 0),(.int .i64 0),(.int .i64 0),(.str []),.nils] []),I 39 (.build [(.int .u64 0),(.int .i64 0),(.int .i64 0),(.int .i64 0),(.int .i64 0),(.str []),.nils] []),I 40 (.mv (.s 10)),J (.st 7 (.s 6) (.s 38)),J (.st 7 (.s 7) (.s 39)),I 8 (.mv (.s 40))])
def Zac:PC :=
 (.reg [6,7,10,11,12] [I 42 (.mv (.s 9)),I 43 (.mv (.s 2)),I 44 (C ZIl [(.s 42),(.s 43)]),I 41 (.mv (.s 44)),I 45 (.ext (.s 41) 0),I 46 (.ext (.s 41) 1),I 47 (.ext (.s 41) 2),I 11 (.mv (.s 45)),I 12 (.mv (.s 46)),I 10 (.mv (.s 47))])
def ZXU:PC :=
 (.reg [6,7,8] [I 48 (.mv (.s 11)),I 49 (.build [(.int .u64 0),(.int .i64 0),(.int .i64 0),(.int .i64 0),(.int .i64 0),(.str []),.nils] [(5,1,(.s 48))]),I 50 (.mv (.s 12)),I 51 (.build [(.int .u64 0),(.int .i64 0),(.int .i64 0),(.int .i64 0),(.int .i64 0),(.str []),.nils] [(5,1,(.s 50))]),I 52 (.mv (.s 10)),J (.st 7 (.s 6) (.s 49)),J (.st 7 (.s 7) (.s 51)),I 8 (.mv (.s 52))])
def ZXV:PC :=
 (.reg [0,2,6,7,8,13] [I 54 (.mv (.s 0)),I 55 (.ld true 7 (.s 4)),I 56 (C Jo [(.s 54),(.s 55)]),I 53 (.mv (.s 56)),I 57 (.ext (.s 53) 0),I 58 (.ext (.s 53) 1),I 13 (.mv (.s 57)),I 8 (.mv (.s 58))])
def ZXW:PC :=
 (.reg [0,2,6,7,8,13,60] [I 59 (.mv (.s 8)),I 60 (.bin .neq (.s 59) (V 0))])
def ZXX:PC :=
 (.reg [6,7,8] [I 61 (.build [(.int .u64 0),(.int .i64 0),(.int .i64 0),(.int .i64 0),(.int .i64 0),(.str []),.nils] []),I 62 (.build [(.int .u64 0),(.int .i64 0),(.int .i64 0),(.int .i64 0),(.int .i64 0),(.str []),.nils] []),I 63 (.mv (.s 8)),J (.st 7 (.s 6) (.s 61)),J (.st 7 (.s 7) (.s 62)),I 8 (.mv (.s 63))])
def ZXY:PC :=
 (.reg [0,2,6,7,13,14] [I 14 (.mv (V 0))])
def ZXZ:PC :=
 (.reg [0,2,6,7,13,14,77] [I 64 (.mv (.s 14)),I 65 (.bin .add (.s 64) (V 1)),I 66 (.mv (.s 13)),I 67 (.len 1 (.s 66)),I 68 (.bin .lss (.s 65) (.s 67)),I 69 (.mv (.s 68)),G 70 69 true (.mv (.s 2)),G 71 69 true (.mv (.s 13)),G 72 69 true (.mv (.s 14)),G 73 69 true (.ixS 7 (.s 71) (.s 72)),G 74 69 true (.ld true 7 (.s 73)),G 75 69 true (C Qh [(.s 74)]),G 76 69 true (.bin .geq (.s 70) (.s 75)),I 77 (.pick (.s 69) (.s 76) (.v (.bool false)))])
def ZXa:PC :=
 (.reg [0,2,6,7,13,14] [I 78 (.mv (.s 2)),I 79 (.mv (.s 13)),I 80 (.mv (.s 14)),I 81 (.ixS 7 (.s 79) (.s 80)),I 82 (.ld true 7 (.s 81)),I 83 (C Qh [(.s 82)]),I 84 (.bin .sub (.s 78) (.s 83)),I 2 (.mv (.s 84))])
def ZXb:PC :=
 (.reg [0,2,6,7,13,14] [I 85 (.mv (.s 14)),I 86 (.bin .add (.s 85) (V 1)),I 14 (.mv (.s 86))])
def ZLc:PC :=
 (.seq (.seq ZXZ
 (.ite (.s 77)
 .skip
 (.exit 0)))
 (.block 1
 (.seq ZXa
 ZXb)))
def ZXc:PC :=
 (.reg [0,2,6,7,13,14,88] [I 87 (.mv (.s 2)),I 88 (.bin .eql (.s 87) (V 0))])
def ZXd:PC :=
 (.reg [6,7,8] [I 89 (.mv (.s 13)),I 90 (.mv (.s 14)),I 91 (.slc 7 (.s 89) none (some (.s 90))),I 92 (.call .pure (.v (.func (.func QH) [] [])) [(.s 91)]),I 93 (.mv (.s 13)),I 94 (.mv (.s 14)),I 95 (.slc 7 (.s 93) (some (.s 94)) none),I 96 (C QH [(.s 95)]),J (.st 7 (.s 6) (.s 92)),J (.st 7 (.s 7) (.s 96)),I 8 (.mv (V 0))])
def ZXe:PC :=
 (.reg [0,6,7,8,13,14,15,16] [I 98 (.mv (.s 0)),I 99 (.mv (.s 13)),I 100 (.mv (.s 14)),I 101 (.ixS 7 (.s 99) (.s 100)),I 102 (.ld true 7 (.s 101)),I 103 (.mv (.s 2)),I 104 (C ZAX [(.s 98),(.s 102),(.s 103)]),I 97 (.mv (.s 104)),I 105 (.ext (.s 97) 0),I 106 (.ext (.s 97) 1),I 107 (.ext (.s 97) 2),I 15 (.box (.v ZT)),I 16 (.box (.v ZT)),J (.st 7 (.s 15) (.s 105)),J (.st 7 (.s 16) (.s 106)),I 8 (.mv (.s 107))])
def ZXf:PC :=
 (.reg [0,6,7,8,13,14,15,16,109] [I 108 (.mv (.s 8)),I 109 (.bin .neq (.s 108) (V 0))])
def ZXg:PC :=
 (.reg [6,7,8] [I 110 (.build [(.int .u64 0),(.int .i64 0),(.int .i64 0),(.int .i64 0),(.int .i64 0),(.str []),.nils] []),I 111 (.build [(.int .u64 0),(.int .i64 0),(.int .i64 0),(.int .i64 0),(.int .i64 0),(.str []),.nils] []),I 112 (.mv (.s 8)),J (.st 7 (.s 6) (.s 110)),J (.st 7 (.s 7) (.s 111)),I 8 (.mv (.s 112))])
def ZXh:PC :=
 (.reg [0,6,7,8,13,14,16] [I 114 (.mv (.s 0)),I 115 (.mv (.s 13)),I 116 (.mv (.s 14)),I 117 (.slc 7 (.s 115) none (some (.s 116))),I 118 (.call .pure (.v (.func (.func QH) [] [])) [(.s 117)]),I 119 (.ld true 7 (.s 15)),I 120 (C Yd [(.s 114),(.s 118),(.s 119)]),I 113 (.mv (.s 120)),I 121 (.ext (.s 113) 0),I 122 (.ext (.s 113) 1),J (.st 7 (.s 6) (.s 121)),I 8 (.mv (.s 122))])
def ZXi:PC :=
 (.reg [0,6,7,8,13,14,16,124] [I 123 (.mv (.s 8)),I 124 (.bin .neq (.s 123) (V 0))])
def ZXj:PC :=
 (.reg [6,7,8] [I 125 (.build [(.int .u64 0),(.int .i64 0),(.int .i64 0),(.int .i64 0),(.int .i64 0),(.str []),.nils] []),I 126 (.build [(.int .u64 0),(.int .i64 0),(.int .i64 0),(.int .i64 0),(.int .i64 0),(.str []),.nils] []),I 127 (.mv (.s 8)),J (.st 7 (.s 6) (.s 125)),J (.st 7 (.s 7) (.s 126)),I 8 (.mv (.s 127))])
def ZXk:PC :=
 (.reg [6,7,8] [I 129 (.mv (.s 0)),I 130 (.ld true 7 (.s 16)),I 131 (.mv (.s 13)),I 132 (.mv (.s 14)),I 133 (.bin .add (.s 132) (V 1)),I 134 (.slc 7 (.s 131) (some (.s 133)) none),I 135 (.call .pure (.v (.func (.func QH) [] [])) [(.s 134)]),I 136 (C Yd [(.s 129),(.s 130),(.s 135)]),I 128 (.mv (.s 136)),I 137 (.ext (.s 128) 0),I 138 (.ext (.s 128) 1),J (.st 7 (.s 7) (.s 137)),I 8 (.mv (.s 138))])
def ZXl:PC :=
 (.reg [6,7,8,140] [I 139 (.mv (.s 8)),I 140 (.bin .neq (.s 139) (V 0))])
def ZXm:PC :=
 (.reg [6,7,8] [I 141 (.build [(.int .u64 0),(.int .i64 0),(.int .i64 0),(.int .i64 0),(.int .i64 0),(.str []),.nils] []),I 142 (.build [(.int .u64 0),(.int .i64 0),(.int .i64 0),(.int .i64 0),(.int .i64 0),(.str []),.nils] []),I 143 (.mv (.s 8)),J (.st 7 (.s 6) (.s 141)),J (.st 7 (.s 7) (.s 142)),I 8 (.mv (.s 143))])
def ZXn:PC :=
 (.reg [6,7,8] [I 144 (.ld true 7 (.s 6)),I 145 (.w (.hide [(.s 6)]) (.ld true 7 (.s 7))),J (.w (.plain (.s 6)) (.st 7 (.s 6) (.s 144))),J (.st 7 (.s 7) (.s 145)),I 8 (.mv (V 0))])
def ZUy:PF:=⟨false,
 (.seq ZaT
 (.seq (.seq ZaU
 (.ite (.s 18)
 (.seq ZaV
 .ret)
 .skip))
 (.seq (.seq ZaW
 (.ite (.s 24)
 (.seq ZaX
 .ret)
 .skip))
 (.seq (.seq ZaY
 (.ite (.s 29)
 (.seq ZaZ
 (.seq (.seq Zaa
 (.ite (.s 37)
 (.seq Zab
 .ret)
 .skip))
 (.seq Zac
 (.seq ZXU
 .ret))))
 .skip))
 (.seq ZXV
 (.seq (.seq ZXW
 (.ite (.s 60)
 (.seq ZXX
 .ret)
 .skip))
 (.seq ZXY
 (.seq (.block 0
 (.loop ZLc))
 (.seq (.seq ZXc
 (.ite (.s 88)
 (.seq ZXd
 .ret)
 .skip))
 (.seq ZXe
 (.seq (.seq ZXf
 (.ite (.s 109)
 (.seq ZXg
 .ret)
 .skip))
 (.seq (.seq ZXh
 (.seq ZXi
 (.ite (.s 124)
 (.seq ZXj
 .ret)
 .skip)))
 (.seq (.seq ZXk
 (.seq ZXl
 (.ite (.s 140)
 (.seq ZXm
 .ret)
 .skip)))
 (.seq ZXn
 .ret)))))))))))))),
 [.c 6 true 7,.c 7 true 7,.s 8]⟩
theorem Zd4:Zt Go.Proofs.Try.prog false Zd3 Go.Proofs.Try.f37=some ZUy:=by kernel_rfl
def Zd5:List Hint:=[H [1,2],H [1,2,9],H [1,2],H [2],H [1,2,3],H [1,2,3,17,18,19],H [1,2,3,17,18,19,20],H [1,2,3,4,5,17,18,19],H [1,2,3,17,18,19],H [1,2,3,17,18,19],H [1,2],H [2]]
def Zad:PC :=
 (.reg [1,2] [I 1 (.box (.s 0)),I 2 (.box (.v ZT))])
def Zae:PC :=
 (.reg [1,2,9] [I 6 (.fadr 6 (.s 1)),I 7 (.ld false 1 (.s 6)),I 8 (.len 1 (.s 7)),I 9 (.bin .eql (.s 8) (V 0))])
def Zaf:PC :=
 (.reg [1,2] [I 10 (.fadr 6 (.s 1)),J (.st 1 (.s 10) (.v .nils))])
def Zag:PC :=
 (.reg [2] [I 11 (.ld true 7 (.s 1)),J (.st 7 (.s 2) (.s 11))])
def Zah:PC :=
 (.reg [1,2,3] [I 12 (.fadr 6 (.s 1)),I 13 (.ld false 1 (.s 12)),I 14 (.len 1 (.s 13)),I 15 (.mkslice 7 80 ZT (.s 14) (.s 14)),I 3 (.mv (.s 15))])
def Zai:PC :=
 (.reg [1,2,3,17,18,19] [I 16 (.fadr 6 (.s 1)),I 17 (.ld false 1 (.s 16)),I 18 (.len 1 (.s 17)),I 19 (.mv (V 0))])
def Zaj:PC :=
 (.reg [1,2,3,17,18,19,20] [I 20 (.bin .lss (.s 19) (.s 18))])
def Zak:PC :=
 (.reg [1,2,3,4,5,17,18,19] [I 21 (.mv (.s 19)),I 22 (.ixS 7 (.s 17) (.s 19)),I 23 (.ld true 7 (.s 22)),I 5 (.box (.v ZT)),I 4 (.mv (.s 21)),J (.st 7 (.s 5) (.s 23))])
def Zal:PC :=
 (.reg [1,2,3,17,18,19] [I 24 (.mv (.s 3)),I 25 (.mv (.s 4)),I 26 (.ld true 7 (.s 5)),I 27 (C ZBu [(.s 26)]),I 28 (.ixS 7 (.s 24) (.s 25)),J (.st 7 (.s 28) (.s 27))])
def Zam:PC :=
 (.reg [1,2,3,17,18,19] [I 29 (.bin .add (.s 19) (V 1)),I 19 (.mv (.s 29))])
def ZXo:PC :=
 (.seq Zaj
 (.seq (.ite (.s 20)
 .skip
 (.exit 0))
 (.seq (.block 1
 (.seq Zak
 Zal))
 Zam)))
def ZXp:PC :=
 (.reg [1,2] [I 30 (.mv (.s 3)),I 31 (.fadr 6 (.s 1)),J (.st 1 (.s 31) (.s 30))])
def ZXq:PC :=
 (.reg [2] [I 32 (.ld true 7 (.s 1)),J (.st 7 (.s 2) (.s 32))])
def ZUz:PF:=⟨false,
 (.seq Zad
 (.seq (.seq Zae
 (.ite (.s 9)
 (.seq Zaf
 (.seq Zag
 .ret))
 .skip))
 (.seq Zah
 (.seq (.seq Zai
 (.block 0
 (.loop ZXo)))
 (.seq ZXp
 (.seq ZXq
 .ret)))))),
 [.c 2 true 7]⟩
theorem Zd6:Zt Go.Proofs.Try.prog false Zd5 Go.Proofs.Try.f38=some ZUz:=by kernel_rfl
def ZXr:List Hint:=[H [0,4,5,6],H [0,4,5,6,12],H [6,7],H [0,4,5,6,16],H [6,7],H [6,8,9],H [6,8,9,26],H [6,7],H [6,7]]
def ZRP:PC :=
 (.reg [0,4,5,6] [I 4 (.box (.s 1)),I 5 (.box (.s 2)),I 6 (.box (.v ZT)),I 7 (.mv (V 0))])
def ZRQ:PC :=
 (.reg [0,4,5,6,12] [I 10 (.ld true 7 (.s 4)),I 11 (C Qb [(.s 10)]),I 12 (.bin .eql (.s 11) (V 1))])
def ZRR:PC :=
 (.reg [6,7] [I 13 (.ld true 7 (.s 5)),J (.st 7 (.s 6) (.s 13)),I 7 (.mv (V 0))])
def ZRS:PC :=
 (.reg [0,4,5,6,16] [I 14 (.ld true 7 (.s 5)),I 15 (C Qb [(.s 14)]),I 16 (.bin .eql (.s 15) (V 1))])
def ZRT:PC :=
 (.reg [6,7] [I 17 (.ld true 7 (.s 4)),J (.st 7 (.s 6) (.s 17)),I 7 (.mv (V 0))])
def ZRU:PC :=
 (.reg [6,8,9] [I 19 (.mv (.s 0)),I 20 (.ld true 7 (.s 4)),I 21 (.ld true 7 (.s 5)),I 22 (C Xx [(.s 19),(.s 20),(.s 21)]),I 18 (.mv (.s 22)),I 23 (.ext (.s 18) 0),I 24 (.ext (.s 18) 1),I 8 (.mv (.s 23)),I 9 (.mv (.s 24))])
def ZRV:PC :=
 (.reg [6,8,9,26] [I 25 (.mv (.s 9)),I 26 (.bin .neq (.s 25) (V 0))])
def ZRW:PC :=
 (.reg [6,7] [I 27 (.build [(.int .u64 0),(.int .i64 0),(.int .i64 0),(.int .i64 0),(.int .i64 0),(.str []),.nils] []),I 28 (.mv (.s 9)),J (.st 7 (.s 6) (.s 27)),I 7 (.mv (.s 28))])
def ZRX:PC :=
 (.reg [6,7] [I 29 (.mv (.s 8)),I 30 (C QH [(.s 29)]),J (.st 7 (.s 6) (.s 30)),I 7 (.mv (V 0))])
def ZLd:PF:=⟨false,
 (.seq ZRP
 (.seq (.seq ZRQ
 (.ite (.s 12)
 (.seq ZRR
 .ret)
 .skip))
 (.seq (.seq ZRS
 (.ite (.s 16)
 (.seq ZRT
 .ret)
 .skip))
 (.seq ZRU
 (.seq (.seq ZRV
 (.ite (.s 26)
 (.seq ZRW
 .ret)
 .skip))
 (.seq ZRX
 .ret)))))),
 [.c 6 true 7,.s 7]⟩
theorem ZXs:Zt Go.Proofs.Try.prog false ZXr Go.Proofs.Try.f40=some ZLd:=by kernel_rfl
def Zan:List Hint:=[H [0,4,5],H [0,4,5,22],H [6,7],H [0,4,5,8,9],H [0,4,5,8,9],H [0,4,5,8,9,33],H [0,4,5,8,9,10],H [0,4,5,8,9,10,41],H [6,7],H [0,4,5,8,9,47],H [0,4,5,8,9,10],H [0,4,5,8,9,10,55],H [6,7],H [0,4,5,8,9,57],H [6,7],H [0,4,5,8,9,78],H [6,7],H [0,4,5,8,9,87],H [0,5,8,11],H [8,11,12,13],H [8,11,12,13,107],H [6,7],H [6,7],H [9,10,14],H [9,10,14,127],H [6,7],⟨[6,7],[],[],[],[(4,.blind),(2,.app0),(0,.imm)],[]⟩]
def ZU0:PC :=
 (.reg [0,4,5] [I 4 (.box (.s 1)),I 5 (.box (.s 2)),I 6 (.mv (.v .nils)),I 7 (.mv (V 0))])
def ZU1:PC :=
 (.reg [0,4,5,22] [I 15 (.fadr 1 (.s 4)),I 16 (.ld false 1 (.s 15)),I 17 (.bin .eql (.s 16) (V 0)),I 18 (.mv (.s 17)),G 19 18 true (.fadr 1 (.s 5)),G 20 18 true (.ld false 1 (.s 19)),G 21 18 true (.bin .eql (.s 20) (V 0)),I 22 (.pick (.s 18) (.s 21) (.v (.bool false)))])
def ZU2:PC :=
 (.reg [6,7] [I 23 (.mv (.s 0)),I 24 (.ld true 7 (.s 4)),I 25 (.ld true 7 (.s 5)),I 26 (C ZDw [(.s 23),(.s 24),(.s 25)]),I 27 (.ext (.s 26) 0),I 28 (.ext (.s 26) 1),I 6 (.mv (.s 27)),I 7 (.mv (.s 28))])
def ZU3:PC :=
 (.reg [0,4,5,8,9] [I 8 (.mv (.v .nils)),I 9 (.mv (.v .nils))])
def ZU4:PC :=
 (.reg [0,4,5,8,9] [I 10 (.mv (V 0))])
def ZU5:PC :=
 (.reg [0,4,5,8,9,33] [I 29 (.fadr 1 (.s 4)),I 30 (.ld false 1 (.s 29)),I 31 (.fadr 1 (.s 5)),I 32 (.ld false 1 (.s 31)),I 33 (.bin .geq (.s 30) (.s 32))])
def ZU6:PC :=
 (.reg [0,4,5,8,9,10] [I 35 (.mv (.s 0)),I 36 (.ld true 7 (.s 4)),I 37 (C Jo [(.s 35),(.s 36)]),I 34 (.mv (.s 37)),I 38 (.ext (.s 34) 0),I 39 (.ext (.s 34) 1),I 8 (.mv (.s 38)),I 10 (.mv (.s 39))])
def ZU7:PC :=
 (.reg [0,4,5,8,9,10,41] [I 40 (.mv (.s 10)),I 41 (.bin .neq (.s 40) (V 0))])
def ZU8:PC :=
 (.reg [6,7] [I 42 (.mv (.s 10)),I 6 (.mv (.v .nils)),I 7 (.mv (.s 42))])
def ZU9:PC :=
 (.reg [0,4,5,8,9,47] [I 43 (.fadr 1 (.s 5)),I 44 (.ld false 1 (.s 43)),I 45 (.fadr 1 (.s 4)),I 46 (.ld false 1 (.s 45)),I 47 (.bin .geq (.s 44) (.s 46))])
def ZRY:PC :=
 (.reg [0,4,5,8,9,10] [I 49 (.mv (.s 0)),I 50 (.ld true 7 (.s 5)),I 51 (C Jo [(.s 49),(.s 50)]),I 48 (.mv (.s 51)),I 52 (.ext (.s 48) 0),I 53 (.ext (.s 48) 1),I 9 (.mv (.s 52)),I 10 (.mv (.s 53))])
def ZRZ:PC :=
 (.reg [0,4,5,8,9,10,55] [I 54 (.mv (.s 10)),I 55 (.bin .neq (.s 54) (V 0))])
def ZRa:PC :=
 (.reg [6,7] [I 56 (.mv (.s 10)),I 6 (.mv (.v .nils)),I 7 (.mv (.s 56))])
def ZRb:PC :=
 (.reg [0,4,5,8,9,57] [I 58 (.fadr 1 (.s 4)),I 59 (.ld false 1 (.s 58)),I 60 (.fadr 1 (.s 5)),I 61 (.ld false 1 (.s 60)),I 62 (.bin .eql (.s 59) (.s 61)),I 63 (.mv (.s 62)),G 64 63 true (.mv (.s 8)),G 65 63 true (.len 1 (.s 64)),G 66 63 true (.mv (.s 9)),G 67 63 true (.len 1 (.s 66)),G 68 63 true (.bin .add (.s 65) (.s 67)),G 69 63 true (.bin .leq (.s 68) (V 4)),I 70 (.pick (.s 63) (.s 69) (.v (.bool false))),I 57 (.mv (.s 70))])
def ZRc:PC :=
 (.reg [6,7] [I 71 (.bslice false 7 [] []),I 72 (.mv (.s 8)),I 73 (.app 7 80 (.s 71) (.s 72)),I 74 (.mv (.s 9)),I 75 (.app 7 80 (.s 73) (.s 74)),I 76 (C QH [(.s 75)]),I 77 (.bslice false 7 [ZT] [(0,(.s 76))]),I 6 (.mv (.s 77)),I 7 (.mv (V 0))])
def ZRd:PC :=
 (.reg [0,4,5,8,9,78] [I 79 (.fadr 1 (.s 4)),I 80 (.ld false 1 (.s 79)),I 81 (.fadr 1 (.s 5)),I 82 (.ld false 1 (.s 81)),I 83 (.bin .eql (.s 80) (.s 82)),I 78 (.mv (.s 83))])
def ZRe:PC :=
 (.reg [6,7] [I 84 (.ld true 7 (.s 4)),I 85 (.ld true 7 (.s 5)),I 86 (.bslice false 7 [ZT,ZT] [(0,(.s 84)),(1,(.s 85))]),I 6 (.mv (.s 86)),I 7 (.mv (V 0))])
def ZRf:PC :=
 (.reg [0,4,5,8,9,87] [I 88 (.fadr 1 (.s 4)),I 89 (.ld false 1 (.s 88)),I 90 (.fadr 1 (.s 5)),I 91 (.ld false 1 (.s 90)),I 92 (.bin .gtr (.s 89) (.s 91)),I 87 (.mv (.s 92))])
def ZRg:PC :=
 (.reg [0,5,8,11] [I 93 (.mv (.s 8)),I 94 (.len 1 (.s 93)),I 95 (.bin .sub (.s 94) (V 1)),I 11 (.mv (.s 95))])
def ZRh:PC :=
 (.reg [8,11,12,13] [I 97 (.mv (.s 0)),I 98 (.mv (.s 8)),I 99 (.mv (.s 11)),I 100 (.ixS 7 (.s 98) (.s 99)),I 101 (.ld true 7 (.s 100)),I 102 (.ld true 7 (.s 5)),I 103 (C Xx [(.s 97),(.s 101),(.s 102)]),I 96 (.mv (.s 103)),I 104 (.ext (.s 96) 0),I 105 (.ext (.s 96) 1),I 12 (.mv (.s 104)),I 13 (.mv (.s 105))])
def ZRi:PC :=
 (.reg [8,11,12,13,107] [I 106 (.mv (.s 13)),I 107 (.bin .neq (.s 106) (V 0))])
def ZRj:PC :=
 (.reg [6,7] [I 108 (.mv (.s 13)),I 6 (.mv (.v .nils)),I 7 (.mv (.s 108))])
def ZRk:PC :=
 (.reg [6,7] [I 109 (.bslice false 7 [] []),I 110 (.mv (.s 8)),I 111 (.mv (.s 11)),I 112 (.slc 7 (.s 110) none (some (.s 111))),I 113 (.app 7 80 (.s 109) (.s 112)),I 114 (.mv (.s 12)),I 115 (.app 7 80 (.s 113) (.s 114)),I 116 (C ZDa [(.s 115)]),I 6 (.mv (.s 116)),I 7 (.mv (V 0))])
def ZRl:PC :=
 (.reg [9,10,14] [I 118 (.mv (.s 0)),I 119 (.ld true 7 (.s 4)),I 120 (.mv (.s 9)),I 121 (.ixS 7 (.s 120) (V 0)),I 122 (.ld true 7 (.s 121)),I 123 (C Xx [(.s 118),(.s 119),(.s 122)]),I 117 (.mv (.s 123)),I 124 (.ext (.s 117) 0),I 125 (.ext (.s 117) 1),I 14 (.mv (.s 124)),I 10 (.mv (.s 125))])
def ZRm:PC :=
 (.reg [9,10,14,127] [I 126 (.mv (.s 10)),I 127 (.bin .neq (.s 126) (V 0))])
def ZRn:PC :=
 (.reg [6,7] [I 128 (.mv (.s 10)),I 6 (.mv (.v .nils)),I 7 (.mv (.s 128))])
def ZRo:PC :=
 (.reg [6,7] [I 129 (.w .imm (.bslice false 7 [] [])),I 130 (.mv (.s 14)),I 131 (.w .app0 (.app 7 80 (.s 129) (.s 130))),I 132 (.mv (.s 9)),I 133 (.w .blind (.slc 7 (.s 132) (some (V 1)) none)),I 134 (.app 7 80 (.s 131) (.s 133)),I 135 (C ZDa [(.s 134)]),I 6 (.mv (.s 135)),I 7 (.mv (V 0))])
def ZNh:PF:=⟨false,
 (.seq ZU0
 (.seq (.seq ZU1
 (.ite (.s 22)
 (.seq ZU2
 .ret)
 .skip))
 (.seq ZU3
 (.seq ZU4
 (.seq (.seq ZU5
 (.ite (.s 33)
 (.seq ZU6
 (.seq ZU7
 (.ite (.s 41)
 (.seq ZU8
 .ret)
 .skip)))
 .skip))
 (.seq (.seq ZU9
 (.ite (.s 47)
 (.seq ZRY
 (.seq ZRZ
 (.ite (.s 55)
 (.seq ZRa
 .ret)
 .skip)))
 .skip))
 (.seq (.block 0
 (.seq ZRb
 (.ite (.s 57)
 (.seq ZRc
 .ret)
 (.seq ZRd
 (.ite (.s 78)
 (.seq ZRe
 .ret)
 (.seq ZRf
 (.ite (.s 87)
 (.seq ZRg
 (.seq ZRh
 (.seq (.seq ZRi
 (.ite (.s 107)
 (.seq ZRj
 .ret)
 .skip))
 (.seq ZRk
 .ret))))
 .skip)))))))
 (.seq ZRl
 (.seq (.seq ZRm
 (.ite (.s 127)
 (.seq ZRn
 .ret)
 .skip))
 (.seq ZRo
 .ret)))))))))),
 [.s 6,.s 7]⟩
theorem Zao:Zt Go.Proofs.Try.prog false Zan Go.Proofs.Try.f41=some ZNh:=by kernel_rfl
def ZXt:List Hint:=[H [1,2,3,4],H [1,2,3,4,16],H [2,3,4],H [3,4],H [3,26,27,28],H [3,26,27,28,29],H [3,6,26,27,28],H [3,26,27,28],H [3,26,27,28]]
def ZRp:PC :=
 (.reg [1,2,3,4] [I 4 (.box (.s 0))])
def ZRq:PC :=
 (.reg [1,2,3,4,16] [I 7 (.fadr 0 (.s 4)),I 8 (.ld false 1 (.s 7)),I 9 (.bin .neq (.s 8) (.v (.int .u64 0))),I 10 (.mv (.s 9)),G 11 10 true (.ld false 1 (.s 1)),G 12 10 true (.fadr 0 (.s 4)),G 13 10 true (.ld false 1 (.s 12)),G 14 10 true (.look 0 (.bool false) false (.s 11) (.s 13)),G 15 10 true (.un .not (.s 14)),I 16 (.pick (.s 10) (.s 15) (.v (.bool false)))])
def ZRr:PC :=
 (.reg [2,3,4] [I 17 (.ld false 1 (.s 1)),I 18 (.fadr 0 (.s 4)),I 19 (.ld false 1 (.s 18)),J (.mupd 0 (.s 17) (.s 19) (.v (.bool true)))])
def ZRs:PC :=
 (.reg [3,4] [I 20 (.ld false 1 (.s 2)),I 21 (.fadr 0 (.s 4)),I 22 (.ld false 1 (.s 21)),I 23 (.bslice false 1 [(.int .u64 0)] [(0,(.s 22))]),I 24 (.app 1 8 (.s 20) (.s 23)),J (.st 1 (.s 2) (.s 24))])
def ZG3:PC :=
 (.reg [3,26,27,28] [I 25 (.fadr 6 (.s 4)),I 26 (.ld false 1 (.s 25)),I 27 (.len 1 (.s 26)),I 28 (.mv (V 0))])
def ZRt:PC :=
 (.reg [3,26,27,28,29] [I 29 (.bin .lss (.s 28) (.s 27))])
def ZRu:PC :=
 (.reg [3,6,26,27,28] [I 30 (.ixS 7 (.s 26) (.s 28)),I 31 (.ld true 7 (.s 30)),I 6 (.box (.v ZT)),J (.st 7 (.s 6) (.s 31))])
def ZRv:PC :=
 (.reg [3,26,27,28] [I 32 (.ld false 1 (.s 3)),I 33 (.ld true 7 (.s 6)),I 34 (.call .norm (.s 32) [(.s 33)])])
def ZRw:PC :=
 (.reg [3,26,27,28] [I 35 (.bin .add (.s 28) (V 1)),I 28 (.mv (.s 35))])
def ZAu:PC :=
 (.seq ZRt
 (.seq (.ite (.s 29)
 .skip
 (.exit 0))
 (.seq (.block 1
 (.seq ZRu
 ZRv))
 ZRw)))
def ZLe:PF:=⟨false,
 (.seq ZRp
 (.seq (.seq ZRq
 (.ite (.s 16)
 (.seq ZRr
 ZRs)
 .skip))
 (.seq ZG3
 (.block 0
 (.loop ZAu))))),
 []⟩
theorem ZXu:Zt Go.Proofs.Try.prog false ZXt Go.Proofs.Try.f43=some ZLe:=by kernel_rfl
def ZI7:List Hint:=[H [0],H [0,7],H [2],H [0,3],H [3],H [3,4,5],H [3,4,5,25],H [3,4,5],H [3,4,5],H [2]]
def ZFy:PC :=
 (.reg [0] [I 2 (.mv (.v .nils))])
def ZFz:PC :=
 (.reg [0,7] [I 6 (.mv (.s 0)),I 7 (.eqs false 3 [] (.s 6) (.v .nilptr))])
def ZF0:PC :=
 (.reg [2] [I 2 (.mv (.v .nils))])
def ZF1:PC :=
 (.reg [0,3] [I 8 (.mv (.s 0)),I 9 (.nilck (.s 8)),I 10 (.fadr 0 (.s 9)),I 11 (.ld false 1 (.s 10)),I 12 (.len 1 (.s 11)),I 13 (.mkslice 1 8 (.int .i64 0) (.s 12) (.s 12)),I 3 (.mv (.s 13))])
def ZF2:PC :=
 (.reg [3] [I 14 (.mv (.s 3)),I 15 (.mv (.s 0)),I 16 (.nilck (.s 15)),I 17 (.fadr 0 (.s 16)),I 18 (.ld false 1 (.s 17)),I 19 (.cpy 1 (.s 14) (.s 18))])
def ZF3:PC :=
 (.reg [3,4,5] [I 20 (.mv (.s 3)),I 21 (.len 1 (.s 20)),I 22 (.bin .sub (.s 21) (V 1)),I 4 (.mv (V 0)),I 5 (.mv (.s 22))])
def ZF4:PC :=
 (.reg [3,4,5,25] [I 23 (.mv (.s 4)),I 24 (.mv (.s 5)),I 25 (.bin .lss (.s 23) (.s 24))])
def ZF5:PC :=
 (.reg [3,4,5] [I 30 (.mv (.s 3)),I 31 (.mv (.s 4)),I 32 (.mv (.s 3)),I 33 (.mv (.s 5)),I 34 (.mv (.s 3)),I 35 (.mv (.s 5)),I 36 (.ixS 1 (.s 34) (.s 35)),I 37 (.ld false 1 (.s 36)),I 38 (.mv (.s 3)),I 39 (.mv (.s 4)),I 40 (.ixS 1 (.s 38) (.s 39)),I 41 (.ld false 1 (.s 40)),I 42 (.ixS 1 (.s 30) (.s 31)),J (.st 1 (.s 42) (.s 37)),I 43 (.ixS 1 (.s 32) (.s 33)),J (.st 1 (.s 43) (.s 41))])
def ZF6:PC :=
 (.reg [3,4,5] [I 26 (.mv (.s 4)),I 27 (.bin .add (.s 26) (V 1)),I 28 (.mv (.s 5)),I 29 (.bin .sub (.s 28) (V 1)),I 4 (.mv (.s 27)),I 5 (.mv (.s 29))])
def ZF7:PC :=
 (.seq (.seq ZF4
 (.ite (.s 25)
 .skip
 (.exit 0)))
 (.seq (.block 1
 ZF5)
 ZF6))
def ZEN:PC :=
 (.reg [2] [I 44 (.mv (.s 3)),I 2 (.mv (.s 44))])
def ZAl:PF:=⟨false,
 (.seq ZFy
 (.seq (.seq ZFz
 (.ite (.s 7)
 (.seq ZF0
 .ret)
 .skip))
 (.seq ZF1
 (.seq ZF2
 (.seq (.seq ZF3
 (.block 0
 (.loop ZF7)))
 (.seq ZEN
 .ret)))))),
 [.s 2]⟩
theorem ZI8:Zt Go.Proofs.Try.prog false ZI7 Go.Proofs.Try.f44=some ZAl:=by kernel_rfl
def ZC8:List Hint:=[H [0],H [2]]
def ZBL:PC :=
 (.reg [0] [I 2 (.mv (.v .nils))])
def ZBM:PC :=
 (.reg [2] [I 3 (.mv (.s 0)),I 4 (C Jg [(.s 3),(.v (.int .u8 2))]),I 2 (.mv (.s 4))])
def XB:PF:=⟨false,
 (.seq ZBL
 (.seq ZBM
 .ret)),
 [.s 2]⟩
theorem ZC9:Zt Go.Proofs.Try.prog false ZC8 Go.Proofs.Try.f45=some XB:=by kernel_rfl
def ZEO:List Hint:=[H [0],⟨[0,3],[0],[],[],[],[]⟩,H [0,3,9,10,11],H [0,3,9,10,11,12],H [0,3,5,9,10,11],H [0,3,6,9,10,11],H [0,3,9,10,11],H [0,3,9,10,11],H [2]]
def ZDA:PC :=
 (.reg [0] [I 2 (.mv (.v .nils))])
def ZDB:PC :=
 (.reg [0,3] [I 3 (.onil 1)])
def ZDC:PC :=
 (.reg [0,3,9,10,11] [I 8 (.mv (.s 0)),I 9 (C Jg [(.s 8),(.v (.int .u8 1))]),I 10 (.len 1 (.s 9)),I 11 (.mv (V 0))])
def ZDD:PC :=
 (.reg [0,3,9,10,11,12] [I 12 (.bin .lss (.s 11) (.s 10))])
def ZDE:PC :=
 (.reg [0,3,5,9,10,11] [I 13 (.ixS 1 (.s 9) (.s 11)),I 14 (.ld false 1 (.s 13)),I 5 (.mv (.s 14))])
def ZDF:PC :=
 (.reg [0,3,6,9,10,11] [I 16 (.mv (.s 5)),I 17 (.mv (.s 0)),I 18 (.nilck (.s 17)),I 19 (.fadr 2 (.s 18)),I 20 (.ld false 1 (.s 19)),I 21 (.mv (.s 5)),I 22 (.ixS 1 (.s 20) (.s 21)),I 23 (.ld false 1 (.s 22)),I 24 (C ZAf [(.s 16),(.s 23)]),I 15 (.mv (.s 24)),I 25 (.ext (.s 15) 0),I 26 (.ext (.s 15) 1),I 6 (.mv (.s 25)),I 7 (.mv (.s 26))])
def ZDG:PC :=
 (.reg [0,3,9,10,11] [I 27 (.mv (.s 3)),I 28 (.mv (.s 6)),I 29 (.bslice false 1 [(.int .u64 0)] [(0,(.s 28))]),I 30 (.app 1 8 (.s 27) (.s 29)),I 3 (.mv (.s 30))])
def ZDH:PC :=
 (.reg [0,3,9,10,11] [I 31 (.bin .add (.s 11) (V 1)),I 11 (.mv (.s 31))])
def ZDI:PC :=
 (.seq ZDD
 (.seq (.ite (.s 12)
 .skip
 (.exit 0))
 (.seq (.block 1
 (.seq ZDE
 (.seq ZDF
 ZDG)))
 ZDH)))
def ZDJ:PC :=
 (.reg [2] [I 32 (.mv (.s 3)),I 2 (.mv (.s 32))])
def Xo:PF:=⟨false,
 (.seq ZDA
 (.seq ZDB
 (.seq (.seq ZDC
 (.block 0
 (.loop ZDI)))
 (.seq ZDJ
 .ret)))),
 [.s 2]⟩
theorem ZEP:Zt Go.Proofs.Try.prog false ZEO Go.Proofs.Try.f46=some Xo:=by kernel_rfl
def ZcU:List Hint:=[H [0,1,2,7],H [2,7,9,10],H [2,7,9,10,19],H [8],H [2,7,9,10,11],H [38],H [8],H [8]]
def ZXv:PC :=
 (.reg [0,1,2,7] [I 7 (.box (.s 3)),I 8 (.mv (V 0))])
def ZXw:PC :=
 (.reg [2,7,9,10] [I 13 (.mv (.s 0)),I 14 (.mv (.s 1)),I 15 (C JJ [(.s 13),(.s 14)]),I 12 (.mv (.s 15)),I 16 (.ext (.s 12) 0),I 17 (.ext (.s 12) 1),I 9 (.box (.v ZN)),J (.st 3 (.s 9) (.s 16)),I 10 (.mv (.s 17))])
def ZXx:PC :=
 (.reg [2,7,9,10,19] [I 18 (.mv (.s 10)),I 19 (.bin .neq (.s 18) (V 0))])
def ZXy:PC :=
 (.reg [8] [I 20 (.mv (.s 10)),I 8 (.mv (.s 20))])
def ZXz:PC :=
 (.reg [2,7,9,10,11] [I 22 (.ld true 3 (.s 9)),I 23 (C X3 [(.s 22)]),I 21 (.mv (.s 23)),I 24 (.ext (.s 21) 0),I 25 (.ext (.s 21) 1),I 11 (.box (.v ZM)),J (.st 3 (.s 11) (.s 24)),I 10 (.mv (.s 25))])
def ZX0:PC :=
 (.reg [38] [I 26 (.mv (.s 10)),I 27 (.bin .neq (.s 26) (V 0)),I 28 (.mv (.s 27)),G 29 28 false (.fadr 0 (.s 9)),G 30 28 false (.ld false 1 (.s 29)),G 31 28 false (.mv (.s 2)),G 32 28 false (.bin .neq (.s 30) (.s 31)),I 33 (.pick (.s 28) (.v (.bool true)) (.s 32)),I 34 (.mv (.s 33)),G 35 34 false (.ld true 3 (.s 11)),G 36 34 false (.ld true 3 (.s 7)),G 37 34 false (.eqs true 0 [(0,0),(1,0),(2,0)] (.s 35) (.s 36)),I 38 (.pick (.s 34) (.v (.bool true)) (.s 37))])
def ZX1:PC :=
 (.reg [8] [I 8 (.mv (V 23))])
def ZX2:PC :=
 (.reg [8] [I 8 (.mv (V 0))])
def ZQu:PF:=⟨false,
 (.seq ZXv
 (.seq ZXw
 (.seq (.seq ZXx
 (.ite (.s 19)
 (.seq ZXy
 .ret)
 .skip))
 (.seq ZXz
 (.seq (.seq ZX0
 (.ite (.s 38)
 (.seq ZX1
 .ret)
 .skip))
 (.seq ZX2
 .ret)))))),
 [.s 8]⟩
theorem ZcV:Zt Go.Proofs.Try.prog false ZcU Go.Proofs.Try.f47=some ZQu:=by kernel_rfl
def ZVA:List Hint:=[H [0],⟨[0,3],[0],[],[],[],[]⟩,H [0,3,8,9,10],H [0,3,8,9,10,11],H [0,3,5,8,9,10],H [0,3,5,8,9,10],H [0,3,8,9,10],H [0,3,8,9,10],H [2]]
def ZPO:PC :=
 (.reg [0] [I 2 (.mv (.v .nils))])
def ZPP:PC :=
 (.reg [0,3] [I 3 (.onil 1)])
def ZPQ:PC :=
 (.reg [0,3,8,9,10] [I 6 (.mv (.s 0)),I 7 (.len 0 (.s 6)),I 8 (C ZAg [(.s 7),(V 16)]),I 9 (.len 1 (.s 8)),I 10 (.mv (V 0))])
def ZPR:PC :=
 (.reg [0,3,8,9,10,11] [I 11 (.bin .lss (.s 10) (.s 9))])
def ZPS:PC :=
 (.reg [0,3,5,8,9,10] [I 12 (.ixS 1 (.s 8) (.s 10)),I 13 (.ld false 1 (.s 12)),I 5 (.mv (.s 13))])
def ZPT:PC :=
 (.reg [0,3,5,8,9,10] [I 14 (.mv (.s 3)),I 15 (.mv (.s 0)),I 16 (.mv (.s 5)),I 17 (.slcS (.s 15) none (some (.s 16))),I 18 (.bslice false 1 [(.str [])] [(0,(.s 17))]),I 19 (.app 1 16 (.s 14) (.s 18)),I 3 (.mv (.s 19))])
def ZPU:PC :=
 (.reg [0,3,8,9,10] [I 20 (.mv (.s 0)),I 21 (.mv (.s 5)),I 22 (.slcS (.s 20) (some (.s 21)) none),I 0 (.mv (.s 22))])
def ZPV:PC :=
 (.reg [0,3,8,9,10] [I 23 (.bin .add (.s 10) (V 1)),I 10 (.mv (.s 23))])
def ZPW:PC :=
 (.seq ZPR
 (.seq (.ite (.s 11)
 .skip
 (.exit 0))
 (.seq (.block 1
 (.seq ZPS
 (.seq ZPT
 ZPU)))
 ZPV)))
def ZPX:PC :=
 (.reg [2] [I 24 (.mv (.s 3)),I 2 (.mv (.s 24))])
def ZI9:PF:=⟨false,
 (.seq ZPO
 (.seq ZPP
 (.seq (.seq ZPQ
 (.block 0
 (.loop ZPW)))
 (.seq ZPX
 .ret)))),
 [.s 2]⟩
theorem ZVB:Zt Go.Proofs.Try.prog false ZVA Go.Proofs.Try.f48=some ZI9:=by kernel_rfl
def Zap:List Hint:=[H [0,1],H [0,1,11],H [4,5],H [0,1,13],H [4,5],H [4,5]]
def ZVC:PC :=
 (.reg [0,1] [I 4 (.mv (.v .nils)),I 5 (.mv (V 0))])
def ZVD:PC :=
 (.reg [0,1,11] [I 6 (.mv (.s 0)),I 7 (.bin .lss (.s 6) (V 0)),I 8 (.mv (.s 7)),G 9 8 false (.mv (.s 1)),G 10 8 false (.bin .lss (.s 9) (V 1)),I 11 (.pick (.s 8) (.v (.bool true)) (.s 10))])
def ZVE:PC :=
 (.reg [4,5] [I 4 (.mv (.v .nils)),I 5 (.mv (V 2))])
def ZVF:PC :=
 (.reg [0,1,13] [I 12 (.mv (.s 0)),I 13 (.bin .gtr (.s 12) (V 65536))])
def ZVG:PC :=
 (.reg [4,5] [I 4 (.mv (.v .nils)),I 5 (.mv (V 5))])
def ZVH:PC :=
 (.reg [4,5] [I 14 (.mv (.s 0)),I 15 (.mv (.s 1)),I 16 (C ZAg [(.s 14),(.s 15)]),I 4 (.mv (.s 16)),I 5 (.mv (V 0))])
def ZNi:PF:=⟨false,
 (.seq ZVC
 (.seq (.seq ZVD
 (.ite (.s 11)
 (.seq ZVE
 .ret)
 .skip))
 (.seq (.seq ZVF
 (.ite (.s 13)
 (.seq ZVG
 .ret)
 .skip))
 (.seq ZVH
 .ret)))),
 [.s 4,.s 5]⟩
theorem Zaq:Zt Go.Proofs.Try.prog false Zap Go.Proofs.Try.f49=some ZNi:=by kernel_rfl
def Zar:List Hint:=[H [0,2],H [0,2,3],H [2],H [0,2,8],H [2],⟨[2],[],[],[],[(7,.app0),(5,.imm)],[]⟩]
def ZVI:PC :=
 (.reg [0,2] [I 2 (.box (.v ZT))])
def ZVJ:PC :=
 (.reg [0,2,3] [I 4 (.mv (.s 0)),I 5 (.len 1 (.s 4)),I 6 (.bin .eql (.s 5) (V 0)),I 3 (.mv (.s 6))])
def ZVK:PC :=
 (.reg [2] [I 7 (.build [(.int .u64 0),(.int .i64 0),(.int .i64 0),(.int .i64 0),(.int .i64 0),(.str []),.nils] []),J (.st 7 (.s 2) (.s 7))])
def ZVL:PC :=
 (.reg [0,2,8] [I 9 (.mv (.s 0)),I 10 (.len 1 (.s 9)),I 11 (.bin .eql (.s 10) (V 1)),I 8 (.mv (.s 11))])
def ZVM:PC :=
 (.reg [2] [I 12 (.mv (.s 0)),I 13 (.ixS 7 (.s 12) (V 0)),I 14 (.ld true 7 (.s 13)),J (.st 7 (.s 2) (.s 14))])
def ZVN:PC :=
 (.reg [2] [I 15 (.mv (.s 0)),I 16 (.ixS 7 (.s 15) (V 0)),I 17 (.fadr 1 (.s 16)),I 18 (.ld false 1 (.s 17)),I 19 (.bin .add (.s 18) (V 1)),I 20 (.w .imm (.bslice false 7 [] [])),I 21 (.mv (.s 0)),I 22 (.w .app0 (.app 7 80 (.s 20) (.s 21))),I 23 (.build [(.int .u64 0),(.int .i64 0),(.int .i64 0),(.int .i64 0),(.int .i64 0),(.str []),.nils] [(1,1,(.s 19)),(6,1,(.s 22))]),J (.st 7 (.s 2) (.s 23))])
def ZNj:PF:=⟨false,
 (.seq ZVI
 (.seq (.block 0
 (.seq ZVJ
 (.ite (.s 3)
 (.seq ZVK
 .ret)
 (.seq ZVL
 (.ite (.s 8)
 (.seq ZVM
 .ret)
 .skip)))))
 (.seq ZVN
 .ret))),
 [.c 2 true 7]⟩
theorem Zas:Zt Go.Proofs.Try.prog false Zar Go.Proofs.Try.f50=some ZNj:=by kernel_rfl
def ZcW:List Hint:=[H [1],H [1,3],H [1,3,13],H [2],H [1,3,31],H [2],H [1,3,46],H [2],H [65],H [2],H [2]]
def ZX3:PC :=
 (.reg [1] [I 1 (.box (.s 0)),I 2 (.mv (V 0))])
def ZX4:PC :=
 (.reg [1,3] [I 4 (.fadr 2 (.s 1)),I 5 (.ld true 3 (.s 4)),I 6 (.build [(.int .i64 0),(.int .i64 0),(.int .i64 0)] []),I 7 (.eqs false 0 [(0,0),(1,0),(2,0)] (.s 5) (.s 6)),I 8 (.mv (.s 7)),G 9 8 true (.fadr 0 (.s 1)),G 10 8 true (.ld false 1 (.s 9)),G 11 8 true (.bin .eql (.s 10) (.v (.int .u64 0))),I 12 (.pick (.s 8) (.s 11) (.v (.bool false))),I 3 (.mv (.s 12))])
def ZX5:PC :=
 (.reg [1,3,13] [I 14 (.mv (.s 3)),I 15 (.mv (.s 14)),G 16 15 true (.fadr 1 (.s 1)),G 17 15 true (.ld false 1 (.s 16)),G 18 15 true (.bin .eql (.s 17) (V 0)),I 19 (.pick (.s 15) (.s 18) (.v (.bool false))),I 20 (.mv (.s 19)),G 21 20 true (.fadr 5 (.s 1)),G 22 20 true (.ld false 1 (.s 21)),G 23 20 true (.bin .eql (.s 22) (.v (.str []))),I 24 (.pick (.s 20) (.s 23) (.v (.bool false))),I 25 (.mv (.s 24)),G 26 25 true (.fadr 6 (.s 1)),G 27 25 true (.ld false 1 (.s 26)),G 28 25 true (.len 1 (.s 27)),G 29 25 true (.bin .eql (.s 28) (V 0)),I 30 (.pick (.s 25) (.s 29) (.v (.bool false))),I 13 (.mv (.s 30))])
def ZX6:PC :=
 (.reg [2] [I 2 (.mv (V 1))])
def ZX7:PC :=
 (.reg [1,3,31] [I 32 (.fadr 0 (.s 1)),I 33 (.ld false 1 (.s 32)),I 34 (.bin .neq (.s 33) (.v (.int .u64 0))),I 35 (.mv (.s 34)),G 36 35 true (.fadr 5 (.s 1)),G 37 35 true (.ld false 1 (.s 36)),G 38 35 true (.bin .eql (.s 37) (.v (.str []))),I 39 (.pick (.s 35) (.s 38) (.v (.bool false))),I 40 (.mv (.s 39)),G 41 40 true (.fadr 6 (.s 1)),G 42 40 true (.ld false 1 (.s 41)),G 43 40 true (.len 1 (.s 42)),G 44 40 true (.bin .eql (.s 43) (V 0)),I 45 (.pick (.s 40) (.s 44) (.v (.bool false))),I 31 (.mv (.s 45))])
def ZX8:PC :=
 (.reg [2] [I 2 (.mv (V 2))])
def ZX9:PC :=
 (.reg [1,3,46] [I 47 (.mv (.s 3)),I 48 (.mv (.s 47)),G 49 48 true (.fadr 1 (.s 1)),G 50 48 true (.ld false 1 (.s 49)),G 51 48 true (.bin .eql (.s 50) (V 0)),I 52 (.pick (.s 48) (.s 51) (.v (.bool false))),I 53 (.mv (.s 52)),G 54 53 true (.fadr 6 (.s 1)),G 55 53 true (.ld false 1 (.s 54)),G 56 53 true (.len 1 (.s 55)),G 57 53 true (.bin .eql (.s 56) (V 0)),I 58 (.pick (.s 53) (.s 57) (.v (.bool false))),I 59 (.mv (.s 58)),G 60 59 true (.fadr 5 (.s 1)),G 61 59 true (.ld false 1 (.s 60)),G 62 59 true (.len 0 (.s 61)),G 63 59 true (.bin .leq (.s 62) (V 16)),I 64 (.pick (.s 59) (.s 63) (.v (.bool false))),I 46 (.mv (.s 64))])
def ZYA:PC :=
 (.reg [2] [I 2 (.mv (V 3))])
def ZYB:PC :=
 (.reg [65] [I 66 (.mv (.s 3)),I 67 (.mv (.s 66)),G 68 67 true (.fadr 5 (.s 1)),G 69 67 true (.ld false 1 (.s 68)),G 70 67 true (.bin .eql (.s 69) (.v (.str []))),I 71 (.pick (.s 67) (.s 70) (.v (.bool false))),I 72 (.mv (.s 71)),G 73 72 true (.fadr 1 (.s 1)),G 74 72 true (.ld false 1 (.s 73)),G 75 72 true (.bin .geq (.s 74) (V 1)),I 76 (.pick (.s 72) (.s 75) (.v (.bool false))),I 77 (.mv (.s 76)),G 78 77 true (.fadr 1 (.s 1)),G 79 77 true (.ld false 1 (.s 78)),G 80 77 true (.bin .leq (.s 79) (V 16)),I 81 (.pick (.s 77) (.s 80) (.v (.bool false))),I 82 (.mv (.s 81)),G 83 82 true (.fadr 6 (.s 1)),G 84 82 true (.ld false 1 (.s 83)),G 85 82 true (.len 1 (.s 84)),G 86 82 true (.bin .geq (.s 85) (V 2)),I 87 (.pick (.s 82) (.s 86) (.v (.bool false))),I 88 (.mv (.s 87)),G 89 88 true (.fadr 6 (.s 1)),G 90 88 true (.ld false 1 (.s 89)),G 91 88 true (.len 1 (.s 90)),G 92 88 true (.bin .leq (.s 91) (V 4)),I 93 (.pick (.s 88) (.s 92) (.v (.bool false))),I 65 (.mv (.s 93))])
def ZYC:PC :=
 (.reg [2] [I 2 (.mv (V 4))])
def ZVO:PC :=
 (.reg [2] [I 2 (.mv (V 0))])
def ZQv:PF:=⟨false,
 (.seq ZX3
 (.seq ZX4
 (.seq (.block 0
 (.seq ZX5
 (.ite (.s 13)
 (.seq ZX6
 .ret)
 (.seq ZX7
 (.ite (.s 31)
 (.seq ZX8
 .ret)
 (.seq ZX9
 (.ite (.s 46)
 (.seq ZYA
 .ret)
 (.seq ZYB
 (.ite (.s 65)
 (.seq ZYC
 .ret)
 .skip)))))))))
 (.seq ZVO
 .ret)))),
 [.s 2]⟩
theorem ZcX:Zt Go.Proofs.Try.prog false ZcW Go.Proofs.Try.f51=some ZQv:=by kernel_rfl
def Zat:List Hint:=[H [0,1,2,3],H [0,1,2,3,16],H [8],H [0,1,2,3],H [0,1,2,3,9,10],H [0,1,2,3,9,10,26],H [8],H [0,2,3,9],H [0,2,3,32,33,34],H [0,2,3,32,33,34,35],H [0,2,3,12,32,33,34],H [0,2,3,13,32,33,34],H [0,2,3,13,32,33,34,45],H [8],H [0,2,3,32,33,34],H [8]]
def ZVP:PC :=
 (.reg [0,1,2,3] [I 8 (.mv (V 0))])
def ZVQ:PC :=
 (.reg [0,1,2,3,16] [I 14 (.mv (.s 2)),I 15 (.mv (.s 1)),I 16 (.look 0 (.bool false) false (.s 14) (.s 15))])
def ZVR:PC :=
 (.reg [8] [I 8 (.mv (V 0))])
def ZVS:PC :=
 (.reg [0,1,2,3] [I 17 (.mv (.s 2)),I 18 (.mv (.s 1)),J (.mupd 0 (.s 17) (.s 18) (.v (.bool true)))])
def ZVT:PC :=
 (.reg [0,1,2,3,9,10] [I 20 (.mv (.s 0)),I 21 (.mv (.s 1)),I 22 (C JJ [(.s 20),(.s 21)]),I 19 (.mv (.s 22)),I 23 (.ext (.s 19) 0),I 24 (.ext (.s 19) 1),I 9 (.box (.v ZN)),J (.st 3 (.s 9) (.s 23)),I 10 (.mv (.s 24))])
def ZVU:PC :=
 (.reg [0,1,2,3,9,10,26] [I 25 (.mv (.s 10)),I 26 (.bin .neq (.s 25) (V 0))])
def ZVV:PC :=
 (.reg [8] [I 27 (.mv (.s 10)),I 8 (.mv (.s 27))])
def ZVW:PC :=
 (.reg [0,2,3,9] [I 28 (.mv (.s 3)),I 29 (.mv (.s 1)),I 30 (.call .norm (.s 28) [(.s 29)])])
def ZVX:PC :=
 (.reg [0,2,3,32,33,34] [I 31 (.fadr 2 (.s 9)),I 32 (.ld false 1 (.s 31)),I 33 (.len 1 (.s 32)),I 34 (.mv (V 0))])
def ZVY:PC :=
 (.reg [0,2,3,32,33,34,35] [I 35 (.bin .lss (.s 34) (.s 33))])
def ZRx:PC :=
 (.reg [0,2,3,12,32,33,34] [I 36 (.ixS 4 (.s 32) (.s 34)),I 37 (.ld true 4 (.s 36)),I 12 (.box (.v ZK)),J (.st 4 (.s 12) (.s 37))])
def ZRy:PC :=
 (.reg [0,2,3,13,32,33,34] [I 38 (.mv (.s 0)),I 39 (.fadr 0 (.s 12)),I 40 (.ld false 1 (.s 39)),I 41 (.mv (.s 2)),I 42 (.mv (.s 3)),I 43 (C JC [(.s 38),(.s 40),(.s 41),(.s 42)]),I 13 (.mv (.s 43))])
def ZRz:PC :=
 (.reg [0,2,3,13,32,33,34,45] [I 44 (.mv (.s 13)),I 45 (.bin .neq (.s 44) (V 0))])
def ZR0:PC :=
 (.reg [8] [I 46 (.mv (.s 13)),I 8 (.mv (.s 46))])
def ZR1:PC :=
 (.reg [0,2,3,32,33,34] [I 47 (.bin .add (.s 34) (V 1)),I 34 (.mv (.s 47))])
def ZR2:PC :=
 (.seq ZVY
 (.seq (.ite (.s 35)
 .skip
 (.exit 0))
 (.seq (.block 1
 (.seq ZRx
 (.seq ZRy
 (.seq ZRz
 (.ite (.s 45)
 (.seq ZR0
 .ret)
 .skip)))))
 ZR1)))
def ZR3:PC :=
 (.reg [8] [I 8 (.mv (V 0))])
def ZNk:PF:=⟨false,
 (.seq ZVP
 (.seq (.seq ZVQ
 (.ite (.s 16)
 (.seq ZVR
 .ret)
 .skip))
 (.seq ZVS
 (.seq ZVT
 (.seq (.seq ZVU
 (.ite (.s 26)
 (.seq ZVV
 .ret)
 .skip))
 (.seq ZVW
 (.seq (.seq ZVX
 (.block 0
 (.loop ZR2)))
 (.seq ZR3
 .ret)))))))),
 [.s 8]⟩
theorem Zau:Zt Go.Proofs.Try.prog false Zat Go.Proofs.Try.f52=some ZNk:=by kernel_rfl
def ZPY:List Hint:=[]
def ZEQ:PF:=⟨false,
 .skip,
 []⟩
theorem ZPZ:Zt Go.Proofs.Try.prog false ZPY Go.Proofs.Try.f53=some ZEQ:=by kernel_rfl
def ZPa:List Hint:=[H [0,2,7],H []]
def ZL7:PC :=
 (.reg [0,2,7] [I 4 (.ld false 1 (.s 1)),I 5 (.mv (.s 0)),I 6 (.look 0 (.bool false) false (.s 4) (.s 5)),I 7 (.un .not (.s 6))])
def ZL8:PC :=
 (.reg [] [I 8 (.ld false 1 (.s 2)),I 9 (.mv (.s 0)),I 10 (.bslice false 1 [(.int .u64 0)] [(0,(.s 9))]),I 11 (.app 1 8 (.s 8) (.s 10)),J (.st 1 (.s 2) (.s 11))])
def ZER:PF:=⟨false,
 (.seq ZL7
 (.ite (.s 7)
 ZL8
 .skip)),
 []⟩
theorem ZPb:Zt Go.Proofs.Try.prog false ZPa Go.Proofs.Try.f54=some ZER:=by kernel_rfl
def ZYD:List Hint:=[H [1,2,3,4],H [1,2,3,4,15],H [2,6,7],H [7],H [5],H [3,8,9],H [3,8,9,33],H [5],H [3,35,36,37],H [3,35,36,37,38],H [3,11,35,36,37],H [3,12,35,36,37],H [3,12,35,36,37,45],H [5],H [3,35,36,37],H [5]]
def ZR4:PC :=
 (.reg [1,2,3,4] [I 4 (.box (.s 0)),I 5 (.mv (V 0))])
def ZR5:PC :=
 (.reg [1,2,3,4,15] [I 13 (.fadr 1 (.s 4)),I 14 (.ld false 1 (.s 13)),I 15 (.bin .eql (.s 14) (V 0))])
def ZR6:PC :=
 (.reg [2,6,7] [I 17 (.ld false 1 (.s 1)),I 18 (.ld true 7 (.s 4)),I 19 (C Xm [(.s 17),(.s 18)]),I 16 (.mv (.s 19)),I 20 (.ext (.s 16) 0),I 21 (.ext (.s 16) 1),I 6 (.mv (.s 20)),I 7 (.mv (.s 21))])
def ZR7:PC :=
 (.reg [7] [I 22 (.ld false 1 (.s 2)),I 23 (.mv (.s 6)),I 24 (.app 1 1 (.s 22) (.s 23)),J (.st 1 (.s 2) (.s 24))])
def ZR8:PC :=
 (.reg [5] [I 25 (.mv (.s 7)),I 5 (.mv (.s 25))])
def ZR9:PC :=
 (.reg [3,8,9] [I 27 (.ld false 1 (.s 1)),I 28 (.ld true 7 (.s 4)),I 29 (C Jo [(.s 27),(.s 28)]),I 26 (.mv (.s 29)),I 30 (.ext (.s 26) 0),I 31 (.ext (.s 26) 1),I 8 (.mv (.s 30)),I 9 (.mv (.s 31))])
def ZSA:PC :=
 (.reg [3,8,9,33] [I 32 (.mv (.s 9)),I 33 (.bin .neq (.s 32) (V 0))])
def ZSB:PC :=
 (.reg [5] [I 34 (.mv (.s 9)),I 5 (.mv (.s 34))])
def ZSC:PC :=
 (.reg [3,35,36,37] [I 35 (.mv (.s 8)),I 36 (.len 1 (.s 35)),I 37 (.mv (V 0))])
def ZSD:PC :=
 (.reg [3,35,36,37,38] [I 38 (.bin .lss (.s 37) (.s 36))])
def ZPc:PC :=
 (.reg [3,11,35,36,37] [I 39 (.ixS 7 (.s 35) (.s 37)),I 40 (.ld true 7 (.s 39)),I 11 (.box (.v ZT)),J (.st 7 (.s 11) (.s 40))])
def ZPd:PC :=
 (.reg [3,12,35,36,37] [I 41 (.ld false 1 (.s 3)),I 42 (.ld true 7 (.s 11)),I 43 (.call .norm (.s 41) [(.s 42)]),I 12 (.mv (.s 43))])
def ZPe:PC :=
 (.reg [3,12,35,36,37,45] [I 44 (.mv (.s 12)),I 45 (.bin .neq (.s 44) (V 0))])
def ZPf:PC :=
 (.reg [5] [I 46 (.mv (.s 12)),I 5 (.mv (.s 46))])
def ZPg:PC :=
 (.reg [3,35,36,37] [I 47 (.bin .add (.s 37) (V 1)),I 37 (.mv (.s 47))])
def ZPh:PC :=
 (.seq ZSD
 (.seq (.ite (.s 38)
 .skip
 (.exit 0))
 (.seq (.block 1
 (.seq ZPc
 (.seq ZPd
 (.seq ZPe
 (.ite (.s 45)
 (.seq ZPf
 .ret)
 .skip)))))
 ZPg)))
def ZPi:PC :=
 (.reg [5] [I 5 (.mv (V 0))])
def ZLf:PF:=⟨false,
 (.seq ZR4
 (.seq (.seq ZR5
 (.ite (.s 15)
 (.seq ZR6
 (.seq ZR7
 (.seq ZR8
 .ret)))
 .skip))
 (.seq ZR9
 (.seq (.seq ZSA
 (.ite (.s 33)
 (.seq ZSB
 .ret)
 .skip))
 (.seq (.seq ZSC
 (.block 0
 (.loop ZPh)))
 (.seq ZPi
 .ret)))))),
 [.s 5]⟩
theorem ZYE:Zt Go.Proofs.Try.prog false ZYD Go.Proofs.Try.f55=some ZLf:=by kernel_rfl
def ZcY:List Hint:=[H [0,3],H [0,3,10],H [4,5],H [6,7],H [4,5]]
def ZYF:PC :=
 (.reg [0,3] [I 3 (.box (.s 1)),I 4 (.mv (.v (.str []))),I 5 (.mv (V 0))])
def ZYG:PC :=
 (.reg [0,3,10] [I 8 (.fadr 0 (.s 3)),I 9 (.ld false 1 (.s 8)),I 10 (.bin .eql (.s 9) (.v (.int .u64 0)))])
def ZYH:PC :=
 (.reg [4,5] [I 11 (.fadr 5 (.s 3)),I 12 (.ld false 1 (.s 11)),I 4 (.mv (.s 12)),I 5 (.mv (V 0))])
def ZYI:PC :=
 (.reg [6,7] [I 14 (.mv (.s 0)),I 15 (.fadr 0 (.s 3)),I 16 (.ld false 1 (.s 15)),I 17 (C JJ [(.s 14),(.s 16)]),I 13 (.mv (.s 17)),I 18 (.ext (.s 13) 0),I 19 (.ext (.s 13) 1),I 6 (.box (.v ZN)),J (.st 3 (.s 6) (.s 18)),I 7 (.mv (.s 19))])
def ZYJ:PC :=
 (.reg [4,5] [I 20 (.fadr 1 (.s 6)),I 21 (.ld false 1 (.s 20)),I 22 (.mv (.s 7)),I 4 (.mv (.s 21)),I 5 (.mv (.s 22))])
def ZQw:PF:=⟨false,
 (.seq ZYF
 (.seq (.seq ZYG
 (.ite (.s 10)
 (.seq ZYH
 .ret)
 .skip))
 (.seq ZYI
 (.seq ZYJ
 .ret)))),
 [.s 4,.s 5]⟩
theorem ZcZ:Zt Go.Proofs.Try.prog false ZcY Go.Proofs.Try.f56=some ZQw:=by kernel_rfl
def ZSE:List Hint:=[H [0,3],H [0,3,13],H [4,5],H [6,7],H [6,7,24],H [4,5],⟨[6,8],[0],[],[],[],[]⟩,H [6,8,27,28,29],H [6,8,27,28,29,30],H [6,8,10,27,28,29],H [6,8,27,28,29],H [6,8,27,28,29],H [8,47],H [4,5],H [4,5]]
def ZNl:PC :=
 (.reg [0,3] [I 3 (.box (.s 1)),I 4 (.mv (.v .nils)),I 5 (.mv (V 0))])
def ZNm:PC :=
 (.reg [0,3,13] [I 11 (.fadr 0 (.s 3)),I 12 (.ld false 1 (.s 11)),I 13 (.bin .eql (.s 12) (.v (.int .u64 0)))])
def ZNn:PC :=
 (.reg [4,5] [I 14 (.fadr 6 (.s 3)),I 15 (.ld false 1 (.s 14)),I 4 (.mv (.s 15)),I 5 (.mv (V 0))])
def ZNo:PC :=
 (.reg [6,7] [I 17 (.mv (.s 0)),I 18 (.fadr 0 (.s 3)),I 19 (.ld false 1 (.s 18)),I 20 (C JJ [(.s 17),(.s 19)]),I 16 (.mv (.s 20)),I 21 (.ext (.s 16) 0),I 22 (.ext (.s 16) 1),I 6 (.box (.v ZN)),J (.st 3 (.s 6) (.s 21)),I 7 (.mv (.s 22))])
def ZNp:PC :=
 (.reg [6,7,24] [I 23 (.mv (.s 7)),I 24 (.bin .neq (.s 23) (V 0))])
def ZNq:PC :=
 (.reg [4,5] [I 25 (.mv (.s 7)),I 4 (.mv (.v .nils)),I 5 (.mv (.s 25))])
def ZNr:PC :=
 (.reg [6,8] [I 8 (.onil 7)])
def ZNs:PC :=
 (.reg [6,8,27,28,29] [I 26 (.fadr 2 (.s 6)),I 27 (.ld false 1 (.s 26)),I 28 (.len 1 (.s 27)),I 29 (.mv (V 0))])
def ZNt:PC :=
 (.reg [6,8,27,28,29,30] [I 30 (.bin .lss (.s 29) (.s 28))])
def ZNu:PC :=
 (.reg [6,8,10,27,28,29] [I 31 (.ixS 4 (.s 27) (.s 29)),I 32 (.ld true 4 (.s 31)),I 10 (.box (.v ZK)),J (.st 4 (.s 10) (.s 32))])
def ZL9:PC :=
 (.reg [6,8,27,28,29] [I 33 (.mv (.s 8)),I 34 (.fadr 0 (.s 10)),I 35 (.ld false 1 (.s 34)),I 36 (.fadr 0 (.s 6)),I 37 (.ld false 1 (.s 36)),I 38 (.bin .sub (.s 37) (V 1)),I 39 (.fadr 1 (.s 10)),I 40 (.ld true 3 (.s 39)),I 41 (.build [(.int .u64 0),(.int .i64 0),(.int .i64 0),(.int .i64 0),(.int .i64 0),(.str []),.nils] [(0,1,(.s 35)),(1,1,(.s 38)),(2,3,(.s 40))]),I 42 (.bslice false 7 [ZT] [(0,(.s 41))]),I 43 (.app 7 80 (.s 33) (.s 42)),I 8 (.mv (.s 43))])
def ZMA:PC :=
 (.reg [6,8,27,28,29] [I 44 (.bin .add (.s 29) (V 1)),I 29 (.mv (.s 44))])
def ZCQ:PC :=
 (.seq ZNt
 (.seq (.ite (.s 30)
 .skip
 (.exit 0))
 (.seq (.block 1
 (.seq ZNu
 ZL9))
 ZMA)))
def ZMB:PC :=
 (.reg [8,47] [I 45 (.mv (.s 8)),I 46 (.len 1 (.s 45)),I 47 (.bin .eql (.s 46) (V 0))])
def ZMC:PC :=
 (.reg [4,5] [I 4 (.mv (.v .nils)),I 5 (.mv (V 23))])
def ZMD:PC :=
 (.reg [4,5] [I 48 (.mv (.s 8)),I 4 (.mv (.s 48)),I 5 (.mv (V 0))])
def ZG4:PF:=⟨false,
 (.seq ZNl
 (.seq (.seq ZNm
 (.ite (.s 13)
 (.seq ZNn
 .ret)
 .skip))
 (.seq ZNo
 (.seq (.seq ZNp
 (.ite (.s 24)
 (.seq ZNq
 .ret)
 .skip))
 (.seq ZNr
 (.seq (.seq ZNs
 (.block 0
 (.loop ZCQ)))
 (.seq (.seq ZMB
 (.ite (.s 47)
 (.seq ZMC
 .ret)
 .skip))
 (.seq ZMD
 .ret)))))))),
 [.s 4,.s 5]⟩
theorem ZSF:Zt Go.Proofs.Try.prog false ZSE Go.Proofs.Try.f57=some ZG4:=by kernel_rfl
def ZVZ:List Hint:=[H [0,1],H [0,1,21],H [4,5],⟨[0,6],[],[],[],[(1,(.here 1)),(5,(.here 5)),(3,(.here 3))],[3,1,5]⟩,H [0,6,31,32],H [0,6,31,32,33],H [0,6,7,31,32],H [0,6,7,31,32],H [0,6,31,32],H [0,6,31,32],H [4,5]]
def ZPj:PC :=
 (.reg [0,1] [I 4 (.mv (.v .nilptr)),I 5 (.mv (V 0))])
def ZPk:PC :=
 (.reg [0,1,21] [I 8 (.mv (.s 0)),I 9 (.bin .lss (.s 8) (V 1)),I 10 (.mv (.s 9)),G 11 10 false (.mv (.s 0)),G 12 10 false (.bin .gtr (.s 11) (V 16384)),I 13 (.pick (.s 10) (.v (.bool true)) (.s 12)),I 14 (.mv (.s 13)),G 15 14 false (.mv (.s 1)),G 16 14 false (.bin .lss (.s 15) (.v (.int .u64 1))),I 17 (.pick (.s 14) (.v (.bool true)) (.s 16)),I 18 (.mv (.s 17)),G 19 18 false (.mv (.s 1)),G 20 18 false (.bin .gtr (.s 19) (.v (.int .u64 4294967295))),I 21 (.pick (.s 18) (.v (.bool true)) (.s 20))])
def ZPl:PC :=
 (.reg [4,5] [I 4 (.mv (.v .nilptr)),I 5 (.mv (V 3))])
def ZPm:PC :=
 (.regH [3,1,5] [0,6] [I 22 (.mv (.s 0)),I 23 (.w (.here 1) (.mkslice 1 8 (.int .i64 0) (.s 22) (.s 22))),I 24 (.mv (.s 0)),I 25 (.w (.here 3) (.mkslice 1 1 (.int .u8 0) (.s 24) (.s 24))),I 26 (.mv (.s 0)),I 27 (.w (.here 5) (.mkslice 1 8 (.int .u64 0) (.s 26) (.s 26))),I 28 (.mv (.s 1)),I 29 (.build [.nils,.nils,.nils,(.int .u64 0)] [(0,1,(.s 23)),(1,1,(.s 25)),(2,1,(.s 27)),(3,1,(.s 28))]),I 30 (.box (.s 29)),I 6 (.mv (.s 30))])
def ZPn:PC :=
 (.reg [0,6,31,32] [I 31 (.mv (.s 0)),I 32 (.mv (V 0))])
def ZPo:PC :=
 (.reg [0,6,31,32,33] [I 33 (.bin .lss (.s 32) (.s 31))])
def ZPp:PC :=
 (.reg [0,6,7,31,32] [I 34 (.mv (.s 32)),I 7 (.mv (.s 34))])
def ZPq:PC :=
 (.reg [0,6,7,31,32] [I 35 (.mv (.s 6)),I 36 (.nilck (.s 35)),I 37 (.fadr 0 (.s 36)),I 38 (.ld false 1 (.s 37)),I 39 (.mv (.s 7)),I 40 (.mv (.s 0)),I 41 (.bin .sub (.s 40) (V 1)),I 42 (.mv (.s 7)),I 43 (.bin .sub (.s 41) (.s 42)),I 44 (.ixS 1 (.s 38) (.s 39)),J (.st 1 (.s 44) (.s 43))])
def ZPr:PC :=
 (.reg [0,6,31,32] [I 45 (.mv (.s 6)),I 46 (.nilck (.s 45)),I 47 (.fadr 2 (.s 46)),I 48 (.ld false 1 (.s 47)),I 49 (.mv (.s 7)),I 50 (.ixS 1 (.s 48) (.s 49)),J (.st 1 (.s 50) (.v (.int .u64 1)))])
def ZPs:PC :=
 (.reg [0,6,31,32] [I 51 (.bin .add (.s 32) (V 1)),I 32 (.mv (.s 51))])
def ZNv:PC :=
 (.seq ZPo
 (.seq (.ite (.s 33)
 .skip
 (.exit 0))
 (.seq (.block 1
 (.seq ZPp
 (.seq ZPq
 ZPr)))
 ZPs)))
def ZNw:PC :=
 (.reg [4,5] [I 52 (.mv (.s 6)),I 4 (.mv (.s 52)),I 5 (.mv (V 0))])
def ZJA:PF:=⟨true,
 (.seq ZPj
 (.seq (.seq ZPk
 (.ite (.s 21)
 (.seq ZPl
 .ret)
 .skip))
 (.seq ZPm
 (.seq (.seq ZPn
 (.block 0
 (.loop ZNv)))
 (.seq ZNw
 .ret))))),
 [.s 4,.s 5]⟩
theorem ZVa:Zt Go.Proofs.Try.prog true ZVZ Go.Proofs.Try.f58=some ZJA:=by kernel_rfl
def ZNx:List Hint:=[H [0,1],H [0,1,13],H [4,5],H [0,1,19],H [4,5],H [0,6],H [0,6,7],H [0,6,7,25],H [0,6,7],H [0,6,7],H [0,6,7],H [0,6,7],H [4,5]]
def ZKm:PC :=
 (.reg [0,1] [I 4 (.mv (.v .nilptr)),I 5 (.mv (V 0))])
def ZKn:PC :=
 (.reg [0,1,13] [I 8 (.mv (.s 0)),I 9 (.bin .lss (.s 8) (V 1)),I 10 (.mv (.s 9)),G 11 10 false (.mv (.s 0)),G 12 10 false (.bin .gtr (.s 11) (V 16384)),I 13 (.pick (.s 10) (.v (.bool true)) (.s 12))])
def ZKo:PC :=
 (.reg [4,5] [I 4 (.mv (.v .nilptr)),I 5 (.mv (V 3))])
def ZKp:PC :=
 (.reg [0,1,19] [I 14 (.mv (.s 1)),I 15 (.bin .lss (.s 14) (.v (.int .u64 1))),I 16 (.mv (.s 15)),G 17 16 false (.mv (.s 1)),G 18 16 false (.bin .gtr (.s 17) (.v (.int .u64 4294967295))),I 19 (.pick (.s 16) (.v (.bool true)) (.s 18))])
def ZKq:PC :=
 (.reg [4,5] [I 4 (.mv (.v .nilptr)),I 5 (.mv (V 3))])
def ZKr:PC :=
 (.reg [0,6] [I 20 (.mv (.s 1)),I 21 (.build [(.int .u64 0),.nils,.nils,.nils] [(0,1,(.s 20))]),I 22 (.box (.s 21)),I 6 (.mv (.s 22))])
def ZKs:PC :=
 (.reg [0,6,7] [I 7 (.mv (V 0))])
def ZKt:PC :=
 (.reg [0,6,7,25] [I 23 (.mv (.s 7)),I 24 (.mv (.s 0)),I 25 (.bin .lss (.s 23) (.s 24))])
def ZKu:PC :=
 (.reg [0,6,7] [I 28 (.mv (.s 6)),I 29 (.mv (.s 6)),I 30 (.nilck (.s 29)),I 31 (.fadr 1 (.s 30)),I 32 (.ld false 1 (.s 31)),I 33 (.bslice false 1 [(.int .i64 0)] [(0,(V 0))]),I 34 (.app 1 8 (.s 32) (.s 33)),I 35 (.nilck (.s 28)),I 36 (.fadr 1 (.s 35)),J (.st 1 (.s 36) (.s 34))])
def ZKv:PC :=
 (.reg [0,6,7] [I 37 (.mv (.s 6)),I 38 (.mv (.s 6)),I 39 (.nilck (.s 38)),I 40 (.fadr 2 (.s 39)),I 41 (.ld false 1 (.s 40)),I 42 (.bslice false 1 [(.int .u64 0)] [(0,(.v (.int .u64 1)))]),I 43 (.app 1 8 (.s 41) (.s 42)),I 44 (.nilck (.s 37)),I 45 (.fadr 2 (.s 44)),J (.st 1 (.s 45) (.s 43))])
def ZJB:PC :=
 (.reg [0,6,7] [I 46 (.mv (.s 6)),I 47 (.mv (.s 6)),I 48 (.nilck (.s 47)),I 49 (.fadr 3 (.s 48)),I 50 (.ld false 1 (.s 49)),I 51 (.mv (.s 0)),I 52 (.bin .sub (.s 51) (V 1)),I 53 (.mv (.s 7)),I 54 (.bin .sub (.s 52) (.s 53)),I 55 (.bslice false 1 [(.int .i64 0)] [(0,(.s 54))]),I 56 (.app 1 8 (.s 50) (.s 55)),I 57 (.nilck (.s 46)),I 58 (.fadr 3 (.s 57)),J (.st 1 (.s 58) (.s 56))])
def ZJC:PC :=
 (.reg [0,6,7] [I 26 (.mv (.s 7)),I 27 (.bin .add (.s 26) (V 1)),I 7 (.mv (.s 27))])
def ZJD:PC :=
 (.seq (.seq ZKt
 (.ite (.s 25)
 .skip
 (.exit 0)))
 (.seq (.block 1
 (.seq ZKu
 (.seq ZKv
 ZJB)))
 ZJC))
def ZJE:PC :=
 (.reg [4,5] [I 59 (.mv (.s 6)),I 4 (.mv (.s 59)),I 5 (.mv (V 0))])
def ZDe:PF:=⟨true,
 (.seq ZKm
 (.seq (.seq ZKn
 (.ite (.s 13)
 (.seq ZKo
 .ret)
 .skip))
 (.seq (.seq ZKp
 (.ite (.s 19)
 (.seq ZKq
 .ret)
 .skip))
 (.seq ZKr
 (.seq (.seq ZKs
 (.block 0
 (.loop ZJD)))
 (.seq ZJE
 .ret)))))),
 [.s 4,.s 5]⟩
theorem ZNy:Zt Go.Proofs.Try.prog true ZNx Go.Proofs.Try.f59=some ZDe:=by kernel_rfl
def ZJF:List Hint:=[H [0],⟨[0,3],[0],[],[],[],[]⟩,H [0,3,4],H [0,3,4,5],H [0,3,4,5,12],H [0,3,4,5],H [0,3,4,5],H [0,3,4,5],H [2]]
def ZF8:PC :=
 (.reg [0] [I 2 (.mv (.v .nils))])
def ZF9:PC :=
 (.reg [0,3] [I 3 (.onil 1)])
def ZGA:PC :=
 (.reg [0,3,4] [I 6 (.mv (.s 0)),I 7 (.len 0 (.s 6)),I 8 (C J3 [(.s 7),(V 16)]),I 4 (.mv (.s 8))])
def ZGB:PC :=
 (.reg [0,3,4,5] [I 5 (.mv (V 0))])
def ZGC:PC :=
 (.reg [0,3,4,5,12] [I 9 (.mv (.s 5)),I 10 (.mv (.s 4)),I 11 (.len 1 (.s 10)),I 12 (.bin .lss (.s 9) (.s 11))])
def ZGD:PC :=
 (.reg [0,3,4,5] [I 15 (.mv (.s 3)),I 16 (.mv (.s 0)),I 17 (.mv (.s 4)),I 18 (.mv (.s 5)),I 19 (.ixS 1 (.s 17) (.s 18)),I 20 (.ld false 1 (.s 19)),I 21 (.slcS (.s 16) none (some (.s 20))),I 22 (.bslice false 1 [(.str [])] [(0,(.s 21))]),I 23 (.app 1 16 (.s 15) (.s 22)),I 3 (.mv (.s 23))])
def ZGE:PC :=
 (.reg [0,3,4,5] [I 24 (.mv (.s 0)),I 25 (.mv (.s 4)),I 26 (.mv (.s 5)),I 27 (.ixS 1 (.s 25) (.s 26)),I 28 (.ld false 1 (.s 27)),I 29 (.slcS (.s 24) (some (.s 28)) none),I 0 (.mv (.s 29))])
def ZGF:PC :=
 (.reg [0,3,4,5] [I 13 (.mv (.s 5)),I 14 (.bin .add (.s 13) (V 1)),I 5 (.mv (.s 14))])
def ZGG:PC :=
 (.seq (.seq ZGC
 (.ite (.s 12)
 .skip
 (.exit 0)))
 (.seq (.block 1
 (.seq ZGD
 ZGE))
 ZGF))
def ZGH:PC :=
 (.reg [2] [I 30 (.mv (.s 3)),I 2 (.mv (.s 30))])
def ZAm:PF:=⟨false,
 (.seq ZF8
 (.seq ZF9
 (.seq ZGA
 (.seq (.seq ZGB
 (.block 0
 (.loop ZGG)))
 (.seq ZGH
 .ret))))),
 [.s 2]⟩
theorem ZJG:Zt Go.Proofs.Try.prog false ZJF Go.Proofs.Try.f60=some ZAm:=by kernel_rfl
def ZME:List Hint:=[H [0,2],H [2]]
def ZJH:PC :=
 (.reg [0,2] [I 2 (.box (.v ZT))])
def ZJI:PC :=
 (.reg [2] [I 3 (.mv (.s 0)),I 4 (.build [(.int .u64 0),(.int .i64 0),(.int .i64 0),(.int .i64 0),(.int .i64 0),(.str []),.nils] [(5,1,(.s 3))]),J (.st 7 (.s 2) (.s 4))])
def ZCR:PF:=⟨false,
 (.seq ZJH
 (.seq ZJI
 .ret)),
 [.c 2 true 7]⟩
theorem ZMF:Zt Go.Proofs.Try.prog false ZME Go.Proofs.Try.f61=some ZCR:=by kernel_rfl
def ZKw:List Hint:=[H [0,1],H [0,1,10],H [4],H [0,5],⟨[0,5,6],[0],[],[],[],[]⟩,H [0,5,6,7],H [0,5,6,7,18],H [0,5,6,7,8],H [0,5,6,7,8,28],H [0,5,6,7,8],H [0,5,6,7],H [0,5,6,7],H [4]]
def ZHo:PC :=
 (.reg [0,1] [I 4 (.mv (.v .nils))])
def ZHp:PC :=
 (.reg [0,1,10] [I 9 (.mv (.s 0)),I 10 (.bin .eql (.s 9) (V 0))])
def ZHq:PC :=
 (.reg [4] [I 4 (.mv (.v .nils))])
def ZHr:PC :=
 (.reg [0,5] [I 11 (.mv (.s 0)),I 12 (.bin .sub (.s 11) (V 1)),I 13 (.mv (.s 1)),I 14 (.bin .quo (.s 12) (.s 13)),I 15 (.bin .add (.s 14) (V 1)),I 5 (.mv (.s 15))])
def ZHs:PC :=
 (.reg [0,5,6] [I 6 (.onil 1)])
def ZHt:PC :=
 (.reg [0,5,6,7] [I 7 (.mv (V 0))])
def ZHu:PC :=
 (.reg [0,5,6,7,18] [I 16 (.mv (.s 7)),I 17 (.mv (.s 5)),I 18 (.bin .lss (.s 16) (.s 17))])
def ZHv:PC :=
 (.reg [0,5,6,7,8] [I 21 (.mv (.s 0)),I 22 (.mv (.s 5)),I 23 (.bin .quo (.s 21) (.s 22)),I 8 (.mv (.s 23))])
def ZHw:PC :=
 (.reg [0,5,6,7,8,28] [I 24 (.mv (.s 7)),I 25 (.mv (.s 0)),I 26 (.mv (.s 5)),I 27 (.bin .rem (.s 25) (.s 26)),I 28 (.bin .lss (.s 24) (.s 27))])
def ZHx:PC :=
 (.reg [0,5,6,7,8] [I 29 (.mv (.s 8)),I 30 (.bin .add (.s 29) (V 1)),I 8 (.mv (.s 30))])
def ZGI:PC :=
 (.reg [0,5,6,7] [I 31 (.mv (.s 6)),I 32 (.mv (.s 8)),I 33 (.bslice false 1 [(.int .i64 0)] [(0,(.s 32))]),I 34 (.app 1 8 (.s 31) (.s 33)),I 6 (.mv (.s 34))])
def ZGJ:PC :=
 (.reg [0,5,6,7] [I 19 (.mv (.s 7)),I 20 (.bin .add (.s 19) (V 1)),I 7 (.mv (.s 20))])
def ZGK:PC :=
 (.seq (.seq ZHu
 (.ite (.s 18)
 .skip
 (.exit 0)))
 (.seq (.block 1
 (.seq ZHv
 (.seq (.seq ZHw
 (.ite (.s 28)
 ZHx
 .skip))
 ZGI)))
 ZGJ))
def ZGL:PC :=
 (.reg [4] [I 35 (.mv (.s 6)),I 4 (.mv (.s 35))])
def ZA2:PF:=⟨false,
 (.seq ZHo
 (.seq (.seq ZHp
 (.ite (.s 10)
 (.seq ZHq
 .ret)
 .skip))
 (.seq ZHr
 (.seq ZHs
 (.seq (.seq ZHt
 (.block 0
 (.loop ZGK)))
 (.seq ZGL
 .ret)))))),
 [.s 4]⟩
theorem ZKx:Zt Go.Proofs.Try.prog false ZKw Go.Proofs.Try.f62=some ZA2:=by kernel_rfl
def ZKy:List Hint:=[H [0,2],⟨[2],[],[],[],[(7,.app0),(5,.imm)],[]⟩]
def ZHy:PC :=
 (.reg [0,2] [I 2 (.box (.v ZT))])
def ZHz:PC :=
 (.reg [2] [I 3 (.mv (.s 0)),I 4 (.ixS 7 (.s 3) (V 0)),I 5 (.fadr 1 (.s 4)),I 6 (.ld false 1 (.s 5)),I 7 (.bin .add (.s 6) (V 1)),I 8 (.w .imm (.bslice false 7 [] [])),I 9 (.mv (.s 0)),I 10 (.w .app0 (.app 7 80 (.s 8) (.s 9))),I 11 (.build [(.int .u64 0),(.int .i64 0),(.int .i64 0),(.int .i64 0),(.int .i64 0),(.str []),.nils] [(1,1,(.s 7)),(6,1,(.s 10))]),J (.st 7 (.s 2) (.s 11))])
def ZA3:PF:=⟨false,
 (.seq ZHy
 (.seq ZHz
 .ret)),
 [.c 2 true 7]⟩
theorem ZKz:Zt Go.Proofs.Try.prog false ZKy Go.Proofs.Try.f63=some ZA3:=by kernel_rfl
def ZK0:List Hint:=[H [0,2],H [0,2,5],H [2],H [0,2,9],H [2],H [2]]
def ZH0:PC :=
 (.reg [0,2] [I 2 (.box (.v ZT))])
def ZH1:PC :=
 (.reg [0,2,5] [I 3 (.mv (.s 0)),I 4 (.len 1 (.s 3)),I 5 (.bin .eql (.s 4) (V 0))])
def ZH2:PC :=
 (.reg [2] [I 6 (.build [(.int .u64 0),(.int .i64 0),(.int .i64 0),(.int .i64 0),(.int .i64 0),(.str []),.nils] []),J (.st 7 (.s 2) (.s 6))])
def ZH3:PC :=
 (.reg [0,2,9] [I 7 (.mv (.s 0)),I 8 (.len 1 (.s 7)),I 9 (.bin .eql (.s 8) (V 1))])
def ZH4:PC :=
 (.reg [2] [I 10 (.mv (.s 0)),I 11 (.ixS 7 (.s 10) (V 0)),I 12 (.ld true 7 (.s 11)),J (.st 7 (.s 2) (.s 12))])
def ZH5:PC :=
 (.reg [2] [I 13 (.mv (.s 0)),I 14 (C J4 [(.s 13)]),J (.st 7 (.s 2) (.s 14))])
def ZA4:PF:=⟨false,
 (.seq ZH0
 (.seq (.seq ZH1
 (.ite (.s 5)
 (.seq ZH2
 .ret)
 .skip))
 (.seq (.seq ZH3
 (.ite (.s 9)
 (.seq ZH4
 .ret)
 .skip))
 (.seq ZH5
 .ret)))),
 [.c 2 true 7]⟩
theorem ZK1:Zt Go.Proofs.Try.prog false ZK0 Go.Proofs.Try.f64=some ZA4:=by kernel_rfl
def ZMG:List Hint:=[H [1],H [2]]
def ZJJ:PC :=
 (.reg [1] [I 1 (.box (.s 0)),I 2 (.mv (.v (.bool false)))])
def ZJK:PC :=
 (.reg [2] [I 3 (.fadr 0 (.s 1)),I 4 (.ld false 1 (.s 3)),I 5 (.bin .eql (.s 4) (.v (.int .u64 0))),I 6 (.mv (.s 5)),G 7 6 true (.fadr 1 (.s 1)),G 8 6 true (.ld false 1 (.s 7)),G 9 6 true (.bin .eql (.s 8) (V 0)),I 10 (.pick (.s 6) (.s 9) (.v (.bool false))),I 11 (.mv (.s 10)),G 12 11 true (.fadr 2 (.s 1)),G 13 11 true (.ld true 3 (.s 12)),G 14 11 true (.build [(.int .i64 0),(.int .i64 0),(.int .i64 0)] []),G 15 11 true (.eqs false 0 [(0,0),(1,0),(2,0)] (.s 13) (.s 14)),I 16 (.pick (.s 11) (.s 15) (.v (.bool false))),I 17 (.mv (.s 16)),G 18 17 true (.fadr 5 (.s 1)),G 19 17 true (.ld false 1 (.s 18)),G 20 17 true (.bin .eql (.s 19) (.v (.str []))),I 21 (.pick (.s 17) (.s 20) (.v (.bool false))),I 22 (.mv (.s 21)),G 23 22 true (.fadr 6 (.s 1)),G 24 22 true (.ld false 1 (.s 23)),G 25 22 true (.len 1 (.s 24)),G 26 22 true (.bin .eql (.s 25) (V 0)),I 27 (.pick (.s 22) (.s 26) (.v (.bool false))),I 2 (.mv (.s 27))])
def ZCS:PF:=⟨false,
 (.seq ZJJ
 (.seq ZJK
 .ret)),
 [.s 2]⟩
theorem ZMH:Zt Go.Proofs.Try.prog false ZMG Go.Proofs.Try.f65=some ZCS:=by kernel_rfl
def ZH6:List Hint:=[H [0,2],H [0,2,3],H [0,2,3,4],H [0,2,3,4,11],H [0,2,3,4,23],H [0,2,3,4],H [0,2,3,4,31],H [0,2,3,4],H [0,2,3,4],H [2]]
def ZES:PC :=
 (.reg [0,2] [I 2 (.box (.v ZM))])
def ZET:PC :=
 (.reg [0,2,3] [I 5 (.mv (.s 0)),I 6 (.len 0 (.s 5)),I 7 (.build [(.int .i64 0),(.int .i64 0),(.int .i64 0)] [(0,1,(.s 6))]),I 3 (.box (.v ZM)),J (.st 3 (.s 3) (.s 7))])
def ZEU:PC :=
 (.reg [0,2,3,4] [I 4 (.mv (V 0))])
def ZEV:PC :=
 (.reg [0,2,3,4,11] [I 8 (.mv (.s 4)),I 9 (.mv (.s 0)),I 10 (.len 0 (.s 9)),I 11 (.bin .lss (.s 8) (.s 10))])
def ZEW:PC :=
 (.reg [0,2,3,4,23] [I 14 (.mv (.s 0)),I 15 (.mv (.s 4)),I 16 (.ixStr (.s 14) (.s 15)),I 17 (.bin .lss (.s 16) (.v (.int .u8 128))),I 18 (.mv (.s 17)),G 19 18 false (.mv (.s 0)),G 20 18 false (.mv (.s 4)),G 21 18 false (.ixStr (.s 19) (.s 20)),G 22 18 false (.bin .geq (.s 21) (.v (.int .u8 192))),I 23 (.pick (.s 18) (.v (.bool true)) (.s 22))])
def ZEX:PC :=
 (.reg [0,2,3,4] [I 24 (.fadr 1 (.s 3)),I 25 (.ld false 1 (.s 24)),I 26 (.bin .add (.s 25) (V 1)),I 27 (.fadr 1 (.s 3)),J (.st 1 (.s 27) (.s 26))])
def ZEY:PC :=
 (.reg [0,2,3,4,31] [I 28 (.mv (.s 0)),I 29 (.mv (.s 4)),I 30 (.ixStr (.s 28) (.s 29)),I 31 (.bin .eql (.s 30) (.v (.int .u8 10)))])
def ZEZ:PC :=
 (.reg [0,2,3,4] [I 32 (.fadr 2 (.s 3)),I 33 (.ld false 1 (.s 32)),I 34 (.bin .add (.s 33) (V 1)),I 35 (.fadr 2 (.s 3)),J (.st 1 (.s 35) (.s 34))])
def ZEa:PC :=
 (.reg [0,2,3,4] [I 12 (.mv (.s 4)),I 13 (.bin .add (.s 12) (V 1)),I 4 (.mv (.s 13))])
def ZEb:PC :=
 (.seq (.seq ZEV
 (.ite (.s 11)
 .skip
 (.exit 0)))
 (.seq (.block 1
 (.seq (.seq ZEW
 (.ite (.s 23)
 ZEX
 .skip))
 (.seq ZEY
 (.ite (.s 31)
 ZEZ
 .skip))))
 ZEa))
def ZD1:PC :=
 (.reg [2] [I 36 (.ld true 3 (.s 3)),J (.st 3 (.s 2) (.s 36))])
def ZAI:PF:=⟨false,
 (.seq ZES
 (.seq ZET
 (.seq (.seq ZEU
 (.block 0
 (.loop ZEb)))
 (.seq ZD1
 .ret)))),
 [.c 2 true 3]⟩
theorem ZH7:Zt Go.Proofs.Try.prog false ZH6 Go.Proofs.Try.f66=some ZAI:=by kernel_rfl
def Zav:List Hint:=[H [1],H [1,5],H [2],H [9],H [2],H [2]]
def ZVb:PC :=
 (.reg [1] [I 1 (.box (.s 0)),I 2 (.mv (V 0))])
def ZVc:PC :=
 (.reg [1,5] [I 3 (.ld true 3 (.s 1)),I 4 (C XL [(.s 3)]),I 5 (.un .not (.s 4))])
def ZVd:PC :=
 (.reg [2] [I 2 (.mv (V 23))])
def ZVe:PC :=
 (.reg [9] [I 6 (.ld true 3 (.s 1)),I 7 (C ZAY [(.s 6)]),I 8 (.fld false 0 1 (.s 7)),I 9 (.bin .gtr (.s 8) (V 65536))])
def ZVf:PC :=
 (.reg [2] [I 2 (.mv (V 5))])
def ZVg:PC :=
 (.reg [2] [I 2 (.mv (V 0))])
def ZNz:PF:=⟨false,
 (.seq ZVb
 (.seq (.seq ZVc
 (.ite (.s 5)
 (.seq ZVd
 .ret)
 .skip))
 (.seq (.seq ZVe
 (.ite (.s 9)
 (.seq ZVf
 .ret)
 .skip))
 (.seq ZVg
 .ret)))),
 [.s 2]⟩
theorem Zaw:Zt Go.Proofs.Try.prog false Zav Go.Proofs.Try.f67=some ZNz:=by kernel_rfl
def ZVh:List Hint:=[H [1,2],H [1,2,4],H [1,2,4,8],H [2,3],H [2,3]]
def ZPt:PC :=
 (.reg [1,2] [I 1 (.box (.s 0)),I 2 (.box (.v ZM)),I 3 (.mv (V 0))])
def ZPu:PC :=
 (.reg [1,2,4] [I 5 (.ld true 3 (.s 1)),I 6 (C Xz [(.s 5)]),I 4 (.mv (.s 6))])
def ZPv:PC :=
 (.reg [1,2,4,8] [I 7 (.mv (.s 4)),I 8 (.bin .neq (.s 7) (V 0))])
def ZPw:PC :=
 (.reg [2,3] [I 9 (.build [(.int .i64 0),(.int .i64 0),(.int .i64 0)] []),I 10 (.mv (.s 4)),J (.st 3 (.s 2) (.s 9)),I 3 (.mv (.s 10))])
def ZPx:PC :=
 (.reg [2,3] [I 11 (.ld true 3 (.s 1)),I 12 (C ZAY [(.s 11)]),J (.st 3 (.s 2) (.s 12)),I 3 (.mv (V 0))])
def ZJL:PF:=⟨false,
 (.seq ZPt
 (.seq (.seq ZPu
 (.seq ZPv
 (.ite (.s 8)
 (.seq ZPw
 .ret)
 .skip)))
 (.seq ZPx
 .ret))),
 [.c 2 true 3,.s 3]⟩
theorem ZVi:Zt Go.Proofs.Try.prog false ZVh Go.Proofs.Try.f68=some ZJL:=by kernel_rfl
def ZJM:List Hint:=[H [0],H [0,6],H [2,3],H [0,12],H [2,3],H [0,4],H [0,4],H [0,4],H [2,3]]
def ZGM:PC :=
 (.reg [0] [I 2 (.mv (.v (.int .u64 0))),I 3 (.mv (V 0))])
def ZGN:PC :=
 (.reg [0,6] [I 5 (.mv (.s 0)),I 6 (.eqs false 3 [] (.s 5) (.v .nilptr))])
def ZGO:PC :=
 (.reg [2,3] [I 2 (.mv (.v (.int .u64 0))),I 3 (.mv (V 1))])
def ZGP:PC :=
 (.reg [0,12] [I 7 (.mv (.s 0)),I 8 (.nilck (.s 7)),I 9 (.fadr 0 (.s 8)),I 10 (.ld false 1 (.s 9)),I 11 (.len 1 (.s 10)),I 12 (.bin .eql (.s 11) (V 0))])
def ZGQ:PC :=
 (.reg [2,3] [I 2 (.mv (.v (.int .u64 0))),I 3 (.mv (V 6))])
def ZGR:PC :=
 (.reg [0,4] [I 13 (.mv (.s 0)),I 14 (.nilck (.s 13)),I 15 (.fadr 0 (.s 14)),I 16 (.ld false 1 (.s 15)),I 17 (.mv (.s 0)),I 18 (.nilck (.s 17)),I 19 (.fadr 0 (.s 18)),I 20 (.ld false 1 (.s 19)),I 21 (.len 1 (.s 20)),I 22 (.bin .sub (.s 21) (V 1)),I 23 (.ixS 1 (.s 16) (.s 22)),I 24 (.ld false 1 (.s 23)),I 4 (.mv (.s 24))])
def ZGS:PC :=
 (.reg [0,4] [I 25 (.mv (.s 0)),I 26 (.mv (.s 0)),I 27 (.nilck (.s 26)),I 28 (.fadr 0 (.s 27)),I 29 (.ld false 1 (.s 28)),I 30 (.mv (.s 0)),I 31 (.nilck (.s 30)),I 32 (.fadr 0 (.s 31)),I 33 (.ld false 1 (.s 32)),I 34 (.len 1 (.s 33)),I 35 (.bin .sub (.s 34) (V 1)),I 36 (.slc 1 (.s 29) none (some (.s 35))),I 37 (.nilck (.s 25)),I 38 (.fadr 0 (.s 37)),J (.st 1 (.s 38) (.s 36))])
def ZGT:PC :=
 (.reg [0,4] [I 39 (.mv (.s 0)),I 40 (.nilck (.s 39)),I 41 (.fadr 1 (.s 40)),I 42 (.ld false 1 (.s 41)),I 43 (.mv (.s 4)),I 44 (.ixS 1 (.s 42) (.s 43)),J (.st 1 (.s 44) (.v (.int .u8 1)))])
def ZGU:PC :=
 (.reg [2,3] [I 45 (.mv (.s 4)),I 46 (.mv (.s 0)),I 47 (.nilck (.s 46)),I 48 (.fadr 2 (.s 47)),I 49 (.ld false 1 (.s 48)),I 50 (.mv (.s 4)),I 51 (.ixS 1 (.s 49) (.s 50)),I 52 (.ld false 1 (.s 51)),I 53 (C ZAf [(.s 45),(.s 52)]),I 54 (.ext (.s 53) 0),I 55 (.ext (.s 53) 1),I 2 (.mv (.s 54)),I 3 (.mv (.s 55))])
def ZAn:PF:=⟨false,
 (.seq ZGM
 (.seq (.seq ZGN
 (.ite (.s 6)
 (.seq ZGO
 .ret)
 .skip))
 (.seq (.seq ZGP
 (.ite (.s 12)
 (.seq ZGQ
 .ret)
 .skip))
 (.seq ZGR
 (.seq ZGS
 (.seq ZGT
 (.seq ZGU
 .ret))))))),
 [.s 2,.s 3]⟩
theorem ZJN:Zt Go.Proofs.Try.prog false ZJM Go.Proofs.Try.f69=some ZAn:=by kernel_rfl
def ZK2:List Hint:=[H [1],H [1,5],H [2],H [12],H [2],H [2]]
def ZH8:PC :=
 (.reg [1] [I 1 (.box (.s 0)),I 2 (.mv (V 0))])
def ZH9:PC :=
 (.reg [1,5] [I 3 (.ld true 3 (.s 1)),I 4 (C JF [(.s 3)]),I 5 (.un .not (.s 4))])
def ZIA:PC :=
 (.reg [2] [I 2 (.mv (V 23))])
def ZIB:PC :=
 (.reg [12] [I 6 (.ld true 3 (.s 1)),I 7 (.fadr 2 (.s 1)),I 8 (.ld false 1 (.s 7)),I 9 (.len 1 (.s 8)),I 10 (C JK [(.s 6),(.s 9)]),I 11 (.fld false 0 1 (.s 10)),I 12 (.bin .gtr (.s 11) (V 65536))])
def ZIC:PC :=
 (.reg [2] [I 2 (.mv (V 5))])
def ZID:PC :=
 (.reg [2] [I 2 (.mv (V 0))])
def ZA5:PF:=⟨false,
 (.seq ZH8
 (.seq (.seq ZH9
 (.ite (.s 5)
 (.seq ZIA
 .ret)
 .skip))
 (.seq (.seq ZIB
 (.ite (.s 12)
 (.seq ZIC
 .ret)
 .skip))
 (.seq ZID
 .ret)))),
 [.s 2]⟩
theorem ZK3:Zt Go.Proofs.Try.prog false ZK2 Go.Proofs.Try.f71=some ZA5:=by kernel_rfl
def ZD2:List Hint:=[H [0,3],H [0,3,5],H [0,3,5,14],H [0,3,5,6],H [0,3,5,6,26],H [4],H [0,3,5,7],H [0,3,5,7,8],H [0,3,5,55],H [4],H [0,3,5],H [4]]
def ZCT:PC :=
 (.reg [0,3] [I 3 (.box (.s 1)),I 4 (.mv (V 0))])
def ZCU:PC :=
 (.reg [0,3,5] [I 5 (.mv (V 0))])
def ZCV:PC :=
 (.reg [0,3,5,14] [I 10 (.mv (.s 5)),I 11 (.fadr 2 (.s 3)),I 12 (.ld false 1 (.s 11)),I 13 (.len 1 (.s 12)),I 14 (.bin .lss (.s 10) (.s 13))])
def ZCW:PC :=
 (.reg [0,3,5,6] [I 17 (.mv (.s 0)),I 18 (.fadr 2 (.s 3)),I 19 (.ld false 1 (.s 18)),I 20 (.mv (.s 5)),I 21 (.ixS 4 (.s 19) (.s 20)),I 22 (.fadr 0 (.s 21)),I 23 (.ld false 1 (.s 22)),I 24 (C J0 [(.s 17),(.s 23)]),I 6 (.mv (.s 24))])
def ZCX:PC :=
 (.reg [0,3,5,6,26] [I 25 (.mv (.s 6)),I 26 (.bin .lss (.s 25) (V 0))])
def ZCY:PC :=
 (.reg [4] [I 4 (.mv (V 10))])
def ZCZ:PC :=
 (.reg [0,3,5,7] [I 27 (.mv (.s 0)),I 28 (.nilck (.s 27)),I 29 (.fadr 1 (.s 28)),I 30 (.ld false 1 (.s 29)),I 31 (.mv (.s 6)),I 32 (.ixS 4 (.s 30) (.s 31)),I 33 (.fadr 1 (.s 32)),I 34 (.ld true 3 (.s 33)),I 7 (.box (.v ZN)),J (.st 3 (.s 7) (.s 34))])
def ZCa:PC :=
 (.reg [0,3,5,7,8] [I 36 (.ld true 3 (.s 7)),I 37 (C Yj [(.s 36)]),I 35 (.mv (.s 37)),I 38 (.ext (.s 35) 0),I 39 (.ext (.s 35) 1),I 8 (.box (.v ZM)),J (.st 3 (.s 8) (.s 38)),I 9 (.mv (.s 39))])
def ZCb:PC :=
 (.reg [0,3,5,55] [I 40 (.fadr 0 (.s 7)),I 41 (.ld false 1 (.s 40)),I 42 (.fadr 0 (.s 3)),I 43 (.ld false 1 (.s 42)),I 44 (.bin .sub (.s 43) (V 1)),I 45 (.bin .neq (.s 41) (.s 44)),I 46 (.mv (.s 45)),G 47 46 false (.ld true 3 (.s 8)),G 48 46 false (.fadr 2 (.s 3)),G 49 46 false (.ld false 1 (.s 48)),G 50 46 false (.mv (.s 5)),G 51 46 false (.ixS 4 (.s 49) (.s 50)),G 52 46 false (.fadr 1 (.s 51)),G 53 46 false (.ld true 3 (.s 52)),G 54 46 false (.eqs true 0 [(0,0),(1,0),(2,0)] (.s 47) (.s 53)),I 55 (.pick (.s 46) (.v (.bool true)) (.s 54))])
def ZCc:PC :=
 (.reg [4] [I 4 (.mv (V 23))])
def ZBN:PC :=
 (.reg [0,3,5] [I 15 (.mv (.s 5)),I 16 (.bin .add (.s 15) (V 1)),I 5 (.mv (.s 16))])
def ZBO:PC :=
 (.seq (.seq ZCV
 (.ite (.s 14)
 .skip
 (.exit 0)))
 (.seq (.block 1
 (.seq ZCW
 (.seq (.seq ZCX
 (.ite (.s 26)
 (.seq ZCY
 .ret)
 .skip))
 (.seq ZCZ
 (.seq ZCa
 (.seq ZCb
 (.ite (.s 55)
 (.seq ZCc
 .ret)
 .skip)))))))
 ZBN))
def ZBP:PC :=
 (.reg [4] [I 4 (.mv (V 0))])
def XN:PF:=⟨false,
 (.seq ZCT
 (.seq (.seq ZCU
 (.block 0
 (.loop ZBO)))
 (.seq ZBP
 .ret))),
 [.s 4]⟩
theorem ZD3:Zt Go.Proofs.Try.prog false ZD2 Go.Proofs.Try.f72=some XN:=by kernel_rfl
def ZEc:List Hint:=[H [0],H [0,6],H [2,3],H [0,12],H [2,3],H [0,4],H [0,4],H [0,4],H [2,3]]
def ZDK:PC :=
 (.reg [0] [I 2 (.mv (.v (.int .u64 0))),I 3 (.mv (V 0))])
def ZDL:PC :=
 (.reg [0,6] [I 5 (.mv (.s 0)),I 6 (.eqs false 3 [] (.s 5) (.v .nilptr))])
def ZDM:PC :=
 (.reg [2,3] [I 2 (.mv (.v (.int .u64 0))),I 3 (.mv (V 1))])
def ZDN:PC :=
 (.reg [0,12] [I 7 (.mv (.s 0)),I 8 (.nilck (.s 7)),I 9 (.fadr 3 (.s 8)),I 10 (.ld false 1 (.s 9)),I 11 (.len 1 (.s 10)),I 12 (.bin .eql (.s 11) (V 0))])
def ZDO:PC :=
 (.reg [2,3] [I 2 (.mv (.v (.int .u64 0))),I 3 (.mv (V 6))])
def ZDP:PC :=
 (.reg [0,4] [I 13 (.mv (.s 0)),I 14 (.nilck (.s 13)),I 15 (.fadr 3 (.s 14)),I 16 (.ld false 1 (.s 15)),I 17 (.mv (.s 0)),I 18 (.nilck (.s 17)),I 19 (.fadr 3 (.s 18)),I 20 (.ld false 1 (.s 19)),I 21 (.len 1 (.s 20)),I 22 (.bin .sub (.s 21) (V 1)),I 23 (.ixS 1 (.s 16) (.s 22)),I 24 (.ld false 1 (.s 23)),I 4 (.mv (.s 24))])
def ZDQ:PC :=
 (.reg [0,4] [I 25 (.mv (.s 0)),I 26 (.mv (.s 0)),I 27 (.nilck (.s 26)),I 28 (.fadr 3 (.s 27)),I 29 (.ld false 1 (.s 28)),I 30 (.mv (.s 0)),I 31 (.nilck (.s 30)),I 32 (.fadr 3 (.s 31)),I 33 (.ld false 1 (.s 32)),I 34 (.len 1 (.s 33)),I 35 (.bin .sub (.s 34) (V 1)),I 36 (.slc 1 (.s 29) none (some (.s 35))),I 37 (.nilck (.s 25)),I 38 (.fadr 3 (.s 37)),J (.st 1 (.s 38) (.s 36))])
def ZDR:PC :=
 (.reg [0,4] [I 39 (.mv (.s 0)),I 40 (.nilck (.s 39)),I 41 (.fadr 1 (.s 40)),I 42 (.ld false 1 (.s 41)),I 43 (.mv (.s 4)),I 44 (.ixS 1 (.s 42) (.s 43)),J (.st 1 (.s 44) (V 1))])
def ZDS:PC :=
 (.reg [2,3] [I 45 (.mv (.s 4)),I 46 (.mv (.s 0)),I 47 (.nilck (.s 46)),I 48 (.fadr 2 (.s 47)),I 49 (.ld false 1 (.s 48)),I 50 (.mv (.s 4)),I 51 (.ixS 1 (.s 49) (.s 50)),I 52 (.ld false 1 (.s 51)),I 53 (C Xf [(.s 45),(.s 52)]),I 54 (.ext (.s 53) 0),I 55 (.ext (.s 53) 1),I 2 (.mv (.s 54)),I 3 (.mv (.s 55))])
def Xp:PF:=⟨false,
 (.seq ZDK
 (.seq (.seq ZDL
 (.ite (.s 6)
 (.seq ZDM
 .ret)
 .skip))
 (.seq (.seq ZDN
 (.ite (.s 12)
 (.seq ZDO
 .ret)
 .skip))
 (.seq ZDP
 (.seq ZDQ
 (.seq ZDR
 (.seq ZDS
 .ret))))))),
 [.s 2,.s 3]⟩
theorem ZEd:Zt Go.Proofs.Try.prog false ZEc Go.Proofs.Try.f73=some Xp:=by kernel_rfl
def ZGV:List Hint:=[H [1,2],⟨[2],[],[(6,.pure)],[],[],[]⟩]
def ZD4:PC :=
 (.reg [1,2] [I 1 (.box (.s 0)),I 2 (.box (.v ZN))])
def ZD5:PC :=
 (.reg [2] [I 3 (.fadr 0 (.s 1)),I 4 (.ld false 1 (.s 3)),I 5 (.fadr 1 (.s 1)),I 6 (.ld false 1 (.s 5)),I 7 (.fadr 2 (.s 1)),I 8 (.ld false 1 (.s 7)),I 9 (.call .pure (.v (.func (.func Ju) [] [])) [(.s 8)]),I 10 (.build [(.int .i64 0),(.str []),.nils] [(0,1,(.s 4)),(1,1,(.s 6)),(2,1,(.s 9))]),J (.st 3 (.s 2) (.s 10))])
def ZAD:PF:=⟨false,
 (.seq ZD4
 (.seq ZD5
 .ret)),
 [.c 2 true 3]⟩
theorem ZGW:Zt Go.Proofs.Try.prog false ZGV Go.Proofs.Try.f74=some ZAD:=by kernel_rfl
def Zax:List Hint:=[H [0,2,3,5],H [0,2,3,5,9],H [0,2,5,9,30],H [8],H [0,2,5,32],H [0,2,5,10],H [0,2,5,10,42],H [8],H [0,5,54],H [8],H [0,5,56,57,58],H [0,5,56,57,58,59],H [0,5,12,56,57,58],H [0,5,13,56,57,58],H [0,5,13,56,57,58,69],H [8],H [0,5,56,57,58],H [8]]
def ZVj:PC :=
 (.reg [0,2,3,5] [I 5 (.box (.s 1)),I 8 (.mv (V 0))])
def ZVk:PC :=
 (.reg [0,2,3,5,9] [I 14 (.ld true 7 (.s 5)),I 15 (C Qb [(.s 14)]),I 9 (.mv (.s 15))])
def ZVl:PC :=
 (.reg [0,2,5,9,30] [I 16 (.mv (.s 9)),I 17 (.bin .eql (.s 16) (V 0)),I 18 (.mv (.s 17)),G 19 18 false (.mv (.s 9)),G 20 18 false (.bin .eql (.s 19) (V 1)),I 21 (.pick (.s 18) (.v (.bool true)) (.s 20)),I 22 (.mv (.s 21)),G 23 22 false (.mv (.s 2)),G 24 22 false (.mv (.s 23)),G 25 24 true (.fadr 1 (.s 5)),G 26 24 true (.ld false 1 (.s 25)),G 27 24 true (.mv (.s 3)),G 28 24 true (.bin .neq (.s 26) (.s 27)),G 29 22 false (.pick (.s 24) (.s 28) (.v (.bool false))),I 30 (.pick (.s 22) (.v (.bool true)) (.s 29))])
def ZVm:PC :=
 (.reg [8] [I 8 (.mv (V 23))])
def ZVn:PC :=
 (.reg [0,2,5,32] [I 31 (.mv (.s 9)),I 32 (.bin .eql (.s 31) (V 2))])
def ZVo:PC :=
 (.reg [0,2,5,10] [I 33 (.mv (.s 0)),I 34 (.fadr 0 (.s 5)),I 35 (.ld false 1 (.s 34)),I 36 (.fadr 1 (.s 5)),I 37 (.ld false 1 (.s 36)),I 38 (.fadr 2 (.s 5)),I 39 (.ld true 3 (.s 38)),I 40 (C ZDZ [(.s 33),(.s 35),(.s 37),(.s 39)]),I 10 (.mv (.s 40))])
def ZVp:PC :=
 (.reg [0,2,5,10,42] [I 41 (.mv (.s 10)),I 42 (.bin .neq (.s 41) (V 0))])
def ZVq:PC :=
 (.reg [8] [I 43 (.mv (.s 10)),I 8 (.mv (.s 43))])
def ZVr:PC :=
 (.reg [0,5,54] [I 44 (.mv (.s 2)),I 45 (.mv (.s 44)),G 46 45 true (.fadr 1 (.s 5)),G 47 45 true (.ld false 1 (.s 46)),G 48 45 true (.bin .eql (.s 47) (V 0)),I 49 (.pick (.s 45) (.s 48) (.v (.bool false))),I 50 (.mv (.s 49)),G 51 50 true (.ld true 7 (.s 5)),G 52 50 true (C Qh [(.s 51)]),G 53 50 true (.bin .lss (.s 52) (V 8)),I 54 (.pick (.s 50) (.s 53) (.v (.bool false)))])
def ZVs:PC :=
 (.reg [8] [I 8 (.mv (V 23))])
def ZSG:PC :=
 (.reg [0,5,56,57,58] [I 55 (.fadr 6 (.s 5)),I 56 (.ld false 1 (.s 55)),I 57 (.len 1 (.s 56)),I 58 (.mv (V 0))])
def ZSH:PC :=
 (.reg [0,5,56,57,58,59] [I 59 (.bin .lss (.s 58) (.s 57))])
def ZSI:PC :=
 (.reg [0,5,12,56,57,58] [I 60 (.ixS 7 (.s 56) (.s 58)),I 61 (.ld true 7 (.s 60)),I 12 (.box (.v ZT)),J (.st 7 (.s 12) (.s 61))])
def ZSJ:PC :=
 (.reg [0,5,13,56,57,58] [I 62 (.mv (.s 0)),I 63 (.ld true 7 (.s 12)),I 64 (.fadr 1 (.s 5)),I 65 (.ld false 1 (.s 64)),I 66 (.bin .sub (.s 65) (V 1)),I 67 (C ZBB [(.s 62),(.s 63),(.v (.bool true)),(.s 66)]),I 13 (.mv (.s 67))])
def ZSK:PC :=
 (.reg [0,5,13,56,57,58,69] [I 68 (.mv (.s 13)),I 69 (.bin .neq (.s 68) (V 0))])
def ZSL:PC :=
 (.reg [8] [I 70 (.mv (.s 13)),I 8 (.mv (.s 70))])
def ZSM:PC :=
 (.reg [0,5,56,57,58] [I 71 (.bin .add (.s 58) (V 1)),I 58 (.mv (.s 71))])
def ZG5:PC :=
 (.seq ZSH
 (.seq (.ite (.s 59)
 .skip
 (.exit 0))
 (.seq (.block 1
 (.seq ZSI
 (.seq ZSJ
 (.seq ZSK
 (.ite (.s 69)
 (.seq ZSL
 .ret)
 .skip)))))
 ZSM)))
def ZSN:PC :=
 (.reg [8] [I 8 (.mv (V 0))])
def ZN0:PF:=⟨false,
 (.seq ZVj
 (.seq ZVk
 (.seq (.seq ZVl
 (.ite (.s 30)
 (.seq ZVm
 .ret)
 .skip))
 (.seq (.seq ZVn
 (.ite (.s 32)
 (.seq ZVo
 (.seq ZVp
 (.ite (.s 42)
 (.seq ZVq
 .ret)
 .skip)))
 .skip))
 (.seq (.seq ZVr
 (.ite (.s 54)
 (.seq ZVs
 .ret)
 .skip))
 (.seq (.seq ZSG
 (.block 0
 (.loop ZG5)))
 (.seq ZSN
 .ret))))))),
 [.s 8]⟩
theorem Zay:Zt Go.Proofs.Try.prog false Zax Go.Proofs.Try.f75=some ZN0:=by kernel_rfl
def Zca:List Hint:=[H [0,1],H [0,1,9],H [4,5,6],H [0,1,17],H [4,5,6],H [4,5,6]]
def ZYK:PC :=
 (.reg [0,1] [I 4 (.mv (.v (.str []))),I 5 (.mv (.v (.str []))),I 6 (.mv (V 0))])
def ZYL:PC :=
 (.reg [0,1,9] [I 7 (.mv (.s 0)),I 8 (C X4 [(.s 7)]),I 9 (.un .not (.s 8))])
def ZYM:PC :=
 (.reg [4,5,6] [I 4 (.mv (.v (.str []))),I 5 (.mv (.v (.str []))),I 6 (.mv (V 2))])
def ZYN:PC :=
 (.reg [0,1,17] [I 10 (.mv (.s 1)),I 11 (.bin .lss (.s 10) (V 0)),I 12 (.mv (.s 11)),G 13 12 false (.mv (.s 1)),G 14 12 false (.mv (.s 0)),G 15 12 false (.len 0 (.s 14)),G 16 12 false (.bin .gtr (.s 13) (.s 15)),I 17 (.pick (.s 12) (.v (.bool true)) (.s 16))])
def ZYO:PC :=
 (.reg [4,5,6] [I 4 (.mv (.v (.str []))),I 5 (.mv (.v (.str []))),I 6 (.mv (V 3))])
def ZYP:PC :=
 (.reg [4,5,6] [I 18 (.mv (.s 0)),I 19 (.mv (.s 1)),I 20 (.slcS (.s 18) none (some (.s 19))),I 21 (.mv (.s 0)),I 22 (.mv (.s 1)),I 23 (.slcS (.s 21) (some (.s 22)) none),I 4 (.mv (.s 20)),I 5 (.mv (.s 23)),I 6 (.mv (V 0))])
def ZQx:PF:=⟨false,
 (.seq ZYK
 (.seq (.seq ZYL
 (.ite (.s 9)
 (.seq ZYM
 .ret)
 .skip))
 (.seq (.seq ZYN
 (.ite (.s 17)
 (.seq ZYO
 .ret)
 .skip))
 (.seq ZYP
 .ret)))),
 [.s 4,.s 5,.s 6]⟩
theorem Zcb:Zt Go.Proofs.Try.prog false Zca Go.Proofs.Try.f76=some ZQx:=by kernel_rfl
def ZYQ:List Hint:=[H [0,4,5],⟨[0,4,5,8,9],[],[(1,.pure)],[],[],[]⟩,H [0,4,5,32],H [6,7],H [0,5,10,11],H [0,5,10,11,43],H [6,7],H [10,11,12],H [10,11,12,52],H [6,7],H [11,13],H [11,13,61],H [6,7],⟨[13,14],[0],[],[],[],[]⟩,H [14,63,64,65],H [14,63,64,65,66],H [14,16,63,64,65],H [14,63,64,65],H [14,63,64,65],H [6,7]]
def ZSO:PC :=
 (.reg [0,4,5] [I 4 (.box (.s 1)),I 5 (.box (.s 2)),I 6 (.mv (.v .nils)),I 7 (.mv (V 0))])
def ZSP:PC :=
 (.reg [0,4,5,8,9] [I 17 (.ld true 7 (.s 4)),I 18 (.call .pure (.v (.func (.func Qh) [] [])) [(.s 17)]),I 19 (.ld true 7 (.s 5)),I 20 (C Qh [(.s 19)]),I 8 (.mv (.s 18)),I 9 (.mv (.s 20))])
def ZSQ:PC :=
 (.reg [0,4,5,32] [I 21 (.mv (.s 8)),I 22 (.mv (.s 9)),I 23 (.bin .add (.s 21) (.s 22)),I 24 (.bin .gtr (.s 23) (V 16)),I 25 (.mv (.s 24)),G 26 25 true (.mv (.s 8)),G 27 25 true (.bin .geq (.s 26) (V 8)),I 28 (.pick (.s 25) (.s 27) (.v (.bool false))),I 29 (.mv (.s 28)),G 30 29 true (.mv (.s 9)),G 31 29 true (.bin .geq (.s 30) (V 8)),I 32 (.pick (.s 29) (.s 31) (.v (.bool false)))])
def ZSR:PC :=
 (.reg [6,7] [I 33 (.ld true 7 (.s 4)),I 34 (.ld true 7 (.s 5)),I 35 (.bslice false 7 [ZT,ZT] [(0,(.s 33)),(1,(.s 34))]),I 6 (.mv (.s 35)),I 7 (.mv (V 0))])
def ZSS:PC :=
 (.reg [0,5,10,11] [I 37 (.mv (.s 0)),I 38 (.ld true 7 (.s 4)),I 39 (C Xm [(.s 37),(.s 38)]),I 36 (.mv (.s 39)),I 40 (.ext (.s 36) 0),I 41 (.ext (.s 36) 1),I 10 (.mv (.s 40)),I 11 (.mv (.s 41))])
def ZST:PC :=
 (.reg [0,5,10,11,43] [I 42 (.mv (.s 11)),I 43 (.bin .neq (.s 42) (V 0))])
def ZSU:PC :=
 (.reg [6,7] [I 44 (.mv (.s 11)),I 6 (.mv (.v .nils)),I 7 (.mv (.s 44))])
def ZSV:PC :=
 (.reg [10,11,12] [I 46 (.mv (.s 0)),I 47 (.ld true 7 (.s 5)),I 48 (C Xm [(.s 46),(.s 47)]),I 45 (.mv (.s 48)),I 49 (.ext (.s 45) 0),I 50 (.ext (.s 45) 1),I 12 (.mv (.s 49)),I 11 (.mv (.s 50))])
def ZSW:PC :=
 (.reg [10,11,12,52] [I 51 (.mv (.s 11)),I 52 (.bin .neq (.s 51) (V 0))])
def ZSX:PC :=
 (.reg [6,7] [I 53 (.mv (.s 11)),I 6 (.mv (.v .nils)),I 7 (.mv (.s 53))])
def ZPy:PC :=
 (.reg [11,13] [I 55 (.mv (.s 10)),I 56 (.mv (.s 12)),I 57 (C ZFV [(.s 55),(.s 56)]),I 54 (.mv (.s 57)),I 58 (.ext (.s 54) 0),I 59 (.ext (.s 54) 1),I 13 (.mv (.s 58)),I 11 (.mv (.s 59))])
def ZPz:PC :=
 (.reg [11,13,61] [I 60 (.mv (.s 11)),I 61 (.bin .neq (.s 60) (V 0))])
def ZP0:PC :=
 (.reg [6,7] [I 62 (.mv (.s 11)),I 6 (.mv (.v .nils)),I 7 (.mv (.s 62))])
def ZP1:PC :=
 (.reg [13,14] [I 14 (.onil 7)])
def ZP2:PC :=
 (.reg [14,63,64,65] [I 63 (.mv (.s 13)),I 64 (.len 1 (.s 63)),I 65 (.mv (V 0))])
def ZP3:PC :=
 (.reg [14,63,64,65,66] [I 66 (.bin .lss (.s 65) (.s 64))])
def ZP4:PC :=
 (.reg [14,16,63,64,65] [I 67 (.ixS 1 (.s 63) (.s 65)),I 68 (.ld false 1 (.s 67)),I 16 (.mv (.s 68))])
def ZP5:PC :=
 (.reg [14,63,64,65] [I 69 (.mv (.s 14)),I 70 (.mv (.s 16)),I 71 (.build [(.int .u64 0),(.int .i64 0),(.int .i64 0),(.int .i64 0),(.int .i64 0),(.str []),.nils] [(5,1,(.s 70))]),I 72 (.bslice false 7 [ZT] [(0,(.s 71))]),I 73 (.app 7 80 (.s 69) (.s 72)),I 14 (.mv (.s 73))])
def ZP6:PC :=
 (.reg [14,63,64,65] [I 74 (.bin .add (.s 65) (V 1)),I 65 (.mv (.s 74))])
def ZEe:PC :=
 (.seq ZP3
 (.seq (.ite (.s 66)
 .skip
 (.exit 0))
 (.seq (.block 1
 (.seq ZP4
 ZP5))
 ZP6)))
def ZP7:PC :=
 (.reg [6,7] [I 75 (.mv (.s 14)),I 6 (.mv (.s 75)),I 7 (.mv (V 0))])
def ZLg:PF:=⟨false,
 (.seq ZSO
 (.seq ZSP
 (.seq (.seq ZSQ
 (.ite (.s 32)
 (.seq ZSR
 .ret)
 .skip))
 (.seq ZSS
 (.seq (.seq ZST
 (.ite (.s 43)
 (.seq ZSU
 .ret)
 .skip))
 (.seq ZSV
 (.seq (.seq ZSW
 (.ite (.s 52)
 (.seq ZSX
 .ret)
 .skip))
 (.seq ZPy
 (.seq (.seq ZPz
 (.ite (.s 61)
 (.seq ZP0
 .ret)
 .skip))
 (.seq ZP1
 (.seq (.seq ZP2
 (.block 0
 (.loop ZEe)))
 (.seq ZP7
 .ret)))))))))))),
 [.s 6,.s 7]⟩
theorem ZYR:Zt Go.Proofs.Try.prog false ZYQ Go.Proofs.Try.f77=some ZLg:=by kernel_rfl
def Zcc:List Hint:=[H [0],H [0,6],H [2],H [0,3],⟨[2],[],[(3,.pure)],[],[],[]⟩]
def ZYS:PC :=
 (.reg [0] [I 2 (.mv (.v .nils))])
def ZYT:PC :=
 (.reg [0,6] [I 4 (.mv (.s 0)),I 5 (.len 1 (.s 4)),I 6 (.bin .leq (.s 5) (V 4))])
def ZYU:PC :=
 (.reg [2] [I 7 (.mv (.s 0)),I 8 (C QH [(.s 7)]),I 9 (.bslice false 7 [ZT] [(0,(.s 8))]),I 2 (.mv (.s 9))])
def ZYV:PC :=
 (.reg [0,3] [I 10 (.mv (.s 0)),I 11 (.len 1 (.s 10)),I 12 (.bin .add (.s 11) (V 1)),I 13 (.bin .quo (.s 12) (V 2)),I 3 (.mv (.s 13))])
def ZYW:PC :=
 (.reg [2] [I 14 (.mv (.s 0)),I 15 (.mv (.s 3)),I 16 (.slc 7 (.s 14) none (some (.s 15))),I 17 (.call .pure (.v (.func (.func QH) [] [])) [(.s 16)]),I 18 (.mv (.s 0)),I 19 (.mv (.s 3)),I 20 (.slc 7 (.s 18) (some (.s 19)) none),I 21 (C QH [(.s 20)]),I 22 (.bslice false 7 [ZT,ZT] [(0,(.s 17)),(1,(.s 21))]),I 2 (.mv (.s 22))])
def ZQy:PF:=⟨false,
 (.seq ZYS
 (.seq (.seq ZYT
 (.ite (.s 6)
 (.seq ZYU
 .ret)
 .skip))
 (.seq ZYV
 (.seq ZYW
 .ret)))),
 [.s 2]⟩
theorem Zcd:Zt Go.Proofs.Try.prog false Zcc Go.Proofs.Try.f78=some ZQy:=by kernel_rfl
def ZIE:List Hint:=[H [0,1],⟨[0,1,5],[0],[],[],[],[]⟩,H [0,1,5,9],H [4],H [1,5,14,15,16],H [1,5,14,15,16,17],H [1,5,6,7,14,15,16],H [1,5,6,14,15,16,23],H [1,5,14,15,16],H [1,5,14,15,16],H [4]]
def ZEf:PC :=
 (.reg [0,1] [I 4 (.mv (.v .nils))])
def ZEg:PC :=
 (.reg [0,1,5] [I 5 (.onil 1)])
def ZEh:PC :=
 (.reg [0,1,5,9] [I 8 (.mv (.s 0)),I 9 (.eqs false 3 [] (.s 8) (.v .nilptr))])
def ZEi:PC :=
 (.reg [4] [I 10 (.mv (.s 5)),I 4 (.mv (.s 10))])
def ZEj:PC :=
 (.reg [1,5,14,15,16] [I 11 (.mv (.s 0)),I 12 (.nilck (.s 11)),I 13 (.fadr 1 (.s 12)),I 14 (.ld false 1 (.s 13)),I 15 (.len 1 (.s 14)),I 16 (.mv (V 0))])
def ZEk:PC :=
 (.reg [1,5,14,15,16,17] [I 17 (.bin .lss (.s 16) (.s 15))])
def ZEl:PC :=
 (.reg [1,5,6,7,14,15,16] [I 18 (.mv (.s 16)),I 19 (.ixS 1 (.s 14) (.s 16)),I 20 (.ld false 1 (.s 19)),I 6 (.mv (.s 18)),I 7 (.mv (.s 20))])
def ZEm:PC :=
 (.reg [1,5,6,14,15,16,23] [I 21 (.mv (.s 7)),I 22 (.mv (.s 1)),I 23 (.bin .eql (.s 21) (.s 22))])
def ZEn:PC :=
 (.reg [1,5,14,15,16] [I 24 (.mv (.s 5)),I 25 (.mv (.s 6)),I 26 (.bslice false 1 [(.int .i64 0)] [(0,(.s 25))]),I 27 (.app 1 8 (.s 24) (.s 26)),I 5 (.mv (.s 27))])
def ZEo:PC :=
 (.reg [1,5,14,15,16] [I 28 (.bin .add (.s 16) (V 1)),I 16 (.mv (.s 28))])
def ZD6:PC :=
 (.seq ZEk
 (.seq (.ite (.s 17)
 .skip
 (.exit 0))
 (.seq (.block 1
 (.seq ZEl
 (.seq ZEm
 (.ite (.s 23)
 ZEn
 .skip))))
 ZEo)))
def ZD7:PC :=
 (.reg [4] [I 29 (.mv (.s 5)),I 4 (.mv (.s 29))])
def ZAJ:PF:=⟨false,
 (.seq ZEf
 (.seq ZEg
 (.seq (.seq ZEh
 (.ite (.s 9)
 (.seq ZEi
 .ret)
 .skip))
 (.seq (.seq ZEj
 (.block 0
 (.loop ZD6)))
 (.seq ZD7
 .ret))))),
 [.s 4]⟩
theorem ZIF:Zt Go.Proofs.Try.prog false ZIE Go.Proofs.Try.f79=some ZAJ:=by kernel_rfl
def ZYX:List Hint:=[H [0,1],H [0,1,19],H [4,5],H [4,5]]
def ZSY:PC :=
 (.reg [0,1] [I 4 (.mv (.v (.int .u64 0))),I 5 (.mv (V 0))])
def ZSZ:PC :=
 (.reg [0,1,19] [I 6 (.mv (.s 0)),I 7 (.bin .lss (.s 6) (V 0)),I 8 (.mv (.s 7)),G 9 8 false (.mv (.s 0)),G 10 8 false (.bin .geq (.s 9) (V 16384)),I 11 (.pick (.s 8) (.v (.bool true)) (.s 10)),I 12 (.mv (.s 11)),G 13 12 false (.mv (.s 1)),G 14 12 false (.bin .lss (.s 13) (.v (.int .u64 1))),I 15 (.pick (.s 12) (.v (.bool true)) (.s 14)),I 16 (.mv (.s 15)),G 17 16 false (.mv (.s 1)),G 18 16 false (.bin .gtr (.s 17) (.v (.int .u64 4294967295))),I 19 (.pick (.s 16) (.v (.bool true)) (.s 18))])
def ZSa:PC :=
 (.reg [4,5] [I 4 (.mv (.v (.int .u64 0))),I 5 (.mv (V 3))])
def ZSb:PC :=
 (.reg [4,5] [I 20 (.mv (.s 1)),I 21 (.bin .shl (.s 20) (.v (.int .u64 16))),I 22 (.mv (.s 0)),I 23 (.cint .u64 (.s 22)),I 24 (.bin .or (.s 21) (.s 23)),I 4 (.mv (.s 24)),I 5 (.mv (V 0))])
def ZLh:PF:=⟨false,
 (.seq ZSY
 (.seq (.seq ZSZ
 (.ite (.s 19)
 (.seq ZSa
 .ret)
 .skip))
 (.seq ZSb
 .ret))),
 [.s 4,.s 5]⟩
theorem ZYY:Zt Go.Proofs.Try.prog false ZYX Go.Proofs.Try.f80=some ZLh:=by kernel_rfl
def ZN1:List Hint:=[H [0,1,4],H [0,1,4,9],H [4,5],H [0,4,6,7],H [0,4,6,21],H [4],H [4,5],H [4,6],H [4,5]]
def ZK4:PC :=
 (.reg [0,1,4] [I 4 (.box (.v ZN)),I 5 (.mv (V 0))])
def ZK5:PC :=
 (.reg [0,1,4,9] [I 8 (.mv (.s 0)),I 9 (.eqs false 3 [] (.s 8) (.v .nilptr))])
def ZK6:PC :=
 (.reg [4,5] [I 10 (.build [(.int .i64 0),(.str []),.nils] []),J (.st 3 (.s 4) (.s 10)),I 5 (.mv (V 1))])
def ZK7:PC :=
 (.reg [0,4,6,7] [I 12 (.mv (.s 0)),I 13 (.nilck (.s 12)),I 14 (.fadr 2 (.s 13)),I 15 (.ld false 1 (.s 14)),I 16 (.mv (.s 1)),I 17 (.look 0 ZN true (.s 15) (.s 16)),I 11 (.mv (.s 17)),I 18 (.ext (.s 11) 0),I 19 (.ext (.s 11) 1),I 6 (.box (.v ZN)),J (.st 3 (.s 6) (.s 18)),I 7 (.mv (.s 19))])
def ZK8:PC :=
 (.reg [0,4,6,21] [I 20 (.mv (.s 7)),I 21 (.un .not (.s 20))])
def ZK9:PC :=
 (.reg [4] [I 22 (.mv (.s 0)),I 23 (.nilck (.s 22)),I 24 (.fadr 5 (.s 23)),I 25 (.ld false 1 (.s 24)),I 26 (.bin .add (.s 25) (V 1)),I 27 (.nilck (.s 22)),I 28 (.fadr 5 (.s 27)),J (.st 1 (.s 28) (.s 26))])
def ZLA:PC :=
 (.reg [4,5] [I 29 (.build [(.int .i64 0),(.str []),.nils] []),J (.st 3 (.s 4) (.s 29)),I 5 (.mv (V 10))])
def ZLB:PC :=
 (.reg [4,6] [I 30 (.fadr 2 (.s 6)),I 31 (.ld false 1 (.s 30)),I 32 (C Zz [(.s 31)]),I 33 (.fadr 2 (.s 6)),J (.st 1 (.s 33) (.s 32))])
def ZLC:PC :=
 (.reg [4,5] [I 34 (.ld true 3 (.s 6)),J (.st 3 (.s 4) (.s 34)),I 5 (.mv (V 0))])
def ZDf:PF:=⟨false,
 (.seq ZK4
 (.seq (.seq ZK5
 (.ite (.s 9)
 (.seq ZK6
 .ret)
 .skip))
 (.seq ZK7
 (.seq (.seq ZK8
 (.ite (.s 21)
 (.seq ZK9
 (.seq ZLA
 .ret))
 .skip))
 (.seq ZLB
 (.seq ZLC
 .ret)))))),
 [.c 4 true 3,.s 5]⟩
theorem ZN2:Zt Go.Proofs.Try.prog false ZN1 Go.Proofs.Try.f81=some ZDf:=by kernel_rfl
def ZYZ:List Hint:=[H [1,2],H [1,2,10],H [4],H [1,2,5],H [2,5,17],H [2,5],H [5,6],H [5,6,7],H [6,7,23,24],H [6,7,23,24,25],H [6,7,8,23,24],H [6,7,23,24],H [6,7,23,24],H [4]]
def ZSc:PC :=
 (.reg [1,2] [I 2 (.box (.s 0)),I 4 (.mv (.v .nils))])
def ZSd:PC :=
 (.reg [1,2,10] [I 9 (.ld false 1 (.s 2)),I 10 (.bin .eql (.s 9) (V 0))])
def ZSe:PC :=
 (.reg [4] [I 4 (.mv (.v .nils))])
def ZSf:PC :=
 (.reg [1,2,5] [I 11 (.ld false 1 (.s 2)),I 12 (.mv (.s 1)),I 13 (.bin .quo (.s 11) (.s 12)),I 5 (.box (V 0)),J (.st 1 (.s 5) (.s 13))])
def ZSg:PC :=
 (.reg [2,5,17] [I 14 (.ld false 1 (.s 2)),I 15 (.mv (.s 1)),I 16 (.bin .rem (.s 14) (.s 15)),I 17 (.bin .gtr (.s 16) (V 0))])
def ZSh:PC :=
 (.reg [2,5] [I 18 (.ld false 1 (.s 5)),I 19 (.bin .add (.s 18) (V 1)),J (.st 1 (.s 5) (.s 19))])
def ZSi:PC :=
 (.reg [5,6] [I 20 (.mkf (.func Jp) [] [(.s 2),(.s 5)]),I 6 (.mv (.s 20))])
def ZSj:PC :=
 (.reg [5,6,7] [I 21 (.ld false 1 (.s 5)),I 22 (.mkslice 1 8 (.int .i64 0) (.s 21) (.s 21)),I 7 (.mv (.s 22))])
def ZSk:PC :=
 (.reg [6,7,23,24] [I 23 (.ld false 1 (.s 5)),I 24 (.mv (V 0))])
def ZSl:PC :=
 (.reg [6,7,23,24,25] [I 25 (.bin .lss (.s 24) (.s 23))])
def ZP8:PC :=
 (.reg [6,7,8,23,24] [I 26 (.mv (.s 24)),I 8 (.mv (.s 26))])
def ZP9:PC :=
 (.reg [6,7,23,24] [I 27 (.mv (.s 7)),I 28 (.mv (.s 8)),I 29 (.mv (.s 6)),I 30 (.mv (.s 8)),I 31 (.call .norm (.s 29) [(.s 30)]),I 32 (.ixS 1 (.s 27) (.s 28)),J (.st 1 (.s 32) (.s 31))])
def ZQA:PC :=
 (.reg [6,7,23,24] [I 33 (.bin .add (.s 24) (V 1)),I 24 (.mv (.s 33))])
def ZEp:PC :=
 (.seq ZSl
 (.seq (.ite (.s 25)
 .skip
 (.exit 0))
 (.seq (.block 1
 (.seq ZP8
 ZP9))
 ZQA)))
def ZQB:PC :=
 (.reg [4] [I 34 (.mv (.s 7)),I 4 (.mv (.s 34))])
def ZLi:PF:=⟨false,
 (.seq ZSc
 (.seq (.seq ZSd
 (.ite (.s 10)
 (.seq ZSe
 .ret)
 .skip))
 (.seq ZSf
 (.seq (.seq ZSg
 (.ite (.s 17)
 ZSh
 .skip))
 (.seq ZSi
 (.seq ZSj
 (.seq (.seq ZSk
 (.block 0
 (.loop ZEp)))
 (.seq ZQB
 .ret)))))))),
 [.s 4]⟩
theorem ZYa:Zt Go.Proofs.Try.prog false ZYZ Go.Proofs.Try.f82=some ZLi:=by kernel_rfl
def ZYb:List Hint:=[H [1],H [1,9],H [2],H [1,50],H [2],H [1,3,4],H [3,4,59,60,61],H [3,4,59,60,61,62],H [3,4,6,59,60,61],H [3,4,59,60,61,112],H [2],H [3,4,59,60,61],H [2]]
def ZSm:PC :=
 (.reg [1] [I 1 (.box (.s 0)),I 2 (.mv (.v (.bool false)))])
def ZSn:PC :=
 (.reg [1,9] [I 7 (.fadr 0 (.s 1)),I 8 (.ld false 1 (.s 7)),I 9 (.bin .eql (.s 8) (V 0))])
def ZSo:PC :=
 (.reg [2] [I 10 (.fadr 1 (.s 1)),I 11 (.ld false 1 (.s 10)),I 12 (.len 0 (.s 11)),I 13 (.bin .geq (.s 12) (V 1)),I 14 (.mv (.s 13)),G 15 14 true (.fadr 1 (.s 1)),G 16 14 true (.ld false 1 (.s 15)),G 17 14 true (.len 0 (.s 16)),G 18 14 true (.bin .leq (.s 17) (V 16)),I 19 (.pick (.s 14) (.s 18) (.v (.bool false))),I 20 (.mv (.s 19)),G 21 20 true (.fadr 2 (.s 1)),G 22 20 true (.ld false 1 (.s 21)),G 23 20 true (.len 1 (.s 22)),G 24 20 true (.bin .eql (.s 23) (V 0)),I 25 (.pick (.s 20) (.s 24) (.v (.bool false))),I 2 (.mv (.s 25))])
def ZSp:PC :=
 (.reg [1,50] [I 26 (.fadr 0 (.s 1)),I 27 (.ld false 1 (.s 26)),I 28 (.bin .lss (.s 27) (V 1)),I 29 (.mv (.s 28)),G 30 29 false (.fadr 0 (.s 1)),G 31 29 false (.ld false 1 (.s 30)),G 32 29 false (.bin .gtr (.s 31) (V 16)),I 33 (.pick (.s 29) (.v (.bool true)) (.s 32)),I 34 (.mv (.s 33)),G 35 34 false (.fadr 1 (.s 1)),G 36 34 false (.ld false 1 (.s 35)),G 37 34 false (.bin .neq (.s 36) (.v (.str []))),I 38 (.pick (.s 34) (.v (.bool true)) (.s 37)),I 39 (.mv (.s 38)),G 40 39 false (.fadr 2 (.s 1)),G 41 39 false (.ld false 1 (.s 40)),G 42 39 false (.len 1 (.s 41)),G 43 39 false (.bin .lss (.s 42) (V 2)),I 44 (.pick (.s 39) (.v (.bool true)) (.s 43)),I 45 (.mv (.s 44)),G 46 45 false (.fadr 2 (.s 1)),G 47 45 false (.ld false 1 (.s 46)),G 48 45 false (.len 1 (.s 47)),G 49 45 false (.bin .gtr (.s 48) (V 4)),I 50 (.pick (.s 45) (.v (.bool true)) (.s 49))])
def ZSq:PC :=
 (.reg [2] [I 2 (.mv (.v (.bool false)))])
def ZSr:PC :=
 (.reg [1,3,4] [I 52 (.fadr 0 (.s 1)),I 53 (.ld false 1 (.s 52)),I 54 (.bin .sub (.s 53) (V 1)),I 55 (C ZDx [(.s 54)]),I 51 (.mv (.s 55)),I 56 (.ext (.s 51) 0),I 57 (.ext (.s 51) 1),I 3 (.mv (.s 56)),I 4 (.mv (.s 57))])
def ZSs:PC :=
 (.reg [3,4,59,60,61] [I 58 (.fadr 2 (.s 1)),I 59 (.ld false 1 (.s 58)),I 60 (.len 1 (.s 59)),I 61 (.mv (V 0))])
def ZSt:PC :=
 (.reg [3,4,59,60,61,62] [I 62 (.bin .lss (.s 61) (.s 60))])
def ZSu:PC :=
 (.reg [3,4,6,59,60,61] [I 63 (.ixS 4 (.s 59) (.s 61)),I 64 (.ld true 4 (.s 63)),I 6 (.box (.v ZK)),J (.st 4 (.s 6) (.s 64))])
def ZSv:PC :=
 (.reg [3,4,59,60,61,112] [I 65 (.fadr 0 (.s 6)),I 66 (.ld false 1 (.s 65)),I 67 (C ZBx [(.s 66)]),I 68 (.bin .neq (.s 67) (V 0)),I 69 (.mv (.s 68)),G 70 69 false (.fadr 1 (.s 6)),G 71 69 false (.fadr 0 (.s 70)),G 72 69 false (.ld false 1 (.s 71)),G 73 69 false (.mv (.s 3)),G 74 69 false (.bin .lss (.s 72) (.s 73)),I 75 (.pick (.s 69) (.v (.bool true)) (.s 74)),I 76 (.mv (.s 75)),G 77 76 false (.fadr 1 (.s 6)),G 78 76 false (.fadr 0 (.s 77)),G 79 76 false (.ld false 1 (.s 78)),G 80 76 false (.mv (.s 4)),G 81 76 false (.bin .gtr (.s 79) (.s 80)),I 82 (.pick (.s 76) (.v (.bool true)) (.s 81)),I 83 (.mv (.s 82)),G 84 83 false (.fadr 1 (.s 6)),G 85 83 false (.fadr 1 (.s 84)),G 86 83 false (.ld false 1 (.s 85)),G 87 83 false (.bin .lss (.s 86) (V 0)),I 88 (.pick (.s 83) (.v (.bool true)) (.s 87)),I 89 (.mv (.s 88)),G 90 89 false (.fadr 1 (.s 6)),G 91 89 false (.fadr 1 (.s 90)),G 92 89 false (.ld false 1 (.s 91)),G 93 89 false (.fadr 1 (.s 6)),G 94 89 false (.fadr 0 (.s 93)),G 95 89 false (.ld false 1 (.s 94)),G 96 89 false (.bin .gtr (.s 92) (.s 95)),I 97 (.pick (.s 89) (.v (.bool true)) (.s 96)),I 98 (.mv (.s 97)),G 99 98 false (.fadr 1 (.s 6)),G 100 98 false (.fadr 2 (.s 99)),G 101 98 false (.ld false 1 (.s 100)),G 102 98 false (.bin .lss (.s 101) (V 0)),I 103 (.pick (.s 98) (.v (.bool true)) (.s 102)),I 104 (.mv (.s 103)),G 105 104 false (.fadr 1 (.s 6)),G 106 104 false (.fadr 2 (.s 105)),G 107 104 false (.ld false 1 (.s 106)),G 108 104 false (.fadr 1 (.s 6)),G 109 104 false (.fadr 1 (.s 108)),G 110 104 false (.ld false 1 (.s 109)),G 111 104 false (.bin .gtr (.s 107) (.s 110)),I 112 (.pick (.s 104) (.v (.bool true)) (.s 111))])
def ZQC:PC :=
 (.reg [2] [I 2 (.mv (.v (.bool false)))])
def ZQD:PC :=
 (.reg [3,4,59,60,61] [I 113 (.bin .add (.s 61) (V 1)),I 61 (.mv (.s 113))])
def ZQE:PC :=
 (.seq ZSt
 (.seq (.ite (.s 62)
 .skip
 (.exit 0))
 (.seq (.block 1
 (.seq ZSu
 (.seq ZSv
 (.ite (.s 112)
 (.seq ZQC
 .ret)
 .skip))))
 ZQD)))
def ZQF:PC :=
 (.reg [2] [I 2 (.mv (.v (.bool true)))])
def ZLj:PF:=⟨false,
 (.seq ZSm
 (.seq (.seq ZSn
 (.ite (.s 9)
 (.seq ZSo
 .ret)
 .skip))
 (.seq (.seq ZSp
 (.ite (.s 50)
 (.seq ZSq
 .ret)
 .skip))
 (.seq ZSr
 (.seq (.seq ZSs
 (.block 0
 (.loop ZQE)))
 (.seq ZQF
 .ret)))))),
 [.s 2]⟩
theorem ZYc:Zt Go.Proofs.Try.prog false ZYb Go.Proofs.Try.f83=some ZLj:=by kernel_rfl
def Zd7:List Hint:=[H [1,2],H [1,2,8],H [2],⟨[1,2,3],[0],[],[],[],[]⟩,H [2,3,13,14,15],H [2,3,13,14,15,16],H [2,3,5,13,14,15],H [2,3,13,14,15],H [2,3,13,14,15],H [2]]
def Zaz:PC :=
 (.reg [1,2] [I 1 (.box (.s 0)),I 2 (.box (.v ZM))])
def Za0:PC :=
 (.reg [1,2,8] [I 6 (.fadr 0 (.s 1)),I 7 (.ld false 1 (.s 6)),I 8 (.bin .eql (.s 7) (V 0))])
def Za1:PC :=
 (.reg [2] [I 9 (.fadr 1 (.s 1)),I 10 (.ld false 1 (.s 9)),I 11 (C ZFW [(.s 10)]),J (.st 3 (.s 2) (.s 11))])
def Za2:PC :=
 (.reg [1,2,3] [I 3 (.onil 3)])
def Za3:PC :=
 (.reg [2,3,13,14,15] [I 12 (.fadr 2 (.s 1)),I 13 (.ld false 1 (.s 12)),I 14 (.len 1 (.s 13)),I 15 (.mv (V 0))])
def Za4:PC :=
 (.reg [2,3,13,14,15,16] [I 16 (.bin .lss (.s 15) (.s 14))])
def Za5:PC :=
 (.reg [2,3,5,13,14,15] [I 17 (.ixS 4 (.s 13) (.s 15)),I 18 (.ld true 4 (.s 17)),I 5 (.box (.v ZK)),J (.st 4 (.s 5) (.s 18))])
def Za6:PC :=
 (.reg [2,3,13,14,15] [I 19 (.mv (.s 3)),I 20 (.fadr 1 (.s 5)),I 21 (.ld true 3 (.s 20)),I 22 (.bslice false 3 [ZM] [(0,(.s 21))]),I 23 (.app 3 24 (.s 19) (.s 22)),I 3 (.mv (.s 23))])
def Za7:PC :=
 (.reg [2,3,13,14,15] [I 24 (.bin .add (.s 15) (V 1)),I 15 (.mv (.s 24))])
def Za8:PC :=
 (.seq Za4
 (.seq (.ite (.s 16)
 .skip
 (.exit 0))
 (.seq (.block 1
 (.seq Za5
 Za6))
 Za7)))
def ZYd:PC :=
 (.reg [2] [I 25 (.mv (.s 3)),I 26 (C ZDy [(.s 25)]),J (.st 3 (.s 2) (.s 26))])
def ZVt:PF:=⟨false,
 (.seq Zaz
 (.seq (.seq Za0
 (.ite (.s 8)
 (.seq Za1
 .ret)
 .skip))
 (.seq Za2
 (.seq (.seq Za3
 (.block 0
 (.loop Za8)))
 (.seq ZYd
 .ret))))),
 [.c 2 true 3]⟩
theorem Zd8:Zt Go.Proofs.Try.prog false Zd7 Go.Proofs.Try.f84=some ZVt:=by kernel_rfl
def ZJO:List Hint:=[H [1],H [1,6],H [2],H [1,47],H [2],H [1,3],H [1,3,52],H [1,3,63],H [2],H [1,3],H [2]]
def ZGX:PC :=
 (.reg [1] [I 1 (.box (.s 0)),I 2 (.mv (.v (.bool false)))])
def ZGY:PC :=
 (.reg [1,6] [I 4 (.fadr 0 (.s 1)),I 5 (.ld false 1 (.s 4)),I 6 (.bin .eql (.s 5) (V 0))])
def ZGZ:PC :=
 (.reg [2] [I 7 (.fadr 1 (.s 1)),I 8 (.ld false 1 (.s 7)),I 9 (.len 0 (.s 8)),I 10 (.bin .geq (.s 9) (V 1)),I 11 (.mv (.s 10)),G 12 11 true (.fadr 1 (.s 1)),G 13 11 true (.ld false 1 (.s 12)),G 14 11 true (.len 0 (.s 13)),G 15 11 true (.bin .leq (.s 14) (V 16)),I 16 (.pick (.s 11) (.s 15) (.v (.bool false))),I 17 (.mv (.s 16)),G 18 17 true (.fadr 2 (.s 1)),G 19 17 true (.ld false 1 (.s 18)),G 20 17 true (.len 1 (.s 19)),G 21 17 true (.bin .eql (.s 20) (V 0)),I 22 (.pick (.s 17) (.s 21) (.v (.bool false))),I 2 (.mv (.s 22))])
def ZGa:PC :=
 (.reg [1,47] [I 23 (.fadr 0 (.s 1)),I 24 (.ld false 1 (.s 23)),I 25 (.bin .lss (.s 24) (V 0)),I 26 (.mv (.s 25)),G 27 26 false (.fadr 0 (.s 1)),G 28 26 false (.ld false 1 (.s 27)),G 29 26 false (.bin .gtr (.s 28) (V 16)),I 30 (.pick (.s 26) (.v (.bool true)) (.s 29)),I 31 (.mv (.s 30)),G 32 31 false (.fadr 1 (.s 1)),G 33 31 false (.ld false 1 (.s 32)),G 34 31 false (.bin .neq (.s 33) (.v (.str []))),I 35 (.pick (.s 31) (.v (.bool true)) (.s 34)),I 36 (.mv (.s 35)),G 37 36 false (.fadr 2 (.s 1)),G 38 36 false (.ld false 1 (.s 37)),G 39 36 false (.len 1 (.s 38)),G 40 36 false (.bin .lss (.s 39) (V 2)),I 41 (.pick (.s 36) (.v (.bool true)) (.s 40)),I 42 (.mv (.s 41)),G 43 42 false (.fadr 2 (.s 1)),G 44 42 false (.ld false 1 (.s 43)),G 45 42 false (.len 1 (.s 44)),G 46 42 false (.bin .gtr (.s 45) (V 4)),I 47 (.pick (.s 42) (.v (.bool true)) (.s 46))])
def ZGb:PC :=
 (.reg [2] [I 2 (.mv (.v (.bool false)))])
def ZGc:PC :=
 (.reg [1,3] [I 3 (.mv (V 0))])
def ZGd:PC :=
 (.reg [1,3,52] [I 48 (.mv (.s 3)),I 49 (.fadr 2 (.s 1)),I 50 (.ld false 1 (.s 49)),I 51 (.len 1 (.s 50)),I 52 (.bin .lss (.s 48) (.s 51))])
def ZGe:PC :=
 (.reg [1,3,63] [I 55 (.fadr 0 (.s 1)),I 56 (.ld false 1 (.s 55)),I 57 (.fadr 2 (.s 1)),I 58 (.ld false 1 (.s 57)),I 59 (.mv (.s 3)),I 60 (.ixS 4 (.s 58) (.s 59)),I 61 (.ld true 4 (.s 60)),I 62 (C X5 [(.s 56),(.s 61)]),I 63 (.un .not (.s 62))])
def ZGf:PC :=
 (.reg [2] [I 2 (.mv (.v (.bool false)))])
def ZGg:PC :=
 (.reg [1,3] [I 53 (.mv (.s 3)),I 54 (.bin .add (.s 53) (V 1)),I 3 (.mv (.s 54))])
def ZEq:PC :=
 (.seq (.seq ZGd
 (.ite (.s 52)
 .skip
 (.exit 0)))
 (.seq (.block 1
 (.seq ZGe
 (.ite (.s 63)
 (.seq ZGf
 .ret)
 .skip)))
 ZGg))
def ZEr:PC :=
 (.reg [2] [I 2 (.mv (.v (.bool true)))])
def ZAo:PF:=⟨false,
 (.seq ZGX
 (.seq (.seq ZGY
 (.ite (.s 6)
 (.seq ZGZ
 .ret)
 .skip))
 (.seq (.seq ZGa
 (.ite (.s 47)
 (.seq ZGb
 .ret)
 .skip))
 (.seq (.seq ZGc
 (.block 0
 (.loop ZEq)))
 (.seq ZEr
 .ret))))),
 [.s 2]⟩
theorem ZJP:Zt Go.Proofs.Try.prog false ZJO Go.Proofs.Try.f85=some ZAo:=by kernel_rfl
def ZN3:List Hint:=[H [1,2,4],H [1,2,4,5],H [1,2,4,5,6],H [1,2,4,5,6,11],H [1,2,4,5,6,7],H [1,2,4,5,6],H [1,2,4,5,6],H [4]]
def ZLD:PC :=
 (.reg [1,2,4] [I 2 (.box (.s 0)),I 4 (.box (.v ZM))])
def ZLE:PC :=
 (.reg [1,2,4,5] [I 8 (.build [(.int .i64 0),(.int .i64 0),(.int .i64 0)] []),I 5 (.box (.v ZM)),J (.st 3 (.s 5) (.s 8))])
def ZLF:PC :=
 (.reg [1,2,4,5,6] [I 6 (.mv (V 0))])
def ZLG:PC :=
 (.reg [1,2,4,5,6,11] [I 9 (.mv (.s 6)),I 10 (.mv (.s 1)),I 11 (.bin .lss (.s 9) (.s 10))])
def ZLH:PC :=
 (.reg [1,2,4,5,6,7] [I 14 (.fadr 2 (.s 2)),I 15 (.ld false 1 (.s 14)),I 16 (.mv (.s 6)),I 17 (.ixS 4 (.s 15) (.s 16)),I 18 (.fadr 1 (.s 17)),I 19 (.ld true 3 (.s 18)),I 7 (.box (.v ZM)),J (.st 3 (.s 7) (.s 19))])
def ZLI:PC :=
 (.reg [1,2,4,5,6] [I 20 (.fadr 0 (.s 5)),I 21 (.ld false 1 (.s 20)),I 22 (.fadr 0 (.s 7)),I 23 (.ld false 1 (.s 22)),I 24 (.bin .add (.s 21) (.s 23)),I 25 (.fadr 1 (.s 5)),I 26 (.ld false 1 (.s 25)),I 27 (.fadr 1 (.s 7)),I 28 (.ld false 1 (.s 27)),I 29 (.bin .add (.s 26) (.s 28)),I 30 (.fadr 2 (.s 5)),I 31 (.ld false 1 (.s 30)),I 32 (.fadr 2 (.s 7)),I 33 (.ld false 1 (.s 32)),I 34 (.bin .add (.s 31) (.s 33)),I 35 (.build [(.int .i64 0),(.int .i64 0),(.int .i64 0)] [(0,1,(.s 24)),(1,1,(.s 29)),(2,1,(.s 34))]),J (.st 3 (.s 5) (.s 35))])
def ZLJ:PC :=
 (.reg [1,2,4,5,6] [I 12 (.mv (.s 6)),I 13 (.bin .add (.s 12) (V 1)),I 6 (.mv (.s 13))])
def ZLK:PC :=
 (.seq (.seq ZLG
 (.ite (.s 11)
 .skip
 (.exit 0)))
 (.seq (.block 1
 (.seq ZLH
 ZLI))
 ZLJ))
def ZLL:PC :=
 (.reg [4] [I 36 (.ld true 3 (.s 5)),J (.st 3 (.s 4) (.s 36))])
def ZDg:PF:=⟨false,
 (.seq ZLD
 (.seq ZLE
 (.seq (.seq ZLF
 (.block 0
 (.loop ZLK)))
 (.seq ZLL
 .ret)))),
 [.c 4 true 3]⟩
theorem ZN4:Zt Go.Proofs.Try.prog false ZN3 Go.Proofs.Try.f86=some ZDg:=by kernel_rfl
def ZD8:List Hint:=[H [0,1],H [0,1,5],H [0,1,5,12],H [0,1,5,24],H [4],H [0,1,5],H [4]]
def ZCd:PC :=
 (.reg [0,1] [I 4 (.mv (V 0))])
def ZCe:PC :=
 (.reg [0,1,5] [I 5 (.mv (V 0))])
def ZCf:PC :=
 (.reg [0,1,5,12] [I 6 (.mv (.s 5)),I 7 (.mv (.s 0)),I 8 (.nilck (.s 7)),I 9 (.fadr 1 (.s 8)),I 10 (.ld false 1 (.s 9)),I 11 (.len 1 (.s 10)),I 12 (.bin .lss (.s 6) (.s 11))])
def ZCg:PC :=
 (.reg [0,1,5,24] [I 15 (.mv (.s 0)),I 16 (.nilck (.s 15)),I 17 (.fadr 1 (.s 16)),I 18 (.ld false 1 (.s 17)),I 19 (.mv (.s 5)),I 20 (.ixS 4 (.s 18) (.s 19)),I 21 (.fadr 0 (.s 20)),I 22 (.ld false 1 (.s 21)),I 23 (.mv (.s 1)),I 24 (.bin .eql (.s 22) (.s 23))])
def ZCh:PC :=
 (.reg [4] [I 25 (.mv (.s 5)),I 4 (.mv (.s 25))])
def ZCi:PC :=
 (.reg [0,1,5] [I 13 (.mv (.s 5)),I 14 (.bin .add (.s 13) (V 1)),I 5 (.mv (.s 14))])
def ZCj:PC :=
 (.seq (.seq ZCf
 (.ite (.s 12)
 .skip
 (.exit 0)))
 (.seq (.block 1
 (.seq ZCg
 (.ite (.s 24)
 (.seq ZCh
 .ret)
 .skip)))
 ZCi))
def ZCk:PC :=
 (.reg [4] [I 4 (.mv (.v (.int .i64 (-1))))])
def XO:PF:=⟨false,
 (.seq ZCd
 (.seq (.seq ZCe
 (.block 0
 (.loop ZCj)))
 (.seq ZCk
 .ret))),
 [.s 4]⟩
theorem ZD9:Zt Go.Proofs.Try.prog false ZD8 Go.Proofs.Try.f87=some XO:=by kernel_rfl
def ZIG:List Hint:=[H [1,2],H [1,2,4],H [1,2,4,8],H [2,3],H [1,2,13],H [2,3],H [2,3]]
def ZEs:PC :=
 (.reg [1,2] [I 1 (.box (.s 0)),I 2 (.box (.v ZM)),I 3 (.mv (V 0))])
def ZEt:PC :=
 (.reg [1,2,4] [I 5 (.ld true 3 (.s 1)),I 6 (C JR [(.s 5)]),I 4 (.mv (.s 6))])
def ZEu:PC :=
 (.reg [1,2,4,8] [I 7 (.mv (.s 4)),I 8 (.bin .neq (.s 7) (V 0))])
def ZEv:PC :=
 (.reg [2,3] [I 9 (.build [(.int .i64 0),(.int .i64 0),(.int .i64 0)] []),I 10 (.mv (.s 4)),J (.st 3 (.s 2) (.s 9)),I 3 (.mv (.s 10))])
def ZEw:PC :=
 (.reg [1,2,13] [I 11 (.fadr 0 (.s 1)),I 12 (.ld false 1 (.s 11)),I 13 (.bin .eql (.s 12) (V 0))])
def ZEx:PC :=
 (.reg [2,3] [I 14 (.fadr 1 (.s 1)),I 15 (.ld false 1 (.s 14)),I 16 (C ZAZ [(.s 15)]),J (.st 3 (.s 2) (.s 16)),I 3 (.mv (V 0))])
def ZEy:PC :=
 (.reg [2,3] [I 17 (.ld true 3 (.s 1)),I 18 (.fadr 2 (.s 1)),I 19 (.ld false 1 (.s 18)),I 20 (.len 1 (.s 19)),I 21 (C JK [(.s 17),(.s 20)]),J (.st 3 (.s 2) (.s 21)),I 3 (.mv (V 0))])
def ZAK:PF:=⟨false,
 (.seq ZEs
 (.seq (.seq ZEt
 (.seq ZEu
 (.ite (.s 8)
 (.seq ZEv
 .ret)
 .skip)))
 (.seq (.seq ZEw
 (.ite (.s 13)
 (.seq ZEx
 .ret)
 .skip))
 (.seq ZEy
 .ret)))),
 [.c 2 true 3,.s 3]⟩
theorem ZIH:Zt Go.Proofs.Try.prog false ZIG Go.Proofs.Try.f88=some ZAK:=by kernel_rfl
def ZMI:List Hint:=[H [0,1],H [0,1,11],H [4,5],H [0,1,17],H [4,5],H [4,5]]
def ZJQ:PC :=
 (.reg [0,1] [I 4 (.mv (.v (.int .u64 0))),I 5 (.mv (V 0))])
def ZJR:PC :=
 (.reg [0,1,11] [I 6 (.mv (.s 0)),I 7 (.bin .lss (.s 6) (V 0)),I 8 (.mv (.s 7)),G 9 8 false (.mv (.s 0)),G 10 8 false (.bin .geq (.s 9) (V 16384)),I 11 (.pick (.s 8) (.v (.bool true)) (.s 10))])
def ZJS:PC :=
 (.reg [4,5] [I 4 (.mv (.v (.int .u64 0))),I 5 (.mv (V 3))])
def ZJT:PC :=
 (.reg [0,1,17] [I 12 (.mv (.s 1)),I 13 (.bin .lss (.s 12) (.v (.int .u64 1))),I 14 (.mv (.s 13)),G 15 14 false (.mv (.s 1)),G 16 14 false (.bin .gtr (.s 15) (.v (.int .u64 4294967295))),I 17 (.pick (.s 14) (.v (.bool true)) (.s 16))])
def ZJU:PC :=
 (.reg [4,5] [I 4 (.mv (.v (.int .u64 0))),I 5 (.mv (V 3))])
def ZJV:PC :=
 (.reg [4,5] [I 18 (.mv (.s 1)),I 19 (.bin .mul (.s 18) (.v (.int .u64 65536))),I 20 (.mv (.s 0)),I 21 (.cint .u64 (.s 20)),I 22 (.bin .add (.s 19) (.s 21)),I 4 (.mv (.s 22)),I 5 (.mv (V 0))])
def ZCl:PF:=⟨false,
 (.seq ZJQ
 (.seq (.seq ZJR
 (.ite (.s 11)
 (.seq ZJS
 .ret)
 .skip))
 (.seq (.seq ZJT
 (.ite (.s 17)
 (.seq ZJU
 .ret)
 .skip))
 (.seq ZJV
 .ret)))),
 [.s 4,.s 5]⟩
theorem ZMJ:Zt Go.Proofs.Try.prog false ZMI Go.Proofs.Try.f89=some ZCl:=by kernel_rfl
def ZJW:List Hint:=[H [0],⟨[0,3],[0],[],[],[],[]⟩,H [0,3,4],H [0,3,4,8],H [0,3,4],H [0,3,4],H [2]]
def ZGh:PC :=
 (.reg [0] [I 2 (.mv (.v .nils))])
def ZGi:PC :=
 (.reg [0,3] [I 3 (.onil 4)])
def ZGj:PC :=
 (.reg [0,3,4] [I 4 (.mv (V 0))])
def ZGk:PC :=
 (.reg [0,3,4,8] [I 5 (.mv (.s 4)),I 6 (.mv (.s 0)),I 7 (.len 1 (.s 6)),I 8 (.bin .lss (.s 5) (.s 7))])
def ZGl:PC :=
 (.reg [0,3,4] [I 11 (.mv (.s 3)),I 12 (.mv (.s 0)),I 13 (.mv (.s 4)),I 14 (.ixS 4 (.s 12) (.s 13)),I 15 (.ld true 4 (.s 14)),I 16 (.bslice false 4 [ZK] [(0,(.s 15))]),I 17 (.app 4 32 (.s 11) (.s 16)),I 3 (.mv (.s 17))])
def ZGm:PC :=
 (.reg [0,3,4] [I 9 (.mv (.s 4)),I 10 (.bin .add (.s 9) (V 1)),I 4 (.mv (.s 10))])
def ZGn:PC :=
 (.seq (.seq ZGk
 (.ite (.s 8)
 .skip
 (.exit 0)))
 (.seq (.block 1
 ZGl)
 ZGm))
def ZGo:PC :=
 (.reg [2] [I 18 (.mv (.s 3)),I 2 (.mv (.s 18))])
def ZAp:PF:=⟨false,
 (.seq ZGh
 (.seq ZGi
 (.seq (.seq ZGj
 (.block 0
 (.loop ZGn)))
 (.seq ZGo
 .ret)))),
 [.s 2]⟩
theorem ZJX:Zt Go.Proofs.Try.prog false ZJW Go.Proofs.Try.f90=some ZAp:=by kernel_rfl
def Za9:List Hint:=[H [0],H [2]]
def ZVu:PC :=
 (.reg [0] [I 2 (.mv (.v (.bool false)))])
def ZVv:PC :=
 (.reg [2] [I 3 (.mv (.s 0)),I 4 (.len 0 (.s 3)),I 5 (.bin .geq (.s 4) (V 1)),I 6 (.mv (.s 5)),G 7 6 true (.mv (.s 0)),G 8 6 true (.len 0 (.s 7)),G 9 6 true (.bin .leq (.s 8) (V 16)),I 10 (.pick (.s 6) (.s 9) (.v (.bool false))),I 2 (.mv (.s 10))])
def ZN5:PF:=⟨false,
 (.seq ZVu
 (.seq ZVv
 .ret)),
 [.s 2]⟩
theorem ZbA:Zt Go.Proofs.Try.prog false Za9 Go.Proofs.Try.f91=some ZN5:=by kernel_rfl
def ZbB:List Hint:=[H [0,1],H [0,1,15],H [4,5],H [0,1,6],H [0,1,6,21],H [4,5],H [0,1,6,31],H [4,5],H [6,7],H [4,5]]
def ZVw:PC :=
 (.reg [0,1] [I 4 (.mv (.v .nils)),I 5 (.mv (V 0))])
def ZVx:PC :=
 (.reg [0,1,15] [I 8 (.mv (.s 0)),I 9 (C X4 [(.s 8)]),I 10 (.un .not (.s 9)),I 11 (.mv (.s 10)),G 12 11 false (.mv (.s 1)),G 13 11 false (C X4 [(.s 12)]),G 14 11 false (.un .not (.s 13)),I 15 (.pick (.s 11) (.v (.bool true)) (.s 14))])
def ZVy:PC :=
 (.reg [4,5] [I 4 (.mv (.v .nils)),I 5 (.mv (V 2))])
def ZVz:PC :=
 (.reg [0,1,6] [I 16 (.mv (.s 0)),I 17 (.mv (.s 1)),I 18 (.bin .add (.s 16) (.s 17)),I 6 (.mv (.s 18))])
def ZV0:PC :=
 (.reg [0,1,6,21] [I 19 (.mv (.s 6)),I 20 (.len 0 (.s 19)),I 21 (.bin .leq (.s 20) (V 16))])
def ZV1:PC :=
 (.reg [4,5] [I 22 (.mv (.s 6)),I 23 (.bslice false 1 [(.str [])] [(0,(.s 22))]),I 4 (.mv (.s 23)),I 5 (.mv (V 0))])
def ZV2:PC :=
 (.reg [0,1,6,31] [I 24 (.mv (.s 0)),I 25 (.len 0 (.s 24)),I 26 (.bin .geq (.s 25) (V 8)),I 27 (.mv (.s 26)),G 28 27 true (.mv (.s 1)),G 29 27 true (.len 0 (.s 28)),G 30 27 true (.bin .geq (.s 29) (V 8)),I 31 (.pick (.s 27) (.s 30) (.v (.bool false)))])
def ZV3:PC :=
 (.reg [4,5] [I 32 (.mv (.s 0)),I 33 (.mv (.s 1)),I 34 (.bslice false 1 [(.str []),(.str [])] [(0,(.s 32)),(1,(.s 33))]),I 4 (.mv (.s 34)),I 5 (.mv (V 0))])
def ZV4:PC :=
 (.reg [6,7] [I 35 (.mv (.s 6)),I 36 (.len 0 (.s 35)),I 37 (.bin .add (.s 36) (V 1)),I 38 (.bin .quo (.s 37) (V 2)),I 7 (.mv (.s 38))])
def ZV5:PC :=
 (.reg [4,5] [I 39 (.mv (.s 6)),I 40 (.mv (.s 7)),I 41 (.slcS (.s 39) none (some (.s 40))),I 42 (.mv (.s 6)),I 43 (.mv (.s 7)),I 44 (.slcS (.s 42) (some (.s 43)) none),I 45 (.bslice false 1 [(.str []),(.str [])] [(0,(.s 41)),(1,(.s 44))]),I 4 (.mv (.s 45)),I 5 (.mv (V 0))])
def ZN6:PF:=⟨false,
 (.seq ZVw
 (.seq (.seq ZVx
 (.ite (.s 15)
 (.seq ZVy
 .ret)
 .skip))
 (.seq ZVz
 (.seq (.seq ZV0
 (.ite (.s 21)
 (.seq ZV1
 .ret)
 .skip))
 (.seq (.seq ZV2
 (.ite (.s 31)
 (.seq ZV3
 .ret)
 .skip))
 (.seq ZV4
 (.seq ZV5
 .ret))))))),
 [.s 4,.s 5]⟩
theorem ZbC:Zt Go.Proofs.Try.prog false ZbB Go.Proofs.Try.f92=some ZN6:=by kernel_rfl
def ZSw:List Hint:=[H [0,1,2],H [1,2,9],H [4],H [4]]
def ZN7:PC :=
 (.reg [0,1,2] [I 4 (.mv (V 0))])
def ZN8:PC :=
 (.reg [1,2,9] [I 5 (.mv (.s 0)),I 6 (.ld false 1 (.s 1)),I 7 (.ld false 1 (.s 2)),I 8 (.bin .rem (.s 6) (.s 7)),I 9 (.bin .lss (.s 5) (.s 8))])
def ZN9:PC :=
 (.reg [4] [I 10 (.ld false 1 (.s 1)),I 11 (.ld false 1 (.s 2)),I 12 (.bin .quo (.s 10) (.s 11)),I 13 (.bin .add (.s 12) (V 1)),I 4 (.mv (.s 13))])
def ZOA:PC :=
 (.reg [4] [I 14 (.ld false 1 (.s 1)),I 15 (.ld false 1 (.s 2)),I 16 (.bin .quo (.s 14) (.s 15)),I 4 (.mv (.s 16))])
def ZG6:PF:=⟨false,
 (.seq ZN7
 (.seq (.seq ZN8
 (.ite (.s 9)
 (.seq ZN9
 .ret)
 .skip))
 (.seq ZOA
 .ret))),
 [.s 4]⟩
theorem ZSx:Zt Go.Proofs.Try.prog false ZSw Go.Proofs.Try.f93=some ZG6:=by kernel_rfl
def ZYe:List Hint:=[H [0],H [0,2,3],H [2,3,4,5],H [2,3,4,5,6],H [2,3,4,5],H [2,3,4,5],H [2,3,4,5],H [2,3]]
def ZSy:PC :=
 (.reg [0] [I 2 (.mv (V 0)),I 3 (.mv (V 0))])
def ZSz:PC :=
 (.reg [0,2,3] [I 2 (.mv (V 8)),I 3 (.mv (V 16))])
def ZS0:PC :=
 (.reg [2,3,4,5] [I 4 (.mv (.s 0)),I 5 (.mv (V 0))])
def ZS1:PC :=
 (.reg [2,3,4,5,6] [I 6 (.bin .lss (.s 5) (.s 4))])
def ZS2:PC :=
 (.reg [2,3,4,5] [I 7 (.mv (.s 2)),I 8 (.bin .mul (.s 7) (V 2)),I 2 (.mv (.s 8))])
def ZS3:PC :=
 (.reg [2,3,4,5] [I 9 (.mv (.s 3)),I 10 (.bin .mul (.s 9) (V 4)),I 11 (.mnx false (.s 10) (V 65536)),I 3 (.mv (.s 11))])
def ZS4:PC :=
 (.reg [2,3,4,5] [I 12 (.bin .add (.s 5) (V 1)),I 5 (.mv (.s 12))])
def ZS5:PC :=
 (.seq ZS1
 (.seq (.ite (.s 6)
 .skip
 (.exit 0))
 (.seq (.block 1
 (.seq ZS2
 ZS3))
 ZS4)))
def ZS6:PC :=
 (.reg [2,3] [I 13 (.mv (.s 2)),I 14 (.mv (.s 3)),I 15 (.mnx false (.s 14) (V 65536)),I 2 (.mv (.s 13)),I 3 (.mv (.s 15))])
def ZLk:PF:=⟨false,
 (.seq ZSy
 (.seq ZSz
 (.seq (.seq ZS0
 (.block 0
 (.loop ZS5)))
 (.seq ZS6
 .ret)))),
 [.s 2,.s 3]⟩
theorem ZYf:Zt Go.Proofs.Try.prog false ZYe Go.Proofs.Try.f94=some ZLk:=by kernel_rfl
def ZV6:List Hint:=[H [0],H [3,4],H [19],H [2],H [2]]
def ZQG:PC :=
 (.reg [0] [I 2 (.mv (V 0))])
def ZQH:PC :=
 (.reg [3,4] [I 6 (.mv (.s 0)),I 7 (C ZBy [(.s 6)]),I 5 (.mv (.s 7)),I 8 (.ext (.s 5) 0),I 9 (.ext (.s 5) 1),I 3 (.mv (.s 8)),I 4 (.mv (.s 9))])
def ZQI:PC :=
 (.reg [19] [I 10 (.mv (.s 3)),I 11 (.bin .geq (.s 10) (V 16384)),I 12 (.mv (.s 11)),G 13 12 false (.mv (.s 4)),G 14 12 false (.bin .lss (.s 13) (.v (.int .u64 1))),I 15 (.pick (.s 12) (.v (.bool true)) (.s 14)),I 16 (.mv (.s 15)),G 17 16 false (.mv (.s 4)),G 18 16 false (.bin .gtr (.s 17) (.v (.int .u64 4294967295))),I 19 (.pick (.s 16) (.v (.bool true)) (.s 18))])
def ZQJ:PC :=
 (.reg [2] [I 2 (.mv (V 2))])
def ZQK:PC :=
 (.reg [2] [I 2 (.mv (V 0))])
def ZJY:PF:=⟨false,
 (.seq ZQG
 (.seq (.seq ZQH
 (.seq ZQI
 (.ite (.s 19)
 (.seq ZQJ
 .ret)
 .skip)))
 (.seq ZQK
 .ret))),
 [.s 2]⟩
theorem ZV7:Zt Go.Proofs.Try.prog false ZV6 Go.Proofs.Try.f95=some ZJY:=by kernel_rfl
def ZbD:List Hint:=[H [0,2],H [0,2,3],H [0,2,3,6,7],H [0,2,3,6,7,8],H [0,2,3,4,5,6,7],H [0,2,3,6,7],H [0,2,3,6,7],H [2]]
def ZV8:PC :=
 (.reg [0,2] [I 2 (.box (.v ZM))])
def ZV9:PC :=
 (.reg [0,2,3] [I 3 (.box (.v ZM))])
def ZWA:PC :=
 (.reg [0,2,3,6,7] [I 6 (.build [.nilfunc,.nilfunc,.nilfunc] [(0,1,(.v (.func (.func XW) [] []))),(1,1,(.v (.func (.func Y7) [] []))),(2,1,(.v (.func (.func XY) [] [])))]),I 7 (.mv (V 0))])
def ZWB:PC :=
 (.reg [0,2,3,6,7,8] [I 8 (.bin .lss (.s 7) (V 3))])
def ZWC:PC :=
 (.reg [0,2,3,4,5,6,7] [I 9 (.mv (.s 7)),I 10 (.ixArr false 3 1 (.s 6) (.s 7)),I 4 (.mv (.s 9)),I 5 (.mv (.s 10))])
def ZWD:PC :=
 (.reg [0,2,3,6,7] [I 11 (.mv (.s 4)),I 12 (.mv (.s 0)),I 13 (.mv (.s 5)),I 14 (C ZAt [(.s 12),(.s 13)]),I 15 (.ixA 3 1 (.s 3) (.s 11)),J (.st 1 (.s 15) (.s 14))])
def ZWE:PC :=
 (.reg [0,2,3,6,7] [I 16 (.bin .add (.s 7) (V 1)),I 7 (.mv (.s 16))])
def ZWF:PC :=
 (.seq ZWB
 (.seq (.ite (.s 8)
 .skip
 (.exit 0))
 (.seq (.block 1
 (.seq ZWC
 ZWD))
 ZWE)))
def ZWG:PC :=
 (.reg [2] [I 17 (.ld true 3 (.s 3)),I 18 (C YN [(.s 17)]),J (.st 3 (.s 2) (.s 18))])
def ZOB:PF:=⟨false,
 (.seq ZV8
 (.seq ZV9
 (.seq (.seq ZWA
 (.block 0
 (.loop ZWF)))
 (.seq ZWG
 .ret)))),
 [.c 2 true 3]⟩
theorem ZbE:Zt Go.Proofs.Try.prog false ZbD Go.Proofs.Try.f96=some ZOB:=by kernel_rfl
def ZYg:List Hint:=[H [0,2],H [0,2,3],H [2,3,8,9,10],H [2,3,8,9,10,11],H [2,3,5,8,9,10],H [2,3,8,9,10,20,21],H [2,3,8,9,10,20,21,22],H [2,3,6,7,8,9,10,20,21],H [2,3,8,9,10,20,21],H [2,3,8,9,10,20,21],H [2,3,8,9,10],H [2]]
def ZS7:PC :=
 (.reg [0,2] [I 2 (.box (.v ZM))])
def ZS8:PC :=
 (.reg [0,2,3] [I 3 (.box (.v ZM))])
def ZS9:PC :=
 (.reg [2,3,8,9,10] [I 8 (.mv (.s 0)),I 9 (.len 1 (.s 8)),I 10 (.mv (V 0))])
def ZTA:PC :=
 (.reg [2,3,8,9,10,11] [I 11 (.bin .lss (.s 10) (.s 9))])
def ZTB:PC :=
 (.reg [2,3,5,8,9,10] [I 12 (.ixS 3 (.s 8) (.s 10)),I 13 (.ld true 3 (.s 12)),I 5 (.box (.v ZM)),J (.st 3 (.s 5) (.s 13))])
def ZTC:PC :=
 (.reg [2,3,8,9,10,20,21] [I 14 (.fadr 0 (.s 5)),I 15 (.ld false 1 (.s 14)),I 16 (.fadr 1 (.s 5)),I 17 (.ld false 1 (.s 16)),I 18 (.fadr 2 (.s 5)),I 19 (.ld false 1 (.s 18)),I 20 (.build [(.int .i64 0),(.int .i64 0),(.int .i64 0)] [(0,1,(.s 15)),(1,1,(.s 17)),(2,1,(.s 19))]),I 21 (.mv (V 0))])
def ZTD:PC :=
 (.reg [2,3,8,9,10,20,21,22] [I 22 (.bin .lss (.s 21) (V 3))])
def ZTE:PC :=
 (.reg [2,3,6,7,8,9,10,20,21] [I 23 (.mv (.s 21)),I 24 (.ixArr false 3 1 (.s 20) (.s 21)),I 6 (.mv (.s 23)),I 7 (.mv (.s 24))])
def ZTF:PC :=
 (.reg [2,3,8,9,10,20,21] [I 25 (.mv (.s 6)),I 26 (.ixA 3 1 (.s 3) (.s 25)),I 27 (.ld false 1 (.s 26)),I 28 (.mv (.s 7)),I 29 (.bin .add (.s 27) (.s 28)),I 30 (.ixA 3 1 (.s 3) (.s 25)),J (.st 1 (.s 30) (.s 29))])
def ZTG:PC :=
 (.reg [2,3,8,9,10,20,21] [I 31 (.bin .add (.s 21) (V 1)),I 21 (.mv (.s 31))])
def ZQL:PC :=
 (.seq ZTD
 (.seq (.ite (.s 22)
 .skip
 (.exit 2))
 (.seq (.block 3
 (.seq ZTE
 ZTF))
 ZTG)))
def ZQM:PC :=
 (.reg [2,3,8,9,10] [I 32 (.bin .add (.s 10) (V 1)),I 10 (.mv (.s 32))])
def ZQN:PC :=
 (.seq ZTA
 (.seq (.ite (.s 11)
 .skip
 (.exit 0))
 (.seq (.block 1
 (.seq ZTB
 (.seq ZTC
 (.block 2
 (.loop ZQL)))))
 ZQM)))
def ZQO:PC :=
 (.reg [2] [I 33 (.ld true 3 (.s 3)),I 34 (C YN [(.s 33)]),J (.st 3 (.s 2) (.s 34))])
def ZLl:PF:=⟨false,
 (.seq ZS7
 (.seq ZS8
 (.seq (.seq ZS9
 (.block 0
 (.loop ZQN)))
 (.seq ZQO
 .ret)))),
 [.c 2 true 3]⟩
theorem ZYh:Zt Go.Proofs.Try.prog false ZYg Go.Proofs.Try.f97=some ZLl:=by kernel_rfl
def ZOC:List Hint:=[H [0,3],H [0,3,5,6],H [0,3,5,6,7],H [0,3,5,6,7,11],H [0,3,5,6,7],H [0,3,5,6,7],H [0,3,5,6,7],H [3,5,6,8],H [4]]
def ZLM:PC :=
 (.reg [0,3] [I 3 (.box (.s 1)),I 4 (.mv (.v (.bool false)))])
def ZLN:PC :=
 (.reg [0,3,5,6] [I 5 (.mv (V 8)),I 6 (.mv (V 16))])
def ZLO:PC :=
 (.reg [0,3,5,6,7] [I 7 (.mv (V 1))])
def ZLP:PC :=
 (.reg [0,3,5,6,7,11] [I 9 (.mv (.s 7)),I 10 (.mv (.s 0)),I 11 (.bin .lss (.s 9) (.s 10))])
def ZLQ:PC :=
 (.reg [0,3,5,6,7] [I 14 (.mv (.s 5)),I 15 (.bin .mul (.s 14) (V 2)),I 5 (.mv (.s 15))])
def ZLR:PC :=
 (.reg [0,3,5,6,7] [I 16 (.mv (.s 6)),I 17 (.bin .mul (.s 16) (V 4)),I 18 (.mnx false (.s 17) (V 65536)),I 6 (.mv (.s 18))])
def ZLS:PC :=
 (.reg [0,3,5,6,7] [I 12 (.mv (.s 7)),I 13 (.bin .add (.s 12) (V 1)),I 7 (.mv (.s 13))])
def ZLT:PC :=
 (.seq (.seq ZLP
 (.ite (.s 11)
 .skip
 (.exit 0)))
 (.seq (.block 1
 (.seq ZLQ
 ZLR))
 ZLS))
def ZLU:PC :=
 (.reg [3,5,6,8] [I 19 (.fadr 1 (.s 3)),I 20 (.ld true 3 (.s 19)),I 8 (.box (.v ZM)),J (.st 3 (.s 8) (.s 20))])
def ZLV:PC :=
 (.reg [4] [I 21 (.fadr 0 (.s 3)),I 22 (.ld false 1 (.s 21)),I 23 (C XI [(.s 22)]),I 24 (.bin .eql (.s 23) (V 0)),I 25 (.mv (.s 24)),G 26 25 true (.fadr 0 (.s 8)),G 27 25 true (.ld false 1 (.s 26)),G 28 25 true (.mv (.s 5)),G 29 25 true (.bin .geq (.s 27) (.s 28)),I 30 (.pick (.s 25) (.s 29) (.v (.bool false))),I 31 (.mv (.s 30)),G 32 31 true (.fadr 0 (.s 8)),G 33 31 true (.ld false 1 (.s 32)),G 34 31 true (.mv (.s 6)),G 35 31 true (.bin .leq (.s 33) (.s 34)),I 36 (.pick (.s 31) (.s 35) (.v (.bool false))),I 37 (.mv (.s 36)),G 38 37 true (.fadr 1 (.s 8)),G 39 37 true (.ld false 1 (.s 38)),G 40 37 true (.bin .geq (.s 39) (V 0)),I 41 (.pick (.s 37) (.s 40) (.v (.bool false))),I 42 (.mv (.s 41)),G 43 42 true (.fadr 1 (.s 8)),G 44 42 true (.ld false 1 (.s 43)),G 45 42 true (.fadr 0 (.s 8)),G 46 42 true (.ld false 1 (.s 45)),G 47 42 true (.bin .leq (.s 44) (.s 46)),I 48 (.pick (.s 42) (.s 47) (.v (.bool false))),I 49 (.mv (.s 48)),G 50 49 true (.fadr 2 (.s 8)),G 51 49 true (.ld false 1 (.s 50)),G 52 49 true (.bin .geq (.s 51) (V 0)),I 53 (.pick (.s 49) (.s 52) (.v (.bool false))),I 54 (.mv (.s 53)),G 55 54 true (.fadr 2 (.s 8)),G 56 54 true (.ld false 1 (.s 55)),G 57 54 true (.fadr 1 (.s 8)),G 58 54 true (.ld false 1 (.s 57)),G 59 54 true (.bin .leq (.s 56) (.s 58)),I 60 (.pick (.s 54) (.s 59) (.v (.bool false))),I 4 (.mv (.s 60))])
def ZDh:PF:=⟨false,
 (.seq ZLM
 (.seq ZLN
 (.seq (.seq ZLO
 (.block 0
 (.loop ZLT)))
 (.seq ZLU
 (.seq ZLV
 .ret))))),
 [.s 4]⟩
theorem ZOD:Zt Go.Proofs.Try.prog false ZOC Go.Proofs.Try.f98=some ZDh:=by kernel_rfl
def ZQP:List Hint:=[H [0,2],H [0,2,3],H [0,2,3,4],H [0,2,3,4,13],H [0,2,3,4,19],H [0,2,3,4],H [0,2,3,4],H [2]]
def ZMK:PC :=
 (.reg [0,2] [I 2 (.box (.v ZM))])
def ZML:PC :=
 (.reg [0,2,3] [I 5 (.mv (.s 0)),I 6 (.len 0 (.s 5)),I 7 (.mv (.s 0)),I 8 (C XJ [(.s 7)]),I 9 (.build [(.int .i64 0),(.int .i64 0),(.int .i64 0)] [(0,1,(.s 6)),(1,1,(.s 8))]),I 3 (.box (.v ZM)),J (.st 3 (.s 3) (.s 9))])
def ZMM:PC :=
 (.reg [0,2,3,4] [I 4 (.mv (V 0))])
def ZMN:PC :=
 (.reg [0,2,3,4,13] [I 10 (.mv (.s 4)),I 11 (.mv (.s 0)),I 12 (.len 0 (.s 11)),I 13 (.bin .lss (.s 10) (.s 12))])
def ZMO:PC :=
 (.reg [0,2,3,4,19] [I 16 (.mv (.s 0)),I 17 (.mv (.s 4)),I 18 (.ixStr (.s 16) (.s 17)),I 19 (.bin .eql (.s 18) (.v (.int .u8 10)))])
def ZMP:PC :=
 (.reg [0,2,3,4] [I 20 (.fadr 2 (.s 3)),I 21 (.ld false 1 (.s 20)),I 22 (.bin .add (.s 21) (V 1)),I 23 (.fadr 2 (.s 3)),J (.st 1 (.s 23) (.s 22))])
def ZMQ:PC :=
 (.reg [0,2,3,4] [I 14 (.mv (.s 4)),I 15 (.bin .add (.s 14) (V 1)),I 4 (.mv (.s 15))])
def ZMR:PC :=
 (.seq (.seq ZMN
 (.ite (.s 13)
 .skip
 (.exit 0)))
 (.seq (.block 1
 (.seq ZMO
 (.ite (.s 19)
 ZMP
 .skip)))
 ZMQ))
def ZMS:PC :=
 (.reg [2] [I 24 (.ld true 3 (.s 3)),J (.st 3 (.s 2) (.s 24))])
def ZEz:PF:=⟨false,
 (.seq ZMK
 (.seq ZML
 (.seq (.seq ZMM
 (.block 0
 (.loop ZMR)))
 (.seq ZMS
 .ret)))),
 [.c 2 true 3]⟩
theorem ZQQ:Zt Go.Proofs.Try.prog false ZQP Go.Proofs.Try.f99=some ZEz:=by kernel_rfl
def ZWH:List Hint:=[H [0],H [2,3]]
def ZQR:PC :=
 (.reg [0] [I 2 (.mv (V 0)),I 3 (.mv (.v (.int .u64 0)))])
def ZQS:PC :=
 (.reg [2,3] [I 4 (.mv (.s 0)),I 5 (.bin .and (.s 4) (.v (.int .u64 65535))),I 6 (.cint .i64 (.s 5)),I 7 (.mv (.s 0)),I 8 (.bin .shr (.s 7) (.v (.int .u64 16))),I 2 (.mv (.s 6)),I 3 (.mv (.s 8))])
def ZJZ:PF:=⟨false,
 (.seq ZQR
 (.seq ZQS
 .ret)),
 [.s 2,.s 3]⟩
theorem ZWI:Zt Go.Proofs.Try.prog false ZWH Go.Proofs.Try.f100=some ZJZ:=by kernel_rfl
def ZTH:List Hint:=[H [],H [2]]
def ZOE:PC :=
 (.reg [] [I 2 (.mv (.v (.bool false)))])
def ZOF:PC :=
 (.reg [2] [I 2 (.mv (.v (.bool true)))])
def ZG7:PF:=⟨false,
 (.seq ZOE
 (.seq ZOF
 .ret)),
 [.s 2]⟩
theorem ZTI:Zt Go.Proofs.Try.prog false ZTH Go.Proofs.Try.f101=some ZG7:=by kernel_rfl
def ZQT:List Hint:=[H [0],H [2]]
def ZMT:PC :=
 (.reg [0] [I 2 (.mv (.v (.bool false)))])
def ZMU:PC :=
 (.reg [2] [I 3 (.mv (.s 0)),I 4 (.bin .lss (.s 3) (.v (.int .u8 128))),I 5 (.mv (.s 4)),G 6 5 false (.mv (.s 0)),G 7 5 false (.bin .gtr (.s 6) (.v (.int .u8 191))),I 8 (.pick (.s 5) (.v (.bool true)) (.s 7)),I 2 (.mv (.s 8))])
def ZE0:PF:=⟨false,
 (.seq ZMT
 (.seq ZMU
 .ret)),
 [.s 2]⟩
theorem ZQU:Zt Go.Proofs.Try.prog false ZQT Go.Proofs.Try.f102=some ZE0:=by kernel_rfl
def ZTJ:List Hint:=[H [0],H [2]]
def ZOG:PC :=
 (.reg [0] [I 2 (.mv (.v (.bool false)))])
def ZOH:PC :=
 (.reg [2] [I 3 (.mv (.s 0)),I 4 (.bin .eql (.s 3) (.v (.int .u8 10))),I 2 (.mv (.s 4))])
def ZG8:PF:=⟨false,
 (.seq ZOG
 (.seq ZOH
 .ret)),
 [.s 2]⟩
theorem ZTK:Zt Go.Proofs.Try.prog false ZTJ Go.Proofs.Try.f103=some ZG8:=by kernel_rfl
def ZTL:List Hint:=[H [0,1],H [0,1,5],H [0,1,5,8,9],H [0,1,5,8,9,10],H [0,1,5,6,8,9],H [0,1,5,8,9,16],H [0,1,5,8,9],H [0,1,5,8,9],H [4]]
def ZOI:PC :=
 (.reg [0,1] [I 4 (.mv (V 0))])
def ZOJ:PC :=
 (.reg [0,1,5] [I 5 (.mv (V 0))])
def ZOK:PC :=
 (.reg [0,1,5,8,9] [I 7 (.mv (.s 0)),I 8 (.len 0 (.s 7)),I 9 (.mv (V 0))])
def ZOL:PC :=
 (.reg [0,1,5,8,9,10] [I 10 (.bin .lss (.s 9) (.s 8))])
def ZOM:PC :=
 (.reg [0,1,5,6,8,9] [I 11 (.mv (.s 9)),I 6 (.mv (.s 11))])
def ZON:PC :=
 (.reg [0,1,5,8,9,16] [I 12 (.mv (.s 1)),I 13 (.mv (.s 0)),I 14 (.mv (.s 6)),I 15 (.ixStr (.s 13) (.s 14)),I 16 (.call .norm (.s 12) [(.s 15)])])
def ZOO:PC :=
 (.reg [0,1,5,8,9] [I 17 (.mv (.s 5)),I 18 (.bin .add (.s 17) (V 1)),I 5 (.mv (.s 18))])
def ZOP:PC :=
 (.reg [0,1,5,8,9] [I 19 (.bin .add (.s 9) (V 1)),I 9 (.mv (.s 19))])
def ZOQ:PC :=
 (.seq ZOL
 (.seq (.ite (.s 10)
 .skip
 (.exit 0))
 (.seq (.block 1
 (.seq ZOM
 (.seq ZON
 (.ite (.s 16)
 ZOO
 .skip))))
 ZOP)))
def ZOR:PC :=
 (.reg [4] [I 20 (.mv (.s 5)),I 4 (.mv (.s 20))])
def ZG9:PF:=⟨false,
 (.seq ZOI
 (.seq ZOJ
 (.seq (.seq ZOK
 (.block 0
 (.loop ZOQ)))
 (.seq ZOR
 .ret)))),
 [.s 4]⟩
theorem ZTM:Zt Go.Proofs.Try.prog false ZTL Go.Proofs.Try.f104=some ZG9:=by kernel_rfl
def ZMV:List Hint:=[H [1,2],H [1,2,5],H [2],H [2]]
def ZJa:PC :=
 (.reg [1,2] [I 1 (.box (.s 0)),I 2 (.box (.v ZM))])
def ZJb:PC :=
 (.reg [1,2,5] [I 3 (.ld true 3 (.s 1)),I 4 (.build [(.int .i64 0),(.int .i64 0),(.int .i64 0)] []),I 5 (.eqs false 0 [(0,0),(1,0),(2,0)] (.s 3) (.s 4))])
def ZJc:PC :=
 (.reg [2] [I 6 (.build [(.int .i64 0),(.int .i64 0),(.int .i64 0)] []),J (.st 3 (.s 2) (.s 6))])
def ZJd:PC :=
 (.reg [2] [I 7 (.ixA 3 1 (.s 1) (V 0)),I 8 (.ld false 1 (.s 7)),I 9 (.ixA 3 1 (.s 1) (V 1)),I 10 (.ld false 1 (.s 9)),I 11 (.ixA 3 1 (.s 1) (V 2)),I 12 (.ld false 1 (.s 11)),I 13 (.build [(.int .i64 0),(.int .i64 0),(.int .i64 0)] [(0,1,(.s 8)),(1,1,(.s 10)),(2,1,(.s 12))]),J (.st 3 (.s 2) (.s 13))])
def ZCm:PF:=⟨false,
 (.seq ZJa
 (.seq (.seq ZJb
 (.ite (.s 5)
 (.seq ZJc
 .ret)
 .skip))
 (.seq ZJd
 .ret))),
 [.c 2 true 3]⟩
theorem ZMW:Zt Go.Proofs.Try.prog false ZMV Go.Proofs.Try.f105=some ZCm:=by kernel_rfl
def ZLW:List Hint:=[H [0],H [0,3],H [16],H [2],H [2]]
def ZII:PC :=
 (.reg [0] [I 2 (.mv (V 0))])
def ZIJ:PC :=
 (.reg [0,3] [I 4 (.mv (.s 0)),I 5 (.bin .quo (.s 4) (.v (.int .u64 65536))),I 3 (.mv (.s 5))])
def ZIK:PC :=
 (.reg [16] [I 6 (.mv (.s 0)),I 7 (.bin .rem (.s 6) (.v (.int .u64 65536))),I 8 (.bin .geq (.s 7) (.v (.int .u64 16384))),I 9 (.mv (.s 8)),G 10 9 false (.mv (.s 3)),G 11 9 false (.bin .lss (.s 10) (.v (.int .u64 1))),I 12 (.pick (.s 9) (.v (.bool true)) (.s 11)),I 13 (.mv (.s 12)),G 14 13 false (.mv (.s 3)),G 15 13 false (.bin .gtr (.s 14) (.v (.int .u64 4294967295))),I 16 (.pick (.s 13) (.v (.bool true)) (.s 15))])
def ZIL:PC :=
 (.reg [2] [I 2 (.mv (V 2))])
def ZIM:PC :=
 (.reg [2] [I 2 (.mv (V 0))])
def ZA6:PF:=⟨false,
 (.seq ZII
 (.seq ZIJ
 (.seq (.seq ZIK
 (.ite (.s 16)
 (.seq ZIL
 .ret)
 .skip))
 (.seq ZIM
 .ret)))),
 [.s 2]⟩
theorem ZLX:Zt Go.Proofs.Try.prog false ZLW Go.Proofs.Try.f106=some ZA6:=by kernel_rfl
def ZLY:List Hint:=[H [0],H [0,3],H [0,3,4],H [0,3,4,8],H [0,3,4,15],H [0,3,4],H [0,3,4],H [2]]
def ZIN:PC :=
 (.reg [0] [I 2 (.mv (V 0))])
def ZIO:PC :=
 (.reg [0,3] [I 3 (.mv (V 0))])
def ZIP:PC :=
 (.reg [0,3,4] [I 4 (.mv (V 0))])
def ZIQ:PC :=
 (.reg [0,3,4,8] [I 5 (.mv (.s 4)),I 6 (.mv (.s 0)),I 7 (.len 0 (.s 6)),I 8 (.bin .lss (.s 5) (.s 7))])
def ZIR:PC :=
 (.reg [0,3,4,15] [I 11 (.mv (.s 0)),I 12 (.mv (.s 4)),I 13 (.ixStr (.s 11) (.s 12)),I 14 (C Xg [(.s 13)]),I 15 (.un .not (.s 14))])
def ZIS:PC :=
 (.reg [0,3,4] [I 16 (.mv (.s 3)),I 17 (.bin .add (.s 16) (V 1)),I 3 (.mv (.s 17))])
def ZIT:PC :=
 (.reg [0,3,4] [I 9 (.mv (.s 4)),I 10 (.bin .add (.s 9) (V 1)),I 4 (.mv (.s 10))])
def ZIU:PC :=
 (.seq (.seq ZIQ
 (.ite (.s 8)
 .skip
 (.exit 0)))
 (.seq (.block 1
 (.seq ZIR
 (.ite (.s 15)
 ZIS
 .skip)))
 ZIT))
def ZIV:PC :=
 (.reg [2] [I 18 (.mv (.s 3)),I 2 (.mv (.s 18))])
def ZA7:PF:=⟨false,
 (.seq ZIN
 (.seq ZIO
 (.seq (.seq ZIP
 (.block 0
 (.loop ZIU)))
 (.seq ZIV
 .ret)))),
 [.s 2]⟩
theorem ZLZ:Zt Go.Proofs.Try.prog false ZLY Go.Proofs.Try.f107=some ZA7:=by kernel_rfl
def ZMX:List Hint:=[H [0],H [2]]
def ZJe:PC :=
 (.reg [0] [I 2 (.mv (.v (.bool false)))])
def ZJf:PC :=
 (.reg [2] [I 3 (.mv (.s 0)),I 4 (.bin .geq (.s 3) (.v (.int .u8 128))),I 5 (.mv (.s 4)),G 6 5 true (.mv (.s 0)),G 7 5 true (.bin .lss (.s 6) (.v (.int .u8 192))),I 8 (.pick (.s 5) (.s 7) (.v (.bool false))),I 2 (.mv (.s 8))])
def ZCn:PF:=⟨false,
 (.seq ZJe
 (.seq ZJf
 .ret)),
 [.s 2]⟩
theorem ZMY:Zt Go.Proofs.Try.prog false ZMX Go.Proofs.Try.f108=some ZCn:=by kernel_rfl
end Go.Q15
namespace Go.Q15
open Go Go.QAbs
set_option maxRecDepth 100000
def tabL:List (FuncId × Ent):=[(J7,.pf Xn),(J1,.pf ZAx),(Jt,.pf ZDb),(YK,.pf ZCE),(Q7,.pf ZCF),(ZBs,.pf ZI5),(ZDX,.pf ZQq),(J2,.pf ZAy),(Jf,.pf ZAH),(Xl,.pf ZQr),(Xv,.pf ZNN),(YL,.pf ZUZ),(Xw,.pf ZDc),(ZBt,.pf ZI6),(ZIk,.pf ZQs),(Jz,.pf XM),(ZDY,.pf ZQt),(Yn,.pf ZDd),(XG,.pf ZAz),(Z9,.pf ZA0),(JQ,.pf ZA1),(QD,.pf XA),(YM,.pf ZNf),(Qh,.pf ZNg),(ZAX,.pf ZUy),(ZBu,.pf ZUz),(Yd,.pf ZLd),(Xx,.pf ZNh),(Ye,.pf ZLe),(Yx,.pf ZAl),(Jk,.pf XB),(J8,.pf Xo),(ZDZ,.pf ZQu),(ZBv,.pf ZI9),(ZFU,.pf ZNi),(QH,.pf ZNj),(Qb,.pf ZQv),(JC,.pf ZNk),(J9,.pf ZEQ),(YA,.pf ZER),(Yf,.pf ZLf),(Xm,.pf ZQw),(Jo,.pf ZG4),(ZBw,.pf ZJA),(Xy,.pf ZDe),(Yy,.pf ZAm),(Xe,.pf ZCR),(J3,.pf ZA2),(J4,.pf ZA3),(XH,.pf ZA4),(Jc,.pf ZCS),(Yi,.pf ZAI),(Xz,.pf ZNz),(X3,.pf ZJL),(Yz,.pf ZAn),(JR,.pf ZA5),(JD,.pf XN),(YB,.pf Xp),(Qy,.pf ZAD),(ZBB,.pf ZN0),(ZIl,.pf ZQx),(ZDw,.pf ZLg),(ZDa,.pf ZQy),(Jg,.pf ZAJ),(ZAf,.pf ZLh),(JJ,.pf ZDf),(ZAg,.pf ZLi),(XL,.pf ZLj),(ZAY,.pf ZVt),(JF,.pf ZAo),(JK,.pf ZDg),(J0,.pf XO),(Yj,.pf ZAK),(Xf,.pf ZCl),(Ju,.pf ZAp),(X4,.pf ZN5),(ZFV,.pf ZN6),(Jp,.pf ZG6),(ZDx,.pf ZLk),(ZBx,.pf ZJY),(ZFW,.pf ZOB),(ZDy,.pf ZLl),(X5,.pf ZDh),(ZAZ,.pf ZEz),(ZBy,.pf ZJZ),(XW,.pf ZG7),(Y7,.pf ZE0),(XY,.pf ZG8),(ZAt,.pf ZG9),(YN,.pf ZCm),(XI,.pf ZA6),(XJ,.pf ZA7),(Xg,.pf ZCn)]
theorem Zi9:ZcG Go.Proofs.Try.prog tabL:=⟨⟨Go.Proofs.Try.call4,_,_,_,Go.Proofs.Try.func4,ZEI⟩,⟨⟨Go.Proofs.Try.call7,_,_,_,Go.Proofs.Try.func7,ZKG⟩,⟨⟨Go.Proofs.Try.call8,_,_,_,Go.Proofs.Try.func8,ZM7⟩,⟨⟨Go.Proofs.Try.call12,_,_,_,Go.Proofs.Try.func12,ZL4⟩,⟨⟨Go.Proofs.Try.call15,_,_,_,Go.Proofs.Try.func15,ZL6⟩,⟨⟨Go.Proofs.Try.call18,_,_,_,Go.Proofs.Try.func18,ZUN⟩,⟨⟨Go.Proofs.Try.call19,_,_,_,Go.Proofs.Try.func19,ZcN⟩,⟨⟨Go.Proofs.Try.call20,_,_,_,Go.Proofs.Try.func20,ZKS⟩,⟨⟨Go.Proofs.Try.call21,_,_,_,Go.Proofs.Try.func21,ZHJ⟩,⟨⟨Go.Proofs.Try.call22,_,_,_,Go.Proofs.Try.func22,ZcP⟩,⟨⟨Go.Proofs.Try.call23,_,_,_,Go.Proofs.Try.func23,ZaE⟩,⟨⟨Go.Proofs.Try.call24,_,_,_,Go.Proofs.Try.func24,Zd2⟩,⟨⟨Go.Proofs.Try.call25,_,_,_,Go.Proofs.Try.func25,ZNP⟩,⟨⟨Go.Proofs.Try.call26,_,_,_,Go.Proofs.Try.func26,ZUb⟩,⟨⟨Go.Proofs.Try.call27,_,_,_,Go.Proofs.Try.func27,ZcR⟩,⟨⟨Go.Proofs.Try.call28,_,_,_,Go.Proofs.Try.func28,ZD0⟩,⟨⟨Go.Proofs.Try.call29,_,_,_,Go.Proofs.Try.func29,ZcT⟩,⟨⟨Go.Proofs.Try.call30,_,_,_,Go.Proofs.Try.func30,ZNe⟩,⟨⟨Go.Proofs.Try.call31,_,_,_,Go.Proofs.Try.func31,ZKh⟩,⟨⟨Go.Proofs.Try.call32,_,_,_,Go.Proofs.Try.func32,ZKj⟩,⟨⟨Go.Proofs.Try.call33,_,_,_,Go.Proofs.Try.func33,ZKl⟩,⟨⟨Go.Proofs.Try.call34,_,_,_,Go.Proofs.Try.func34,ZC7⟩,⟨⟨Go.Proofs.Try.call35,_,_,_,Go.Proofs.Try.func35,ZaQ⟩,⟨⟨Go.Proofs.Try.call36,_,_,_,Go.Proofs.Try.func36,ZaS⟩,⟨⟨Go.Proofs.Try.call37,_,_,_,Go.Proofs.Try.func37,Zd4⟩,⟨⟨Go.Proofs.Try.call38,_,_,_,Go.Proofs.Try.func38,Zd6⟩,⟨⟨Go.Proofs.Try.call40,_,_,_,Go.Proofs.Try.func40,ZXs⟩,⟨⟨Go.Proofs.Try.call41,_,_,_,Go.Proofs.Try.func41,Zao⟩,⟨⟨Go.Proofs.Try.call43,_,_,_,Go.Proofs.Try.func43,ZXu⟩,⟨⟨Go.Proofs.Try.call44,_,_,_,Go.Proofs.Try.func44,ZI8⟩,⟨⟨Go.Proofs.Try.call45,_,_,_,Go.Proofs.Try.func45,ZC9⟩,⟨⟨Go.Proofs.Try.call46,_,_,_,Go.Proofs.Try.func46,ZEP⟩,⟨⟨Go.Proofs.Try.call47,_,_,_,Go.Proofs.Try.func47,ZcV⟩,⟨⟨Go.Proofs.Try.call48,_,_,_,Go.Proofs.Try.func48,ZVB⟩,⟨⟨Go.Proofs.Try.call49,_,_,_,Go.Proofs.Try.func49,Zaq⟩,⟨⟨Go.Proofs.Try.call50,_,_,_,Go.Proofs.Try.func50,Zas⟩,⟨⟨Go.Proofs.Try.call51,_,_,_,Go.Proofs.Try.func51,ZcX⟩,⟨⟨Go.Proofs.Try.call52,_,_,_,Go.Proofs.Try.func52,Zau⟩,⟨⟨Go.Proofs.Try.call53,_,_,_,Go.Proofs.Try.func53,ZPZ⟩,⟨⟨Go.Proofs.Try.call54,_,_,_,Go.Proofs.Try.func54,ZPb⟩,⟨⟨Go.Proofs.Try.call55,_,_,_,Go.Proofs.Try.func55,ZYE⟩,⟨⟨Go.Proofs.Try.call56,_,_,_,Go.Proofs.Try.func56,ZcZ⟩,⟨⟨Go.Proofs.Try.call57,_,_,_,Go.Proofs.Try.func57,ZSF⟩,⟨⟨Go.Proofs.Try.call58,_,_,_,Go.Proofs.Try.func58,ZVa⟩,⟨⟨Go.Proofs.Try.call59,_,_,_,Go.Proofs.Try.func59,ZNy⟩,⟨⟨Go.Proofs.Try.call60,_,_,_,Go.Proofs.Try.func60,ZJG⟩,⟨⟨Go.Proofs.Try.call61,_,_,_,Go.Proofs.Try.func61,ZMF⟩,⟨⟨Go.Proofs.Try.call62,_,_,_,Go.Proofs.Try.func62,ZKx⟩,⟨⟨Go.Proofs.Try.call63,_,_,_,Go.Proofs.Try.func63,ZKz⟩,⟨⟨Go.Proofs.Try.call64,_,_,_,Go.Proofs.Try.func64,ZK1⟩,⟨⟨Go.Proofs.Try.call65,_,_,_,Go.Proofs.Try.func65,ZMH⟩,⟨⟨Go.Proofs.Try.call66,_,_,_,Go.Proofs.Try.func66,ZH7⟩,⟨⟨Go.Proofs.Try.call67,_,_,_,Go.Proofs.Try.func67,Zaw⟩,⟨⟨Go.Proofs.Try.call68,_,_,_,Go.Proofs.Try.func68,ZVi⟩,⟨⟨Go.Proofs.Try.call69,_,_,_,Go.Proofs.Try.func69,ZJN⟩,⟨⟨Go.Proofs.Try.call71,_,_,_,Go.Proofs.Try.func71,ZK3⟩,⟨⟨Go.Proofs.Try.call72,_,_,_,Go.Proofs.Try.func72,ZD3⟩,⟨⟨Go.Proofs.Try.call73,_,_,_,Go.Proofs.Try.func73,ZEd⟩,⟨⟨Go.Proofs.Try.call74,_,_,_,Go.Proofs.Try.func74,ZGW⟩,⟨⟨Go.Proofs.Try.call75,_,_,_,Go.Proofs.Try.func75,Zay⟩,⟨⟨Go.Proofs.Try.call76,_,_,_,Go.Proofs.Try.func76,Zcb⟩,⟨⟨Go.Proofs.Try.call77,_,_,_,Go.Proofs.Try.func77,ZYR⟩,⟨⟨Go.Proofs.Try.call78,_,_,_,Go.Proofs.Try.func78,Zcd⟩,⟨⟨Go.Proofs.Try.call79,_,_,_,Go.Proofs.Try.func79,ZIF⟩,⟨⟨Go.Proofs.Try.call80,_,_,_,Go.Proofs.Try.func80,ZYY⟩,⟨⟨Go.Proofs.Try.call81,_,_,_,Go.Proofs.Try.func81,ZN2⟩,⟨⟨Go.Proofs.Try.call82,_,_,_,Go.Proofs.Try.func82,ZYa⟩,⟨⟨Go.Proofs.Try.call83,_,_,_,Go.Proofs.Try.func83,ZYc⟩,⟨⟨Go.Proofs.Try.call84,_,_,_,Go.Proofs.Try.func84,Zd8⟩,⟨⟨Go.Proofs.Try.call85,_,_,_,Go.Proofs.Try.func85,ZJP⟩,⟨⟨Go.Proofs.Try.call86,_,_,_,Go.Proofs.Try.func86,ZN4⟩,⟨⟨Go.Proofs.Try.call87,_,_,_,Go.Proofs.Try.func87,ZD9⟩,⟨⟨Go.Proofs.Try.call88,_,_,_,Go.Proofs.Try.func88,ZIH⟩,⟨⟨Go.Proofs.Try.call89,_,_,_,Go.Proofs.Try.func89,ZMJ⟩,⟨⟨Go.Proofs.Try.call90,_,_,_,Go.Proofs.Try.func90,ZJX⟩,⟨⟨Go.Proofs.Try.call91,_,_,_,Go.Proofs.Try.func91,ZbA⟩,⟨⟨Go.Proofs.Try.call92,_,_,_,Go.Proofs.Try.func92,ZbC⟩,⟨⟨Go.Proofs.Try.call93,_,_,_,Go.Proofs.Try.func93,ZSx⟩,⟨⟨Go.Proofs.Try.call94,_,_,_,Go.Proofs.Try.func94,ZYf⟩,⟨⟨Go.Proofs.Try.call95,_,_,_,Go.Proofs.Try.func95,ZV7⟩,⟨⟨Go.Proofs.Try.call96,_,_,_,Go.Proofs.Try.func96,ZbE⟩,⟨⟨Go.Proofs.Try.call97,_,_,_,Go.Proofs.Try.func97,ZYh⟩,⟨⟨Go.Proofs.Try.call98,_,_,_,Go.Proofs.Try.func98,ZOD⟩,⟨⟨Go.Proofs.Try.call99,_,_,_,Go.Proofs.Try.func99,ZQQ⟩,⟨⟨Go.Proofs.Try.call100,_,_,_,Go.Proofs.Try.func100,ZWI⟩,⟨⟨Go.Proofs.Try.call101,_,_,_,Go.Proofs.Try.func101,ZTI⟩,⟨⟨Go.Proofs.Try.call102,_,_,_,Go.Proofs.Try.func102,ZQU⟩,⟨⟨Go.Proofs.Try.call103,_,_,_,Go.Proofs.Try.func103,ZTK⟩,⟨⟨Go.Proofs.Try.call104,_,_,_,Go.Proofs.Try.func104,ZTM⟩,⟨⟨Go.Proofs.Try.call105,_,_,_,Go.Proofs.Try.func105,ZMW⟩,⟨⟨Go.Proofs.Try.call106,_,_,_,Go.Proofs.Try.func106,ZLX⟩,⟨⟨Go.Proofs.Try.call107,_,_,_,Go.Proofs.Try.func107,ZLZ⟩,⟨⟨Go.Proofs.Try.call108,_,_,_,Go.Proofs.Try.func108,ZMY⟩,trivial⟩⟩⟩⟩⟩⟩⟩⟩⟩⟩⟩⟩⟩⟩⟩⟩⟩⟩⟩⟩⟩⟩⟩⟩⟩⟩⟩⟩⟩⟩⟩⟩⟩⟩⟩⟩⟩⟩⟩⟩⟩⟩⟩⟩⟩⟩⟩⟩⟩⟩⟩⟩⟩⟩⟩⟩⟩⟩⟩⟩⟩⟩⟩⟩⟩⟩⟩⟩⟩⟩⟩⟩⟩⟩⟩⟩⟩⟩⟩⟩⟩⟩⟩⟩⟩⟩⟩⟩⟩⟩⟩⟩⟩
end Go.Q15
