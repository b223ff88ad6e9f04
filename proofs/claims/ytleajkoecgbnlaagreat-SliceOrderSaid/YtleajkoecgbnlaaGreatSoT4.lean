/- Resolved code, printed by program. No condition. -/
import Derived.Test.YtleajkoecgbnlaaGreatProg
import Derived.KernelRfl
import Derived.Test.YtleajkoecgbnlaaGreatSoT3
set_option linter.unusedVariables false
set_option linter.unusedSimpArgs false
namespace Go.Q15
open Go Go.QAbs
set_option maxRecDepth 100000
abbrev Jt:FuncId:=4
abbrev YV:FuncId:=14
abbrev Qy:FuncId:=15
abbrev J6:FuncId:=16
abbrev Jd:FuncId:=17
abbrev Yf:FuncId:=18
abbrev ZBT:FuncId:=19
abbrev ZBU:FuncId:=21
abbrev Y3:FuncId:=23
abbrev YL:FuncId:=24
abbrev ZAm:FuncId:=25
abbrev Y4:FuncId:=26
abbrev ZJ5:FuncId:=27
abbrev Yq:FuncId:=35
abbrev ZCE:FuncId:=57
abbrev ZBV:FuncId:=58
abbrev XD:FuncId:=68
abbrev XE:FuncId:=69
abbrev Yr:FuncId:=70
abbrev J7:FuncId:=71
abbrev Ys:FuncId:=72
abbrev ZFs:FuncId:=73
abbrev XS:FuncId:=74
abbrev JA:FuncId:=75
abbrev ZAD:FuncId:=76
abbrev ZCX:FuncId:=77
abbrev J2:FuncId:=82
abbrev Zp:FuncId:=83
abbrev Qh:FuncId:=84
abbrev ZAn:FuncId:=85
abbrev ZAo:FuncId:=86
abbrev ZXD:FuncId:=89
abbrev YW:FuncId:=94
abbrev Jj:FuncId:=95
abbrev Qa:FuncId:=111
abbrev ZDX:FuncId:=116
abbrev ZBW:FuncId:=126
abbrev XT:FuncId:=127
abbrev ZBX:FuncId:=134
abbrev J8:FuncId:=135
abbrev YF:FuncId:=136
abbrev XL:FuncId:=137
abbrev Jl:FuncId:=138
abbrev Qb:FuncId:=139
abbrev Yg:FuncId:=140
abbrev Y5:FuncId:=141
abbrev ZAX:FuncId:=142
abbrev Jm:FuncId:=143
abbrev ZFt:FuncId:=144
abbrev ZCF:FuncId:=149
abbrev Z8:FuncId:=150
abbrev ZFu:FuncId:=155
abbrev Xz:FuncId:=156
abbrev Qi:FuncId:=157
abbrev X3:FuncId:=158
abbrev ZBY:FuncId:=159
abbrev YJ:FuncId:=164
abbrev Z3:FuncId:=179
abbrev ZFw:FuncId:=181
abbrev ZAp:FuncId:=182
abbrev Y6:FuncId:=185
abbrev Jz:FuncId:=186
abbrev ZCY:FuncId:=188
abbrev ZBZ:FuncId:=197
abbrev ZDY:FuncId:=198
abbrev QG:FuncId:=199
abbrev ZCZ:FuncId:=201
abbrev YG:FuncId:=203
abbrev ZAq:FuncId:=204
abbrev X4:FuncId:=205
abbrev Qe:FuncId:=206
abbrev ZAE:FuncId:=207
abbrev Yh:FuncId:=208
abbrev ZFx:FuncId:=213
abbrev ZBa:FuncId:=219
abbrev ZAY:FuncId:=220
abbrev XU:FuncId:=221
abbrev ZBb:FuncId:=222
abbrev ZAF:FuncId:=223
abbrev XV:FuncId:=225
abbrev XW:FuncId:=226
abbrev JZ:FuncId:=227
abbrev JB:FuncId:=228
abbrev XY:FuncId:=229
abbrev ZAG:FuncId:=240
abbrev ZDZ:FuncId:=241
abbrev ZCa:FuncId:=242
abbrev Jn:FuncId:=243
abbrev ZCb:FuncId:=245
abbrev ZCH:FuncId:=246
abbrev Yi:FuncId:=247
abbrev JQ:FuncId:=248
abbrev ZCc:FuncId:=254
abbrev ZBc:FuncId:=255
abbrev Y7:FuncId:=256
abbrev J9:FuncId:=257
abbrev ZDa:FuncId:=260
abbrev YY:FuncId:=261
abbrev ZBd:FuncId:=263
abbrev I (d:Nat) (o:PO):PI:=⟨some d,none,false,o⟩
abbrev G (d g:Nat) (b:Bool) (o:PO):PI:=⟨some d,some (g,b),false,o⟩
abbrev J (o:PO):PI:=⟨none,none,false,o⟩
abbrev C (f:FuncId) (a:List Opd):PO:=.call .norm (.v (.func (.func f) [] [])) a
abbrev H (k:List Nat):Hint:=⟨k,[],[],[],[],[]⟩
abbrev V (i:Int):Opd:=.v (.int .i64 i)
abbrev ZT:AV:=.agg [(.int .u64 0),(.int .i64 0),(.int .i64 0),(.int .i64 0),(.int .i64 0),(.str []),.nils]
abbrev ZR:AV:=.agg [(.int .u64 0),(.int .i64 0),(.int .i64 0),(.int .i64 0),(.int .i64 0)]
abbrev ZM:AV:=.agg [(.int .i64 0),(.int .i64 0),(.int .i64 0)]
abbrev ZN:AV:=.agg [(.int .i64 0),(.str []),.nils]
abbrev ZK:AV:=.agg [(.int .u64 0),(.int .i64 0),(.int .i64 0),(.int .i64 0)]
def ZCd:List Hint:=[H [0,1,2,3,4,5],H [0,1,2,3,4,5,33],H [12],H [2,3,4,5,13,14,15,16],H [2,3,4,5,13,14,15,44],H [12],H [2,3,4,5,13,14,15,47],H [12],H [4,5,13,14,15,17,18],H [4,5,13,14,15,17,18,19,20],H [4,5,13,14,15,17,18,19,20,21,22],H [4,5,13,14,15,17,109],H [12],H [4,5,13,14,15,17],H [4,5,15,17,20,23,24],H [4,5,15,17,23,24,130],H [12],H [5,23,24,25],H [5,23,24,25,140],H [12],H [12]]
def ZBe:PC :=
 (.reg [0,1,2,3,4,5] [I 12 (.mv (.v (.bool false)))])
def ZBf:PC :=
 (.reg [0,1,2,3,4,5,33] [I 26 (.mv (.s 0)),I 27 (.mv (.s 1)),I 28 (C YV [(.s 26),(.s 27)]),I 29 (.mv (.s 28)),G 30 29 false (.mv (.s 4)),G 31 29 false (.len 0 (.s 30)),G 32 29 false (.bin .gtr (.s 31) (V 100)),I 33 (.pick (.s 29) (.v (.bool true)) (.s 32))])
def ZBg:PC :=
 (.reg [12] [I 34 (C Qy []),I 12 (.mv (.s 34))])
def ZBh:PC :=
 (.reg [2,3,4,5,13,14,15,16] [I 36 (.mv (.s 0)),I 37 (.mv (.s 1)),I 38 (C J6 [(.s 36),(.s 37)]),I 35 (.mv (.s 38)),I 39 (.ext (.s 35) 0),I 40 (.ext (.s 35) 1),I 41 (.ext (.s 35) 2),I 42 (.ext (.s 35) 3),I 13 (.mv (.s 39)),I 14 (.mv (.s 40)),I 15 (.mv (.s 41)),I 16 (.mv (.s 42))])
def ZBi:PC :=
 (.reg [2,3,4,5,13,14,15,44] [I 43 (.mv (.s 16)),I 44 (.un .not (.s 43))])
def ZBj:PC :=
 (.reg [12] [I 12 (.mv (.v (.bool false)))])
def ZBk:PC :=
 (.reg [2,3,4,5,13,14,15,47] [I 45 (.mv (.s 14)),I 46 (.len 1 (.s 45)),I 47 (.bin .eql (.s 46) (V 0))])
def ZBl:PC :=
 (.reg [12] [I 48 (C Qy []),I 12 (.mv (.s 48))])
def ZBm:PC :=
 (.reg [4,5,13,14,15,17,18] [I 49 (.mv (.s 2)),I 50 (.mv (.s 14)),I 51 (.len 1 (.s 50)),I 52 (.bin .sub (.s 51) (V 1)),I 53 (C Jd [(.s 49),(.s 52)]),I 54 (.mv (.s 3)),I 55 (.mv (.s 14)),I 56 (.len 1 (.s 55)),I 57 (.bin .sub (.s 56) (V 1)),I 58 (C Jd [(.s 54),(.s 57)]),I 17 (.mv (.s 53)),I 18 (.mv (.s 58))])
def ZBn:PC :=
 (.reg [4,5,13,14,15,17,18,19,20] [I 60 (.mv (.s 13)),I 61 (.mv (.s 14)),I 62 (.mv (.s 17)),I 63 (.ixS 5 (.s 61) (.s 62)),I 64 (.ld true 5 (.s 63)),I 65 (.mv (.s 14)),I 66 (.mv (.s 18)),I 67 (.ixS 5 (.s 65) (.s 66)),I 68 (.ld true 5 (.s 67)),I 69 (C Y3 [(.s 60),(.s 64),(.s 68)]),I 59 (.mv (.s 69)),I 70 (.ext (.s 59) 0),I 71 (.ext (.s 59) 1),I 19 (.mv (.s 70)),I 20 (.mv (.s 71))])
def ZAr:PC :=
 (.reg [4,5,13,14,15,17,18,19,20,21,22] [I 73 (.mv (.s 13)),I 74 (.mv (.s 14)),I 75 (.mv (.s 18)),I 76 (.ixS 5 (.s 74) (.s 75)),I 77 (.ld true 5 (.s 76)),I 78 (.mv (.s 14)),I 79 (.mv (.s 17)),I 80 (.ixS 5 (.s 78) (.s 79)),I 81 (.ld true 5 (.s 80)),I 82 (C Y3 [(.s 73),(.s 77),(.s 81)]),I 72 (.mv (.s 82)),I 83 (.ext (.s 72) 0),I 84 (.ext (.s 72) 1),I 21 (.mv (.s 83)),I 22 (.mv (.s 84))])
def ZAs:PC :=
 (.reg [4,5,13,14,15,17,109] [I 85 (.mv (.s 20)),I 86 (.bin .neq (.s 85) (V 0)),I 87 (.mv (.s 86)),G 88 87 false (.mv (.s 22)),G 89 87 false (.bin .neq (.s 88) (V 0)),I 90 (.pick (.s 87) (.v (.bool true)) (.s 89)),I 91 (.mv (.s 90)),G 92 91 false (.mv (.s 19)),G 93 91 false (.mv (.s 15)),G 94 91 false (.mv (.s 17)),G 95 91 false (.ixS 1 (.s 93) (.s 94)),G 96 91 false (.ld false 1 (.s 95)),G 97 91 false (.mv (.s 15)),G 98 91 false (.mv (.s 18)),G 99 91 false (.ixS 1 (.s 97) (.s 98)),G 100 91 false (.ld false 1 (.s 99)),G 101 91 false (C YL [(.s 96),(.s 100)]),G 102 91 false (.bin .neq (.s 92) (.s 101)),I 103 (.pick (.s 91) (.v (.bool true)) (.s 102)),I 104 (.mv (.s 103)),G 105 104 false (.mv (.s 21)),G 106 104 false (.mv (.s 19)),G 107 104 false (.un .neg (.s 106)),G 108 104 false (.bin .neq (.s 105) (.s 107)),I 109 (.pick (.s 104) (.v (.bool true)) (.s 108))])
def ZAt:PC :=
 (.reg [12] [I 12 (.mv (.v (.bool false)))])
def ZAu:PC :=
 (.reg [4,5,13,14,15,17] [I 110 (.mv (.s 5)),I 111 (.mv (.s 15)),I 112 (.mv (.s 17)),I 113 (.ixS 1 (.s 111) (.s 112)),I 114 (.ld false 1 (.s 113)),I 115 (.len 0 (.s 114)),I 116 (C Jd [(.s 110),(.s 115)]),I 5 (.mv (.s 116))])
def ZAv:PC :=
 (.reg [4,5,15,17,20,23,24] [I 118 (.mv (.s 13)),I 119 (.mv (.s 14)),I 120 (.mv (.s 17)),I 121 (.ixS 5 (.s 119) (.s 120)),I 122 (.ld true 5 (.s 121)),I 123 (.mv (.s 4)),I 124 (.mv (.s 5)),I 125 (C ZAm [(.s 118),(.s 122),(.s 123),(.s 124)]),I 117 (.mv (.s 125)),I 126 (.ext (.s 117) 0),I 127 (.ext (.s 117) 1),I 128 (.ext (.s 117) 2),I 23 (.mv (.s 126)),I 24 (.mv (.s 127)),I 20 (.mv (.s 128))])
def ZAw:PC :=
 (.reg [4,5,15,17,23,24,130] [I 129 (.mv (.s 20)),I 130 (.bin .neq (.s 129) (V 0))])
def ZAx:PC :=
 (.reg [12] [I 12 (.mv (.v (.bool false)))])
def ZAy:PC :=
 (.reg [5,23,24,25] [I 131 (.mv (.s 15)),I 132 (.mv (.s 17)),I 133 (.ixS 1 (.s 131) (.s 132)),I 134 (.ld false 1 (.s 133)),I 135 (.mv (.s 5)),I 136 (.slcS (.s 134) (some (.s 135)) none),I 137 (.mv (.s 4)),I 138 (C Y4 [(.s 136),(.s 137)]),I 25 (.mv (.s 138))])
def ZAz:PC :=
 (.reg [5,23,24,25,140] [I 139 (.mv (.s 25)),I 140 (.bin .lss (.s 139) (V 0))])
def ZA0:PC :=
 (.reg [12] [I 141 (.mv (.s 24)),I 142 (.un .not (.s 141)),I 143 (.mv (.s 142)),G 144 143 true (.mv (.s 23)),G 145 143 true (.bin .eql (.s 144) (V 0)),I 146 (.pick (.s 143) (.s 145) (.v (.bool false))),I 147 (.mv (.s 146)),G 148 147 true (C Qy []),I 149 (.pick (.s 147) (.s 148) (.v (.bool false))),I 12 (.mv (.s 149))])
def ZA1:PC :=
 (.reg [12] [I 150 (.mv (.s 24)),I 151 (.mv (.s 150)),G 152 151 true (.mv (.s 23)),G 153 151 true (.mv (.s 5)),G 154 151 true (.mv (.s 25)),G 155 151 true (.bin .add (.s 153) (.s 154)),G 156 151 true (.bin .eql (.s 152) (.s 155)),I 157 (.pick (.s 151) (.s 156) (.v (.bool false))),I 158 (.mv (.s 157)),G 159 158 true (C Qy []),I 160 (.pick (.s 158) (.s 159) (.v (.bool false))),I 12 (.mv (.s 160))])
def Yx:PF:=⟨false,
 (.seq ZBe
 (.seq (.seq ZBf
 (.ite (.s 33)
 (.seq ZBg
 .ret)
 .skip))
 (.seq ZBh
 (.seq (.seq ZBi
 (.ite (.s 44)
 (.seq ZBj
 .ret)
 .skip))
 (.seq (.seq ZBk
 (.ite (.s 47)
 (.seq ZBl
 .ret)
 .skip))
 (.seq ZBm
 (.seq ZBn
 (.seq ZAr
 (.seq (.seq ZAs
 (.ite (.s 109)
 (.seq ZAt
 .ret)
 .skip))
 (.seq ZAu
 (.seq ZAv
 (.seq (.seq ZAw
 (.ite (.s 130)
 (.seq ZAx
 .ret)
 .skip))
 (.seq ZAy
 (.seq (.seq ZAz
 (.ite (.s 140)
 (.seq ZA0
 .ret)
 .skip))
 (.seq ZA1
 .ret))))))))))))))),
 [.s 12]⟩
theorem ZCe:Zs Proofs.Tryz.prog false ZCd Proofs.Tryz.f4=some Yx:=by kernel_rfl
def ZFz:List Hint:=[H [0,1],H [4]]
def ZDb:PC :=
 (.reg [0,1] [I 4 (.mv (.v (.bool false)))])
def ZDc:PC :=
 (.reg [4] [I 5 (.mv (.s 0)),I 6 (C XD [(.s 5)]),I 7 (.mv (.s 6)),G 8 7 false (.mv (.s 1)),G 9 7 false (C XE [(.s 8)]),I 10 (.pick (.s 7) (.v (.bool true)) (.s 9)),I 11 (.mv (.s 10)),G 12 11 false (.mv (.s 1)),G 13 11 false (.len 1 (.s 12)),G 14 11 false (.bin .gtr (.s 13) (V 12)),I 15 (.pick (.s 11) (.v (.bool true)) (.s 14)),I 4 (.mv (.s 15))])
def ZAM:PF:=⟨false,
 (.seq ZDb
 (.seq ZDc
 .ret)),
 [.s 4]⟩
theorem ZF0:Zs Proofs.Tryz.prog false ZFz Proofs.Tryz.f14=some ZAM:=by kernel_rfl
def ZHW:List Hint:=[H [],H [1,2,3],H [1,2,15],H [0],H [1,2,4,5],H [4,5,6,7,8],H [0]]
def ZEo:PC :=
 (.reg [] [I 0 (.mv (.v (.bool false)))])
def ZEp:PC :=
 (.reg [1,2,3] [I 10 (C Yr []),I 9 (.mv (.s 10)),I 11 (.ext (.s 9) 0),I 12 (.ext (.s 9) 1),I 13 (.ext (.s 9) 2),I 2 (.box (.v ZR)),I 1 (.mv (.s 11)),J (.st 5 (.s 2) (.s 12)),I 3 (.mv (.s 13))])
def ZEq:PC :=
 (.reg [1,2,15] [I 14 (.mv (.s 3)),I 15 (.un .not (.s 14))])
def ZEr:PC :=
 (.reg [0] [I 0 (.mv (.v (.bool false)))])
def ZEs:PC :=
 (.reg [1,2,4,5] [I 17 (.mv (.s 1)),I 18 (.ld true 5 (.s 2)),I 19 (C Yf [(.s 17),(.s 18),(V 7),(V 4)]),I 16 (.mv (.s 19)),I 20 (.ext (.s 16) 0),I 21 (.ext (.s 16) 1),I 4 (.mv (.s 20)),I 5 (.mv (.s 21))])
def ZEt:PC :=
 (.reg [4,5,6,7,8] [I 23 (.mv (.s 1)),I 24 (.ld true 5 (.s 2)),I 25 (C ZAm [(.s 23),(.s 24),(.v (.str [105,106])),(V 0)]),I 22 (.mv (.s 25)),I 26 (.ext (.s 22) 0),I 27 (.ext (.s 22) 1),I 28 (.ext (.s 22) 2),I 6 (.mv (.s 26)),I 7 (.mv (.s 27)),I 8 (.mv (.s 28))])
def ZEu:PC :=
 (.reg [0] [I 29 (.mv (.s 5)),I 30 (.bin .eql (.s 29) (V 0)),I 31 (.mv (.s 30)),G 32 31 true (.mv (.s 8)),G 33 31 true (.bin .eql (.s 32) (V 0)),I 34 (.pick (.s 31) (.s 33) (.v (.bool false))),I 35 (.mv (.s 34)),G 36 35 true (.mv (.s 4)),G 37 35 true (.bin .eql (.s 36) (.v (.str [104,105,106,107]))),I 38 (.pick (.s 35) (.s 37) (.v (.bool false))),I 39 (.mv (.s 38)),G 40 39 true (.mv (.s 6)),G 41 39 true (.bin .eql (.s 40) (V 8)),I 42 (.pick (.s 39) (.s 41) (.v (.bool false))),I 43 (.mv (.s 42)),G 44 43 true (.mv (.s 7)),I 45 (.pick (.s 43) (.s 44) (.v (.bool false))),I 0 (.mv (.s 45))])
def ZAa:PF:=⟨false,
 (.seq ZEo
 (.seq ZEp
 (.seq (.seq ZEq
 (.ite (.s 15)
 (.seq ZEr
 .ret)
 .skip))
 (.seq ZEs
 (.seq ZEt
 (.seq ZEu
 .ret)))))),
 [.s 0]⟩
theorem ZHX:Zs Proofs.Tryz.prog false ZHW Proofs.Tryz.f15=some ZAa:=by kernel_rfl
def ZIa:List Hint:=[H [0,1],H [0,1,8,9,10],H [0,1,8,9,26],H [4,5,6,7],H [1,8,9,11],H [1,8,9,11,12],H [1,8,9,11,12,33],H [1,8,9,11,12,13,14],H [1,8,9,11,12,13,48],H [4,5,6,7],H [1,8,9,11,12,13,15,16],H [1,8,9,11,12,13,15,58],H [4,5,6,7],H [1,8,9,11,12,15,16,17],H [1,8,9,11,12,15,16,17,69],H [1,8,9,11,12,15,17,71],H [4,5,6,7],H [1,8,9,11,12,15],H [1,8,9,11,12],H [1,8,9,11,12],H [4,5,6,7]]
def ZF1:PC :=
 (.reg [0,1] [I 4 (.mv (.v .nilptr)),I 5 (.mv (.v .nils)),I 6 (.mv (.v .nils)),I 7 (.mv (.v (.bool false)))])
def ZF2:PC :=
 (.reg [0,1,8,9,10] [I 20 (.mv (.s 0)),I 21 (C J7 [(.s 20)]),I 19 (.mv (.s 21)),I 22 (.ext (.s 19) 0),I 23 (.ext (.s 19) 1),I 24 (.ext (.s 19) 2),I 8 (.mv (.s 22)),I 9 (.mv (.s 23)),I 10 (.mv (.s 24))])
def ZF3:PC :=
 (.reg [0,1,8,9,26] [I 25 (.mv (.s 10)),I 26 (.un .not (.s 25))])
def ZF4:PC :=
 (.reg [4,5,6,7] [I 4 (.mv (.v .nilptr)),I 5 (.mv (.v .nils)),I 6 (.mv (.v .nils)),I 7 (.mv (.v (.bool false)))])
def ZF5:PC :=
 (.reg [1,8,9,11] [I 27 (.bslice false 1 [] []),I 28 (.mv (.s 0)),I 29 (.app 1 16 (.s 27) (.s 28)),I 11 (.mv (.s 29))])
def ZF6:PC :=
 (.reg [1,8,9,11,12] [I 12 (.mv (V 0))])
def ZF7:PC :=
 (.reg [1,8,9,11,12,33] [I 30 (.mv (.s 12)),I 31 (.mv (.s 1)),I 32 (.len 1 (.s 31)),I 33 (.bin .lss (.s 30) (.s 32))])
def ZF8:PC :=
 (.reg [1,8,9,11,12,13,14] [I 37 (.mv (.s 8)),I 38 (.mv (.s 9)),I 39 (.mv (.s 1)),I 40 (.mv (.s 12)),I 41 (.mv (.s 12)),I 42 (.bin .add (.s 41) (V 1)),I 43 (.slc 5 (.s 39) (some (.s 40)) (some (.s 42))),I 44 (C Ys [(.s 37),(.s 38),(.s 43)]),I 36 (.mv (.s 44)),I 45 (.ext (.s 36) 0),I 46 (.ext (.s 36) 1),I 13 (.mv (.s 45)),I 14 (.mv (.s 46))])
def ZF9:PC :=
 (.reg [1,8,9,11,12,13,48] [I 47 (.mv (.s 14)),I 48 (.un .not (.s 47))])
def ZGA:PC :=
 (.reg [4,5,6,7] [I 4 (.mv (.v .nilptr)),I 5 (.mv (.v .nils)),I 6 (.mv (.v .nils)),I 7 (.mv (.v (.bool false)))])
def ZEv:PC :=
 (.reg [1,8,9,11,12,13,15,16] [I 50 (.mv (.s 8)),I 51 (.mv (.s 13)),I 52 (.ixS 7 (.s 51) (V 0)),I 53 (.ld true 7 (.s 52)),I 54 (C ZFs [(.s 50),(.s 53)]),I 49 (.mv (.s 54)),I 55 (.ext (.s 49) 0),I 56 (.ext (.s 49) 1),I 15 (.mv (.s 55)),I 16 (.mv (.s 56))])
def ZEw:PC :=
 (.reg [1,8,9,11,12,13,15,58] [I 57 (.mv (.s 16)),I 58 (.bin .neq (.s 57) (V 0))])
def ZEx:PC :=
 (.reg [4,5,6,7] [I 4 (.mv (.v .nilptr)),I 5 (.mv (.v .nils)),I 6 (.mv (.v .nils)),I 7 (.mv (.v (.bool false)))])
def ZEy:PC :=
 (.reg [1,8,9,11,12,15,16,17] [I 60 (.mv (.s 8)),I 61 (.mv (.s 13)),I 62 (.ixS 7 (.s 61) (V 0)),I 63 (.ld true 7 (.s 62)),I 64 (C XS [(.s 60),(.s 63)]),I 59 (.mv (.s 64)),I 65 (.ext (.s 59) 0),I 66 (.ext (.s 59) 1),I 67 (.ext (.s 59) 2),I 17 (.box (.v ZR)),J (.st 5 (.s 17) (.s 65)),I 18 (.mv (.s 66)),I 16 (.mv (.s 67))])
def ZEz:PC :=
 (.reg [1,8,9,11,12,15,16,17,69] [I 68 (.mv (.s 16)),I 69 (.bin .eql (.s 68) (V 6))])
def ZE0:PC :=
 (.reg [1,8,9,11,12,15,17,71] [I 70 (.mv (.s 16)),I 71 (.bin .neq (.s 70) (V 0))])
def ZE1:PC :=
 (.reg [4,5,6,7] [I 4 (.mv (.v .nilptr)),I 5 (.mv (.v .nils)),I 6 (.mv (.v .nils)),I 7 (.mv (.v (.bool false)))])
def ZE2:PC :=
 (.reg [1,8,9,11,12,15] [I 72 (.mv (.s 9)),I 73 (.ld true 5 (.s 17)),I 74 (.bslice false 5 [ZR] [(0,(.s 73))]),I 75 (.app 5 40 (.s 72) (.s 74)),I 9 (.mv (.s 75))])
def ZE3:PC :=
 (.reg [1,8,9,11,12] [I 76 (.mv (.s 11)),I 77 (.mv (.s 15)),I 78 (.bslice false 1 [(.str [])] [(0,(.s 77))]),I 79 (.app 1 16 (.s 76) (.s 78)),I 11 (.mv (.s 79))])
def ZE4:PC :=
 (.reg [1,8,9,11,12] [I 34 (.mv (.s 12)),I 35 (.bin .add (.s 34) (V 1)),I 12 (.mv (.s 35))])
def ZE5:PC :=
 (.seq (.seq ZF7
 (.ite (.s 33)
 .skip
 (.exit 0)))
 (.seq (.block 1
 (.seq ZF8
 (.seq (.seq ZF9
 (.ite (.s 48)
 (.seq ZGA
 .ret)
 .skip))
 (.seq ZEv
 (.seq (.seq ZEw
 (.ite (.s 58)
 (.seq ZEx
 .ret)
 .skip))
 (.seq ZEy
 (.seq (.seq ZEz
 (.ite (.s 69)
 (.exit 1)
 .skip))
 (.seq (.seq ZE0
 (.ite (.s 71)
 (.seq ZE1
 .ret)
 .skip))
 (.seq ZE2
 ZE3)))))))))
 ZE4))
def ZE6:PC :=
 (.reg [4,5,6,7] [I 80 (.mv (.s 8)),I 81 (.mv (.s 9)),I 82 (.mv (.s 11)),I 4 (.mv (.s 80)),I 5 (.mv (.s 81)),I 6 (.mv (.s 82)),I 7 (.mv (.v (.bool true)))])
def XF:PF:=⟨true,
 (.seq ZF1
 (.seq ZF2
 (.seq (.seq ZF3
 (.ite (.s 26)
 (.seq ZF4
 .ret)
 .skip))
 (.seq ZF5
 (.seq (.seq ZF6
 (.block 0
 (.loop ZE5)))
 (.seq ZE6
 .ret)))))),
 [.s 4,.s 5,.s 6,.s 7]⟩
theorem ZIb:Zs Proofs.Tryz.prog true ZIa Proofs.Tryz.f16=some XF:=by kernel_rfl
def ZIc:List Hint:=[H [0,1],H [4]]
def ZGB:PC :=
 (.reg [0,1] [I 4 (.mv (V 0))])
def ZGC:PC :=
 (.reg [4] [I 5 (.mv (.s 0)),I 6 (.mv (.s 1)),I 7 (C JA [(.s 5),(.s 6)]),I 4 (.mv (.s 7))])
def ZBo:PF:=⟨false,
 (.seq ZGB
 (.seq ZGC
 .ret)),
 [.s 4]⟩
theorem ZId:Zs Proofs.Tryz.prog false ZIc Proofs.Tryz.f17=some ZBo:=by kernel_rfl
def Zas:List Hint:=[H [0,2,3,5],H [10,11],H [8,9]]
def ZTH:PC :=
 (.reg [0,2,3,5] [I 5 (.box (.s 1)),I 8 (.mv (.v (.str []))),I 9 (.mv (V 0))])
def ZTI:PC :=
 (.reg [10,11] [I 13 (.mv (.s 0)),I 14 (.ld true 5 (.s 5)),I 15 (.mv (.s 2)),I 16 (.mv (.s 3)),I 17 (C ZBT [(.s 13),(.s 14),(.s 15),(.s 16)]),I 12 (.mv (.s 17)),I 18 (.ext (.s 12) 0),I 19 (.ext (.s 12) 1),I 10 (.mv (.s 18)),I 11 (.mv (.s 19))])
def ZTJ:PC :=
 (.reg [8,9] [I 20 (.mv (.s 10)),I 21 (C ZBU [(.s 20),(.v (.str []))]),I 22 (.mv (.s 11)),I 8 (.mv (.s 21)),I 9 (.mv (.s 22))])
def ZJ7:PF:=⟨false,
 (.seq ZTH
 (.seq ZTI
 (.seq ZTJ
 .ret))),
 [.s 8,.s 9]⟩
theorem Zat:Zs Proofs.Tryz.prog false Zas Proofs.Tryz.f18=some ZJ7:=by kernel_rfl
def ZTK:List Hint:=[H [0,2,3,5,28,29],H [0,2,3,5,10,28,29],H [0,2,3,5,10,21,28,29],H [8,9],⟨[0,2,3,5,11,28,29],[0],[],[],[],[]⟩,H [0,2,3,5,11,12,28,29],H [11,12,27,28,29],H [11,12,13,29],H [11,12,13,14],H [11,12,13,14,31],H [11,12],H [11,12],H [8,9]]
def ZMn:PC :=
 (.reg [0,2,3,5,28,29] [I 5 (.box (.s 1)),I 8 (.mv (.v .nils)),I 9 (.mv (V 0))])
def ZMo:PC :=
 (.reg [0,2,3,5,10,28,29] [I 15 (.mv (.s 0)),I 16 (.ld true 5 (.s 5)),I 17 (.mv (.s 2)),I 18 (.mv (.s 3)),I 19 (C ZAD [(.s 15),(.s 16),(.s 17),(.s 18)]),I 10 (.mv (.s 19))])
def ZMp:PC :=
 (.reg [0,2,3,5,10,21,28,29] [I 20 (.mv (.s 10)),I 21 (.bin .neq (.s 20) (V 0))])
def ZMq:PC :=
 (.reg [8,9] [I 22 (.mv (.s 10)),I 8 (.mv (.v .nils)),I 9 (.mv (.s 22))])
def ZMr:PC :=
 (.reg [0,2,3,5,11,28,29] [I 11 (.boxnil 1)])
def ZMs:PC :=
 (.reg [0,2,3,5,11,12,28,29] [I 12 (.box (V 0)),J (.st 1 (.s 12) (V 0))])
def ZMt:PC :=
 (.reg [11,12,27,28,29] [I 23 (.mv (.s 0)),I 24 (.ld true 5 (.s 5)),I 25 (.mv (.s 2)),I 26 (.mv (.s 3)),I 27 (C ZCX [(.s 23),(.s 24),(.s 25),(.s 26)])])
def ZMu:PC :=
 (.reg [11,12,13,29] [I 13 (.mv (.s 28))])
def ZMv:PC :=
 (.reg [11,12,13,14] [I 14 (.mv (.s 29))])
def ZMw:PC :=
 (.reg [11,12,13,14,31] [I 30 (.mv (.s 14)),I 31 (.bin .neq (.s 30) (V 0))])
def ZJ8:PC :=
 (.reg [11,12] [I 32 (.mv (.s 14)),J (.st 1 (.s 11) (.v .nils)),J (.st 1 (.s 12) (.s 32))])
def ZJ9:PC :=
 (.reg [11,12] [I 33 (.ld false 1 (.s 11)),I 34 (.mv (.s 13)),I 35 (.bslice false 1 [(.str [])] [(0,(.s 34))]),I 36 (.app 1 16 (.s 33) (.s 35)),J (.st 1 (.s 11) (.s 36))])
def ZKA:PC :=
 (.reg [8,9] [I 37 (.ld false 1 (.s 11)),I 38 (.ld false 1 (.s 12)),I 8 (.mv (.s 37)),I 9 (.mv (.s 38))])
def p_slice_Pieces:RF:=⟨39,
 (.seq ZMn
 (.seq (.seq ZMo
 (.seq ZMp
 (.ite (.s 21)
 (.seq ZMq
 .ret)
 .skip)))
 (.seq ZMr
 (.seq ZMs
 (.seq .skip
 (.seq ZMt
 .skip)))))),
 ⟨(.s 27),[28,29],
 (.seq ZMu
 ZMv),
 (.block 1
 (.seq (.seq ZMw
 (.ite (.s 31)
 (.seq ZJ8
 (.exit 0))
 .skip))
 ZJ9))⟩,
 (.seq .skip
 (.seq ZKA
 .ret)),
 [.s 8,.s 9]⟩
theorem ZTL:ZMi Proofs.Tryz.prog ZTK Proofs.Tryz.f19=some p_slice_Pieces:=by kernel_rfl
def ZPW:List Hint:=[H [0,4,5],H [0,4,5,17,18,19],H [0,4,5,17,18,19,20],H [0,4,5,9,17,18,19],H [0,4,5,11,17,18,19],H [0,4,5,11,17,18,19,30],H [6,7],H [0,4,5,17,18,19],H [0,5,12,13],H [0,5,12,13,43],H [6,7],H [12,13,14],H [12,13,14,55],H [6,7],H [6,7]]
def ZKB:PC :=
 (.reg [0,4,5] [I 4 (.box (.s 1)),I 5 (.box (.s 2)),I 6 (.mv (V 0)),I 7 (.mv (V 0))])
def ZKC:PC :=
 (.reg [0,4,5,17,18,19] [I 15 (.ld true 5 (.s 4)),I 16 (.ld true 5 (.s 5)),I 17 (.bslice false 5 [ZR,ZR] [(0,(.s 15)),(1,(.s 16))]),I 18 (.len 1 (.s 17)),I 19 (.mv (V 0))])
def ZKD:PC :=
 (.reg [0,4,5,17,18,19,20] [I 20 (.bin .lss (.s 19) (.s 18))])
def ZKE:PC :=
 (.reg [0,4,5,9,17,18,19] [I 21 (.ixS 5 (.s 17) (.s 19)),I 22 (.ld true 5 (.s 21)),I 9 (.box (.v ZR)),J (.st 5 (.s 9) (.s 22))])
def ZKF:PC :=
 (.reg [0,4,5,11,17,18,19] [I 24 (.mv (.s 0)),I 25 (.ld true 5 (.s 9)),I 26 (C J2 [(.s 24),(.s 25)]),I 23 (.mv (.s 26)),I 27 (.ext (.s 23) 0),I 28 (.ext (.s 23) 1),I 10 (.box (.v ZT)),J (.st 7 (.s 10) (.s 27)),I 11 (.mv (.s 28))])
def ZKG:PC :=
 (.reg [0,4,5,11,17,18,19,30] [I 29 (.mv (.s 11)),I 30 (.bin .neq (.s 29) (V 0))])
def ZKH:PC :=
 (.reg [6,7] [I 31 (.mv (.s 11)),I 6 (.mv (V 0)),I 7 (.mv (.s 31))])
def ZKI:PC :=
 (.reg [0,4,5,17,18,19] [I 32 (.bin .add (.s 19) (V 1)),I 19 (.mv (.s 32))])
def ZKJ:PC :=
 (.seq ZKD
 (.seq (.ite (.s 20)
 .skip
 (.exit 0))
 (.seq (.block 1
 (.seq ZKE
 (.seq ZKF
 (.seq ZKG
 (.ite (.s 30)
 (.seq ZKH
 .ret)
 .skip)))))
 ZKI)))
def ZKK:PC :=
 (.reg [0,5,12,13] [I 34 (.mv (.s 0)),I 35 (.ld true 5 (.s 4)),I 36 (.fadr 2 (.s 4)),I 37 (.fadr 0 (.s 36)),I 38 (.ld false 1 (.s 37)),I 39 (C Yf [(.s 34),(.s 35),(V 0),(.s 38)]),I 33 (.mv (.s 39)),I 40 (.ext (.s 33) 0),I 41 (.ext (.s 33) 1),I 12 (.mv (.s 40)),I 13 (.mv (.s 41))])
def ZIe:PC :=
 (.reg [0,5,12,13,43] [I 42 (.mv (.s 13)),I 43 (.bin .neq (.s 42) (V 0))])
def ZIf:PC :=
 (.reg [6,7] [I 44 (.mv (.s 13)),I 6 (.mv (V 0)),I 7 (.mv (.s 44))])
def ZIg:PC :=
 (.reg [12,13,14] [I 46 (.mv (.s 0)),I 47 (.ld true 5 (.s 5)),I 48 (.fadr 2 (.s 5)),I 49 (.fadr 0 (.s 48)),I 50 (.ld false 1 (.s 49)),I 51 (C Yf [(.s 46),(.s 47),(V 0),(.s 50)]),I 45 (.mv (.s 51)),I 52 (.ext (.s 45) 0),I 53 (.ext (.s 45) 1),I 14 (.mv (.s 52)),I 13 (.mv (.s 53))])
def ZIh:PC :=
 (.reg [12,13,14,55] [I 54 (.mv (.s 13)),I 55 (.bin .neq (.s 54) (V 0))])
def ZIi:PC :=
 (.reg [6,7] [I 56 (.mv (.s 13)),I 6 (.mv (V 0)),I 7 (.mv (.s 56))])
def ZIj:PC :=
 (.reg [6,7] [I 57 (.mv (.s 12)),I 58 (.mv (.s 14)),I 59 (C YL [(.s 57),(.s 58)]),I 6 (.mv (.s 59)),I 7 (.mv (V 0))])
def ZEX:PF:=⟨false,
 (.seq ZKB
 (.seq (.seq ZKC
 (.block 0
 (.loop ZKJ)))
 (.seq ZKK
 (.seq (.seq ZIe
 (.ite (.s 43)
 (.seq ZIf
 .ret)
 .skip))
 (.seq ZIg
 (.seq (.seq ZIh
 (.ite (.s 55)
 (.seq ZIi
 .ret)
 .skip))
 (.seq ZIj
 .ret))))))),
 [.s 6,.s 7]⟩
theorem ZPX:Zs Proofs.Tryz.prog false ZPW Proofs.Tryz.f23=some ZEX:=by kernel_rfl
def ZKL:List Hint:=[H [0,1],H [4]]
def ZHY:PC :=
 (.reg [0,1] [I 4 (.mv (V 0))])
def ZHZ:PC :=
 (.reg [4] [I 5 (.mv (.s 0)),I 6 (.mv (.s 1)),I 7 (C Zp [(.s 5),(.s 6)]),I 4 (.mv (.s 7))])
def ZCI:PF:=⟨false,
 (.seq ZHY
 (.seq ZHZ
 .ret)),
 [.s 4]⟩
theorem ZKM:Zs Proofs.Tryz.prog false ZKL Proofs.Tryz.f24=some ZCI:=by kernel_rfl
def Zau:List Hint:=[H [0,2,3,5],H [0,2,3,5,11],H [0,2,3,5,11,20],H [8,9,10],H [2,3,12,13],H [2,3,12,13,35],H [8,9,10],H [3,14],H [3,14,41],H [8,9,10],H [8,9,10]]
def ZTM:PC :=
 (.reg [0,2,3,5] [I 5 (.box (.s 1)),I 8 (.mv (V 0)),I 9 (.mv (.v (.bool false))),I 10 (.mv (V 0))])
def ZTN:PC :=
 (.reg [0,2,3,5,11] [I 15 (.mv (.s 0)),I 16 (.ld true 5 (.s 5)),I 17 (.mv (.s 3)),I 18 (C ZAD [(.s 15),(.s 16),(.s 17),(V 0)]),I 11 (.mv (.s 18))])
def ZTO:PC :=
 (.reg [0,2,3,5,11,20] [I 19 (.mv (.s 11)),I 20 (.bin .neq (.s 19) (V 0))])
def ZTP:PC :=
 (.reg [8,9,10] [I 21 (.mv (.s 11)),I 8 (.mv (V 0)),I 9 (.mv (.v (.bool false))),I 10 (.mv (.s 21))])
def ZTQ:PC :=
 (.reg [2,3,12,13] [I 23 (.mv (.s 0)),I 24 (.ld true 5 (.s 5)),I 25 (.mv (.s 3)),I 26 (.fadr 2 (.s 5)),I 27 (.fadr 0 (.s 26)),I 28 (.ld false 1 (.s 27)),I 29 (.mv (.s 3)),I 30 (.bin .sub (.s 28) (.s 29)),I 31 (C Yf [(.s 23),(.s 24),(.s 25),(.s 30)]),I 22 (.mv (.s 31)),I 32 (.ext (.s 22) 0),I 33 (.ext (.s 22) 1),I 12 (.mv (.s 32)),I 13 (.mv (.s 33))])
def ZTR:PC :=
 (.reg [2,3,12,13,35] [I 34 (.mv (.s 13)),I 35 (.bin .neq (.s 34) (V 0))])
def ZTS:PC :=
 (.reg [8,9,10] [I 36 (.mv (.s 13)),I 8 (.mv (V 0)),I 9 (.mv (.v (.bool false))),I 10 (.mv (.s 36))])
def ZTT:PC :=
 (.reg [3,14] [I 37 (.mv (.s 12)),I 38 (.mv (.s 2)),I 39 (C Y4 [(.s 37),(.s 38)]),I 14 (.mv (.s 39))])
def ZTU:PC :=
 (.reg [3,14,41] [I 40 (.mv (.s 14)),I 41 (.bin .lss (.s 40) (V 0))])
def ZTV:PC :=
 (.reg [8,9,10] [I 8 (.mv (V 0)),I 9 (.mv (.v (.bool false))),I 10 (.mv (V 0))])
def ZPY:PC :=
 (.reg [8,9,10] [I 42 (.mv (.s 3)),I 43 (.mv (.s 14)),I 44 (.bin .add (.s 42) (.s 43)),I 8 (.mv (.s 44)),I 9 (.mv (.v (.bool true))),I 10 (.mv (V 0))])
def ZKN:PF:=⟨false,
 (.seq ZTM
 (.seq (.seq ZTN
 (.seq ZTO
 (.ite (.s 20)
 (.seq ZTP
 .ret)
 .skip)))
 (.seq ZTQ
 (.seq (.seq ZTR
 (.ite (.s 35)
 (.seq ZTS
 .ret)
 .skip))
 (.seq ZTT
 (.seq (.seq ZTU
 (.ite (.s 41)
 (.seq ZTV
 .ret)
 .skip))
 (.seq ZPY
 .ret))))))),
 [.s 8,.s 9,.s 10]⟩
theorem Zav:Zs Proofs.Tryz.prog false Zau Proofs.Tryz.f25=some ZKN:=by kernel_rfl
def ZPZ:List Hint:=[H [0,1],H [4]]
def ZKO:PC :=
 (.reg [0,1] [I 4 (.mv (V 0))])
def ZKP:PC :=
 (.reg [4] [I 5 (.mv (.s 0)),I 6 (.mv (.s 1)),I 7 (C Qh [(.s 5),(.s 6)]),I 4 (.mv (.s 7))])
def ZEY:PF:=⟨false,
 (.seq ZKO
 (.seq ZKP
 .ret)),
 [.s 4]⟩
theorem ZPa:Zs Proofs.Tryz.prog false ZPZ Proofs.Tryz.f26=some ZEY:=by kernel_rfl
def Zaw:List Hint:=[H [0,3,20],H [0,3,6,20],H [0,3,6,14,20],H [4,5],⟨[0,3,7,20],[0],[],[],[],[]⟩,H [0,3,7,8,20],H [7,8,19,20],H [7,8,9],H [7,8,9,25],H [7,9],H [7],H [4,5]]
def ZTW:PC :=
 (.reg [0,3,20] [I 3 (.box (.s 1)),I 4 (.mv (.v .nils)),I 5 (.mv (V 0))])
def ZTX:PC :=
 (.reg [0,3,6,20] [I 10 (.mv (.s 0)),I 11 (.ld true 5 (.s 3)),I 12 (C ZAn [(.s 10),(.s 11)]),I 6 (.mv (.s 12))])
def ZTY:PC :=
 (.reg [0,3,6,14,20] [I 13 (.mv (.s 6)),I 14 (.bin .neq (.s 13) (V 0))])
def ZTZ:PC :=
 (.reg [4,5] [I 15 (.mv (.s 6)),I 4 (.mv (.v .nils)),I 5 (.mv (.s 15))])
def ZTa:PC :=
 (.reg [0,3,7,20] [I 7 (.boxnil 1)])
def ZTb:PC :=
 (.reg [0,3,7,8,20] [I 16 (.mkmap),I 8 (.box (.v .nilmap)),J (.st 1 (.s 8) (.s 16))])
def ZTc:PC :=
 (.reg [7,8,19,20] [I 17 (.mv (.s 0)),I 18 (.ld true 5 (.s 3)),I 19 (C ZAo [(.s 17),(.s 18)])])
def ZTd:PC :=
 (.reg [7,8,9] [I 9 (.mv (.s 20))])
def ZTe:PC :=
 (.reg [7,8,9,25] [I 22 (.ld false 1 (.s 8)),I 23 (.mv (.s 9)),I 24 (.look 0 (.bool false) false (.s 22) (.s 23)),I 25 (.un .not (.s 24))])
def ZTf:PC :=
 (.reg [7,9] [I 26 (.ld false 1 (.s 8)),I 27 (.mv (.s 9)),J (.mupd 0 (.s 26) (.s 27) (.v (.bool true)))])
def ZPb:PC :=
 (.reg [7] [I 28 (.ld false 1 (.s 7)),I 29 (.mv (.s 9)),I 30 (.bslice false 1 [(.int .u64 0)] [(0,(.s 29))]),I 31 (.app 1 8 (.s 28) (.s 30)),J (.st 1 (.s 7) (.s 31))])
def ZPc:PC :=
 (.reg [4,5] [I 32 (.ld false 1 (.s 7)),I 4 (.mv (.s 32)),I 5 (.mv (V 0))])
def ZDd:RF:=⟨33,
 (.seq ZTW
 (.seq (.seq ZTX
 (.seq ZTY
 (.ite (.s 14)
 (.seq ZTZ
 .ret)
 .skip)))
 (.seq ZTa
 (.seq ZTb
 (.seq ZTc
 .skip))))),
 ⟨(.s 19),[20,21],
 ZTd,
 (.block 1
 (.seq ZTe
 (.ite (.s 25)
 (.seq ZTf
 ZPb)
 .skip)))⟩,
 (.seq .skip
 (.seq ZPc
 .ret)),
 [.s 4,.s 5]⟩
theorem Zax:ZMi Proofs.Tryz.prog Zaw Proofs.Tryz.f27=some ZDd:=by kernel_rfl
def ZHa:List Hint:=[H [0,2],H [0,2,4],H [2],⟨[2],[],[(8,.pure),(19,.pure)],[],[],[]⟩]
def ZE7:PC :=
 (.reg [0,2] [I 2 (.box (.v (.agg [(.int .i64 0),(.int .i64 0),(.int .i64 0),(.int .i64 0),(.int .i64 0),(.int .i64 0),(.int .i64 0)])))])
def ZE8:PC :=
 (.reg [0,2,4] [I 3 (.mv (.s 0)),I 4 (.eqs false 3 [] (.s 3) (.v .nilptr))])
def ZE9:PC :=
 (.reg [2] [I 5 (.build [(.int .i64 0),(.int .i64 0),(.int .i64 0),(.int .i64 0),(.int .i64 0),(.int .i64 0),(.int .i64 0)] []),J (.st 7 (.s 2) (.s 5))])
def ZFA:PC :=
 (.reg [2] [I 6 (.mv (.s 0)),I 7 (.nilck (.s 6)),I 8 (.fadr 0 (.s 7)),I 9 (.ld false 1 (.s 8)),I 10 (.mv (.s 0)),I 11 (.nilck (.s 10)),I 12 (.fadr 1 (.s 11)),I 13 (.ld false 1 (.s 12)),I 14 (.call .pure (.v (.func (.func YW) [] [])) [(.s 13)]),I 15 (.len 1 (.s 14)),I 16 (.mv (.s 0)),I 17 (.nilck (.s 16)),I 18 (.fadr 2 (.s 17)),I 19 (.ld false 1 (.s 18)),I 20 (.len 2 (.s 19)),I 21 (.mv (.s 0)),I 22 (.nilck (.s 21)),I 23 (.fadr 1 (.s 22)),I 24 (.ld false 1 (.s 23)),I 25 (.call .pure (.v (.func (.func Jj) [] [])) [(.s 24)]),I 26 (.len 1 (.s 25)),I 27 (.mv (.s 0)),I 28 (.nilck (.s 27)),I 29 (.fadr 3 (.s 28)),I 30 (.ld false 1 (.s 29)),I 31 (.mv (.s 0)),I 32 (.nilck (.s 31)),I 33 (.fadr 4 (.s 32)),I 34 (.ld false 1 (.s 33)),I 35 (.mv (.s 0)),I 36 (.nilck (.s 35)),I 37 (.fadr 5 (.s 36)),I 38 (.ld false 1 (.s 37)),I 39 (.build [(.int .i64 0),(.int .i64 0),(.int .i64 0),(.int .i64 0),(.int .i64 0),(.int .i64 0),(.int .i64 0)] [(0,1,(.s 9)),(1,1,(.s 15)),(2,1,(.s 20)),(3,1,(.s 26)),(4,1,(.s 30)),(5,1,(.s 34)),(6,1,(.s 38))]),J (.st 7 (.s 2) (.s 39))])
def ZAb:PF:=⟨false,
 (.seq ZE7
 (.seq (.seq ZE8
 (.ite (.s 4)
 (.seq ZE9
 .ret)
 .skip))
 (.seq ZFA
 .ret))),
 [.c 2 true 7]⟩
theorem ZHb:Zs Proofs.Tryz.prog false ZHa Proofs.Tryz.f35=some ZAb:=by kernel_rfl
def Zdf:List Hint:=[H [0,1],H [0,6,7],H [0,6,7,15],H [4,5],H [4,5]]
def ZXF:PC :=
 (.reg [0,1] [I 4 (.mv (.v .nilptr)),I 5 (.mv (V 0))])
def ZXG:PC :=
 (.reg [0,6,7] [I 9 (.mv (.s 0)),I 10 (.mv (.s 1)),I 11 (C ZBW [(.s 9),(.s 10)]),I 8 (.mv (.s 11)),I 12 (.ext (.s 8) 0),I 13 (.ext (.s 8) 1),I 6 (.mv (.s 12)),I 7 (.mv (.s 13))])
def ZXH:PC :=
 (.reg [0,6,7,15] [I 14 (.mv (.s 7)),I 15 (.bin .neq (.s 14) (V 0))])
def ZXI:PC :=
 (.reg [4,5] [I 16 (.mv (.s 7)),I 4 (.mv (.v .nilptr)),I 5 (.mv (.s 16))])
def ZXJ:PC :=
 (.reg [4,5] [I 17 (.mv (.s 0)),I 18 (.mv (.s 6)),I 19 (.mkmap),I 20 (.build [(.int .i64 0),.nilptr,.nilmap,(.int .i64 0),(.int .i64 0),(.int .i64 0)] [(0,1,(.s 17)),(1,1,(.s 18)),(2,1,(.s 19))]),I 21 (.box (.s 20)),I 4 (.mv (.s 21)),I 5 (.mv (V 0))])
def ZPA:PF:=⟨true,
 (.seq ZXF
 (.seq ZXG
 (.seq (.seq ZXH
 (.ite (.s 15)
 (.seq ZXI
 .ret)
 .skip))
 (.seq ZXJ
 .ret)))),
 [.s 4,.s 5]⟩
theorem Zdg:Zs Proofs.Tryz.prog true Zdf Proofs.Tryz.f57=some ZPA:=by kernel_rfl
def ZfN:List Hint:=[H [0,1,4],H [0,1,4,11],H [4,5],H [0,4,6,7],H [0,4,6,7,19],H [4,5],H [4,7,8],H [4,5]]
def Zay:PC :=
 (.reg [0,1,4] [I 4 (.box (.v ZR)),I 5 (.mv (V 0))])
def Zaz:PC :=
 (.reg [0,1,4,11] [I 10 (.mv (.s 0)),I 11 (.eqs false 3 [] (.s 10) (.v .nilptr))])
def Za0:PC :=
 (.reg [4,5] [I 12 (.build [(.int .u64 0),(.int .i64 0),(.int .i64 0),(.int .i64 0),(.int .i64 0)] []),J (.st 5 (.s 4) (.s 12)),I 5 (.mv (V 1))])
def Za1:PC :=
 (.reg [0,4,6,7] [I 14 (.mv (.s 1)),I 15 (C XT [(.s 14)]),I 13 (.mv (.s 15)),I 16 (.ext (.s 13) 0),I 17 (.ext (.s 13) 1),I 6 (.box (.v ZT)),J (.st 7 (.s 6) (.s 16)),I 7 (.mv (.s 17))])
def Za2:PC :=
 (.reg [0,4,6,7,19] [I 18 (.mv (.s 7)),I 19 (.bin .neq (.s 18) (V 0))])
def Za3:PC :=
 (.reg [4,5] [I 20 (.build [(.int .u64 0),(.int .i64 0),(.int .i64 0),(.int .i64 0),(.int .i64 0)] []),I 21 (.mv (.s 7)),J (.st 5 (.s 4) (.s 20)),I 5 (.mv (.s 21))])
def Za4:PC :=
 (.reg [4,7,8] [I 23 (.mv (.s 0)),I 24 (.ld true 7 (.s 6)),I 25 (C XS [(.s 23),(.s 24)]),I 22 (.mv (.s 25)),I 26 (.ext (.s 22) 0),I 27 (.ext (.s 22) 1),I 28 (.ext (.s 22) 2),I 8 (.box (.v ZR)),J (.st 5 (.s 8) (.s 26)),I 9 (.mv (.s 27)),I 7 (.mv (.s 28))])
def Za5:PC :=
 (.reg [4,5] [I 29 (.ld true 5 (.s 8)),I 30 (.mv (.s 7)),J (.st 5 (.s 4) (.s 29)),I 5 (.mv (.s 30))])
def ZTg:PF:=⟨false,
 (.seq Zay
 (.seq (.seq Zaz
 (.ite (.s 11)
 (.seq Za0
 .ret)
 .skip))
 (.seq Za1
 (.seq (.seq Za2
 (.ite (.s 19)
 (.seq Za3
 .ret)
 .skip))
 (.seq Za4
 (.seq Za5
 .ret)))))),
 [.c 4 true 5,.s 5]⟩
theorem ZfO:Zs Proofs.Tryz.prog false ZfN Proofs.Tryz.f58=some ZTg:=by kernel_rfl
def ZIk:List Hint:=[H [0],H [0,3],H [0,3,4],H [0,3,4,12],H [0,3,4],H [0,3,4],H [2]]
def ZGD:PC :=
 (.reg [0] [I 2 (.mv (.v (.bool false)))])
def ZGE:PC :=
 (.reg [0,3] [I 3 (.mv (V 0))])
def ZGF:PC :=
 (.reg [0,3,4] [I 4 (.mv (V 0))])
def ZGG:PC :=
 (.reg [0,3,4,12] [I 5 (.mv (.s 4)),I 6 (.mv (.s 0)),I 7 (.len 1 (.s 6)),I 8 (.bin .lss (.s 5) (.s 7)),I 9 (.mv (.s 8)),G 10 9 true (.mv (.s 3)),G 11 9 true (.bin .leq (.s 10) (V 900)),I 12 (.pick (.s 9) (.s 11) (.v (.bool false)))])
def ZGH:PC :=
 (.reg [0,3,4] [I 15 (.mv (.s 3)),I 16 (.mv (.s 0)),I 17 (.mv (.s 4)),I 18 (.ixS 1 (.s 16) (.s 17)),I 19 (.ld false 1 (.s 18)),I 20 (.len 0 (.s 19)),I 21 (.mnx false (.s 20) (V 1000)),I 22 (.bin .add (.s 15) (.s 21)),I 3 (.mv (.s 22))])
def ZGI:PC :=
 (.reg [0,3,4] [I 13 (.mv (.s 4)),I 14 (.bin .add (.s 13) (V 1)),I 4 (.mv (.s 14))])
def ZGJ:PC :=
 (.seq (.seq ZGG
 (.ite (.s 12)
 .skip
 (.exit 0)))
 (.seq (.block 1
 ZGH)
 ZGI))
def ZGK:PC :=
 (.reg [2] [I 23 (.mv (.s 0)),I 24 (.len 1 (.s 23)),I 25 (.bin .gtr (.s 24) (V 4)),I 26 (.mv (.s 25)),G 27 26 false (.mv (.s 3)),G 28 26 false (.bin .gtr (.s 27) (V 900)),I 29 (.pick (.s 26) (.v (.bool true)) (.s 28)),I 2 (.mv (.s 29))])
def ZBp:PF:=⟨false,
 (.seq ZGD
 (.seq ZGE
 (.seq (.seq ZGF
 (.block 0
 (.loop ZGJ)))
 (.seq ZGK
 .ret)))),
 [.s 2]⟩
theorem ZIl:Zs Proofs.Tryz.prog false ZIk Proofs.Tryz.f68=some ZBp:=by kernel_rfl
def ZIm:List Hint:=[H [0],H [0,3],H [0,3,11],H [0,3,20],H [2],H [0,3],H [2]]
def ZGL:PC :=
 (.reg [0] [I 2 (.mv (.v (.bool false)))])
def ZGM:PC :=
 (.reg [0,3] [I 3 (.mv (V 0))])
def ZGN:PC :=
 (.reg [0,3,11] [I 4 (.mv (.s 3)),I 5 (.mv (.s 0)),I 6 (.len 1 (.s 5)),I 7 (.bin .lss (.s 4) (.s 6)),I 8 (.mv (.s 7)),G 9 8 true (.mv (.s 3)),G 10 8 true (.bin .lss (.s 9) (V 100)),I 11 (.pick (.s 8) (.s 10) (.v (.bool false)))])
def ZGO:PC :=
 (.reg [0,3,20] [I 14 (.mv (.s 0)),I 15 (.mv (.s 3)),I 16 (.ixS 5 (.s 14) (.s 15)),I 17 (.fadr 4 (.s 16)),I 18 (.ld false 1 (.s 17)),I 19 (.len 0 (.s 18)),I 20 (.bin .gtr (.s 19) (V 200))])
def ZGP:PC :=
 (.reg [2] [I 2 (.mv (.v (.bool true)))])
def ZGQ:PC :=
 (.reg [0,3] [I 12 (.mv (.s 3)),I 13 (.bin .add (.s 12) (V 1)),I 3 (.mv (.s 13))])
def ZGR:PC :=
 (.seq (.seq ZGN
 (.ite (.s 11)
 .skip
 (.exit 0)))
 (.seq (.block 1
 (.seq ZGO
 (.ite (.s 20)
 (.seq ZGP
 .ret)
 .skip)))
 ZGQ))
def ZGS:PC :=
 (.reg [2] [I 21 (.mv (.s 0)),I 22 (.len 1 (.s 21)),I 23 (.bin .gtr (.s 22) (V 60)),I 2 (.mv (.s 23))])
def ZBq:PF:=⟨false,
 (.seq ZGL
 (.seq (.seq ZGM
 (.block 0
 (.loop ZGR)))
 (.seq ZGS
 .ret))),
 [.s 2]⟩
theorem ZIn:Zs Proofs.Tryz.prog false ZIm Proofs.Tryz.f69=some ZBq:=by kernel_rfl
def ZHc:List Hint:=[H [1],H [1,3,4],H [1,3,15],H [0,1,2],H [1,3,4,5],⟨[0,1,2],[],[],[],[(6,(.hide [(.s 1)])),(10,(.plain (.s 1)))],[]⟩]
def ZFB:PC :=
 (.reg [1] [I 0 (.mv (.v .nilptr)),I 1 (.box (.v ZR)),I 2 (.mv (.v (.bool false)))])
def ZFC:PC :=
 (.reg [1,3,4] [I 7 (C ZCE [(V 8),(.v (.int .u64 4))]),I 6 (.mv (.s 7)),I 8 (.ext (.s 6) 0),I 9 (.ext (.s 6) 1),I 3 (.mv (.s 8)),I 4 (.mv (.s 9))])
def ZFD:PC :=
 (.reg [1,3,15] [I 10 (.mv (.s 3)),I 11 (.eqs false 3 [] (.s 10) (.v .nilptr)),I 12 (.mv (.s 11)),G 13 12 false (.mv (.s 4)),G 14 12 false (.bin .neq (.s 13) (V 0)),I 15 (.pick (.s 12) (.v (.bool true)) (.s 14))])
def ZFE:PC :=
 (.reg [0,1,2] [I 16 (.build [(.int .u64 0),(.int .i64 0),(.int .i64 0),(.int .i64 0),(.int .i64 0)] []),I 0 (.mv (.v .nilptr)),J (.st 5 (.s 1) (.s 16)),I 2 (.mv (.v (.bool false)))])
def ZFF:PC :=
 (.reg [1,3,4,5] [I 18 (.mv (.s 3)),I 19 (C ZBV [(.s 18),(.v (.str [97,98,99,100,101,102,103,104,105,106,107,108,109,110,111,112,113]))]),I 17 (.mv (.s 19)),I 20 (.ext (.s 17) 0),I 21 (.ext (.s 17) 1),I 5 (.box (.v ZR)),J (.st 5 (.s 5) (.s 20)),I 4 (.mv (.s 21))])
def ZFG:PC :=
 (.reg [0,1,2] [I 22 (.mv (.s 3)),I 23 (.ld true 5 (.s 5)),I 24 (.mv (.s 4)),I 25 (.bin .eql (.s 24) (V 0)),I 26 (.mv (.s 25)),G 27 26 true (.fadr 0 (.s 5)),G 28 26 true (.w (.hide [(.s 1)]) (.ld false 1 (.s 27))),G 29 26 true (.bin .eql (.s 28) (.v (.int .u64 65538))),I 30 (.pick (.s 26) (.s 29) (.v (.bool false))),I 0 (.mv (.s 22)),J (.w (.plain (.s 1)) (.st 5 (.s 1) (.s 23))),I 2 (.mv (.s 30))])
def ZAc:PF:=⟨true,
 (.seq ZFB
 (.seq ZFC
 (.seq (.seq ZFD
 (.ite (.s 15)
 (.seq ZFE
 .ret)
 .skip))
 (.seq ZFF
 (.seq ZFG
 .ret))))),
 [.s 0,.c 1 true 5,.s 2]⟩
theorem ZHd:Zs Proofs.Tryz.prog true ZHc Proofs.Tryz.f70=some ZAc:=by kernel_rfl
def ZIo:List Hint:=[H [0],H [0,5,6],H [0,5,20],H [2,3,4],⟨[0,5,7],[0],[],[],[],[]⟩,H [0,5,7,8],H [0,5,7,8,24],H [0,5,7,8,9,10],H [0,5,7,8,9,37],H [2,3,4],H [0,5,7,8],H [0,5,7,8],H [2,3,4]]
def ZGT:PC :=
 (.reg [0] [I 2 (.mv (.v .nilptr)),I 3 (.mv (.v .nils)),I 4 (.mv (.v (.bool false)))])
def ZGU:PC :=
 (.reg [0,5,6] [I 12 (C ZCE [(V 1500),(.v (.int .u64 3))]),I 11 (.mv (.s 12)),I 13 (.ext (.s 11) 0),I 14 (.ext (.s 11) 1),I 5 (.mv (.s 13)),I 6 (.mv (.s 14))])
def ZGV:PC :=
 (.reg [0,5,20] [I 15 (.mv (.s 5)),I 16 (.eqs false 3 [] (.s 15) (.v .nilptr)),I 17 (.mv (.s 16)),G 18 17 false (.mv (.s 6)),G 19 17 false (.bin .neq (.s 18) (V 0)),I 20 (.pick (.s 17) (.v (.bool true)) (.s 19))])
def ZGW:PC :=
 (.reg [2,3,4] [I 2 (.mv (.v .nilptr)),I 3 (.mv (.v .nils)),I 4 (.mv (.v (.bool false)))])
def ZGX:PC :=
 (.reg [0,5,7] [I 7 (.onil 5)])
def ZGY:PC :=
 (.reg [0,5,7,8] [I 8 (.mv (V 0))])
def ZGZ:PC :=
 (.reg [0,5,7,8,24] [I 21 (.mv (.s 8)),I 22 (.mv (.s 0)),I 23 (.len 1 (.s 22)),I 24 (.bin .lss (.s 21) (.s 23))])
def ZGa:PC :=
 (.reg [0,5,7,8,9,10] [I 28 (.mv (.s 5)),I 29 (.mv (.s 0)),I 30 (.mv (.s 8)),I 31 (.ixS 1 (.s 29) (.s 30)),I 32 (.ld false 1 (.s 31)),I 33 (C ZBV [(.s 28),(.s 32)]),I 27 (.mv (.s 33)),I 34 (.ext (.s 27) 0),I 35 (.ext (.s 27) 1),I 9 (.box (.v ZR)),J (.st 5 (.s 9) (.s 34)),I 10 (.mv (.s 35))])
def ZGb:PC :=
 (.reg [0,5,7,8,9,37] [I 36 (.mv (.s 10)),I 37 (.bin .neq (.s 36) (V 0))])
def ZGc:PC :=
 (.reg [2,3,4] [I 2 (.mv (.v .nilptr)),I 3 (.mv (.v .nils)),I 4 (.mv (.v (.bool false)))])
def ZFH:PC :=
 (.reg [0,5,7,8] [I 38 (.mv (.s 7)),I 39 (.ld true 5 (.s 9)),I 40 (.bslice false 5 [ZR] [(0,(.s 39))]),I 41 (.app 5 40 (.s 38) (.s 40)),I 7 (.mv (.s 41))])
def ZFI:PC :=
 (.reg [0,5,7,8] [I 25 (.mv (.s 8)),I 26 (.bin .add (.s 25) (V 1)),I 8 (.mv (.s 26))])
def ZFJ:PC :=
 (.seq (.seq ZGZ
 (.ite (.s 24)
 .skip
 (.exit 0)))
 (.seq (.block 1
 (.seq ZGa
 (.seq (.seq ZGb
 (.ite (.s 37)
 (.seq ZGc
 .ret)
 .skip))
 ZFH)))
 ZFI))
def ZFK:PC :=
 (.reg [2,3,4] [I 42 (.mv (.s 5)),I 43 (.mv (.s 7)),I 2 (.mv (.s 42)),I 3 (.mv (.s 43)),I 4 (.mv (.v (.bool true)))])
def ZBr:PF:=⟨true,
 (.seq ZGT
 (.seq ZGU
 (.seq (.seq ZGV
 (.ite (.s 20)
 (.seq ZGW
 .ret)
 .skip))
 (.seq ZGX
 (.seq (.seq ZGY
 (.block 0
 (.loop ZFJ)))
 (.seq ZFK
 .ret)))))),
 [.s 2,.s 3,.s 4]⟩
theorem ZIp:Zs Proofs.Tryz.prog true ZIo Proofs.Tryz.f71=some ZBr:=by kernel_rfl
def ZHe:List Hint:=[H [0,1,2],⟨[0,1,2,8],[0],[],[],[],[]⟩,H [0,1,2,8,9],H [0,1,2,8,9,19],H [0,1,2,8,9,24],H [0,1,2,8,9,10,11],H [0,1,2,8,9,10,35],H [6,7],H [0,1,2,8,9],H [0,1,2,8,9,12],H [0,1,2,8,9,12,13,14],H [0,1,2,8,9,12,13,59],H [6,7],H [0,1,2,8,9,12,13,15],⟨[0,1,2,8,9,13,14],[],[(13,.pure)],[],[],[]⟩,H [0,1,2,8,9,13,93],H [6,7],H [0,1,2,8,9],H [0,1,2,8,9],H [6,7]]
def ZFL:PC :=
 (.reg [0,1,2] [I 6 (.mv (.v .nils)),I 7 (.mv (.v (.bool false)))])
def ZFM:PC :=
 (.reg [0,1,2,8] [I 8 (.onil 7)])
def ZFN:PC :=
 (.reg [0,1,2,8,9] [I 9 (.mv (V 0))])
def ZFO:PC :=
 (.reg [0,1,2,8,9,19] [I 16 (.mv (.s 9)),I 17 (.mv (.s 2)),I 18 (.len 1 (.s 17)),I 19 (.bin .lss (.s 16) (.s 18))])
def ZFP:PC :=
 (.reg [0,1,2,8,9,24] [I 22 (.mv (.s 1)),I 23 (.len 1 (.s 22)),I 24 (.bin .eql (.s 23) (V 0))])
def ZFQ:PC :=
 (.reg [0,1,2,8,9,10,11] [I 26 (.mv (.s 2)),I 27 (.mv (.s 9)),I 28 (.ixS 5 (.s 26) (.s 27)),I 29 (.fadr 4 (.s 28)),I 30 (.ld false 1 (.s 29)),I 31 (C XT [(.s 30)]),I 25 (.mv (.s 31)),I 32 (.ext (.s 25) 0),I 33 (.ext (.s 25) 1),I 10 (.box (.v ZT)),J (.st 7 (.s 10) (.s 32)),I 11 (.mv (.s 33))])
def ZFR:PC :=
 (.reg [0,1,2,8,9,10,35] [I 34 (.mv (.s 11)),I 35 (.bin .neq (.s 34) (V 0))])
def ZFS:PC :=
 (.reg [6,7] [I 6 (.mv (.v .nils)),I 7 (.mv (.v (.bool false)))])
def ZFT:PC :=
 (.reg [0,1,2,8,9] [I 36 (.mv (.s 8)),I 37 (.ld true 7 (.s 10)),I 38 (.bslice false 7 [ZT] [(0,(.s 37))]),I 39 (.app 7 80 (.s 36) (.s 38)),I 8 (.mv (.s 39))])
def ZFU:PC :=
 (.reg [0,1,2,8,9,12] [I 40 (.mv (.s 1)),I 41 (.mv (.s 2)),I 42 (.mv (.s 9)),I 43 (.ixS 5 (.s 41) (.s 42)),I 44 (.fadr 1 (.s 43)),I 45 (.ld false 1 (.s 44)),I 46 (.mv (.s 1)),I 47 (.len 1 (.s 46)),I 48 (.bin .sub (.s 47) (V 1)),I 49 (C JA [(.s 45),(.s 48)]),I 50 (.ixS 5 (.s 40) (.s 49)),I 51 (.ld true 5 (.s 50)),I 12 (.box (.v ZR)),J (.st 5 (.s 12) (.s 51))])
def ZDe:PC :=
 (.reg [0,1,2,8,9,12,13,14] [I 53 (.mv (.s 0)),I 54 (.ld true 5 (.s 12)),I 55 (C J2 [(.s 53),(.s 54)]),I 52 (.mv (.s 55)),I 56 (.ext (.s 52) 0),I 57 (.ext (.s 52) 1),I 13 (.box (.v ZT)),J (.st 7 (.s 13) (.s 56)),I 14 (.mv (.s 57))])
def ZDf:PC :=
 (.reg [0,1,2,8,9,12,13,59] [I 58 (.mv (.s 14)),I 59 (.bin .neq (.s 58) (V 0))])
def ZDg:PC :=
 (.reg [6,7] [I 6 (.mv (.v .nils)),I 7 (.mv (.v (.bool false)))])
def ZDh:PC :=
 (.reg [0,1,2,8,9,12,13,15] [I 60 (.mv (.s 2)),I 61 (.mv (.s 9)),I 62 (.ixS 5 (.s 60) (.s 61)),I 63 (.fadr 2 (.s 62)),I 64 (.ld false 1 (.s 63)),I 65 (.fadr 2 (.s 12)),I 66 (.fadr 0 (.s 65)),I 67 (.ld false 1 (.s 66)),I 68 (C JA [(.s 64),(.s 67)]),I 15 (.mv (.s 68))])
def ZDi:PC :=
 (.reg [0,1,2,8,9,13,14] [I 70 (.mv (.s 0)),I 71 (.ld true 7 (.s 13)),I 72 (.mv (.s 15)),I 73 (.mv (.s 2)),I 74 (.mv (.s 9)),I 75 (.ixS 5 (.s 73) (.s 74)),I 76 (.fadr 3 (.s 75)),I 77 (.ld false 1 (.s 76)),I 78 (.fadr 2 (.s 12)),I 79 (.fadr 0 (.s 78)),I 80 (.ld false 1 (.s 79)),I 81 (.mv (.s 15)),I 82 (.bin .sub (.s 80) (.s 81)),I 83 (.call .pure (.v (.func (.func JA) [] [])) [(.s 77),(.s 82)]),I 84 (.mv (.s 2)),I 85 (.mv (.s 9)),I 86 (.ixS 5 (.s 84) (.s 85)),I 87 (.fadr 4 (.s 86)),I 88 (.ld false 1 (.s 87)),I 89 (C ZBX [(.s 70),(.s 71),(.s 72),(.s 83),(.s 88)]),I 69 (.mv (.s 89)),I 90 (.ext (.s 69) 0),I 91 (.ext (.s 69) 1),J (.st 7 (.s 13) (.s 90)),I 14 (.mv (.s 91))])
def ZDj:PC :=
 (.reg [0,1,2,8,9,13,93] [I 92 (.mv (.s 14)),I 93 (.bin .neq (.s 92) (V 0))])
def ZDk:PC :=
 (.reg [6,7] [I 6 (.mv (.v .nils)),I 7 (.mv (.v (.bool false)))])
def ZDl:PC :=
 (.reg [0,1,2,8,9] [I 94 (.mv (.s 8)),I 95 (.ld true 7 (.s 13)),I 96 (.bslice false 7 [ZT] [(0,(.s 95))]),I 97 (.app 7 80 (.s 94) (.s 96)),I 8 (.mv (.s 97))])
def ZDm:PC :=
 (.reg [0,1,2,8,9] [I 20 (.mv (.s 9)),I 21 (.bin .add (.s 20) (V 1)),I 9 (.mv (.s 21))])
def ZDn:PC :=
 (.seq (.seq ZFO
 (.ite (.s 19)
 .skip
 (.exit 0)))
 (.seq (.block 1
 (.seq (.seq ZFP
 (.ite (.s 24)
 (.seq ZFQ
 (.seq (.seq ZFR
 (.ite (.s 35)
 (.seq ZFS
 .ret)
 .skip))
 (.seq ZFT
 (.exit 1))))
 .skip))
 (.seq ZFU
 (.seq ZDe
 (.seq (.seq ZDf
 (.ite (.s 59)
 (.seq ZDg
 .ret)
 .skip))
 (.seq ZDh
 (.seq ZDi
 (.seq (.seq ZDj
 (.ite (.s 93)
 (.seq ZDk
 .ret)
 .skip))
 ZDl))))))))
 ZDm))
def ZDo:PC :=
 (.reg [6,7] [I 98 (.mv (.s 8)),I 6 (.mv (.s 98)),I 7 (.mv (.v (.bool true)))])
def ZAd:PF:=⟨false,
 (.seq ZFL
 (.seq ZFM
 (.seq (.seq ZFN
 (.block 0
 (.loop ZDn)))
 (.seq ZDo
 .ret)))),
 [.s 6,.s 7]⟩
theorem ZHf:Zs Proofs.Tryz.prog false ZHe Proofs.Tryz.f72=some ZAd:=by kernel_rfl
def Zdh:List Hint:=[H [2,3],H [2,3,6],H [2,3,6,14],H [4,5],⟨[2,3,7],[0],[],[],[],[]⟩,H [2,3,7,8],H [3,7,8],H [3,7,8,19],H [4,5],H [7,9],H [7,9,24],H [4,5],H [4,5]]
def ZXK:PC :=
 (.reg [2,3] [I 2 (.box (.s 0)),I 3 (.box (.s 1)),I 4 (.mv (.v (.str []))),I 5 (.mv (V 0))])
def ZXL:PC :=
 (.reg [2,3,6] [I 10 (.ld false 1 (.s 2)),I 11 (.ld true 7 (.s 3)),I 12 (C J8 [(.s 10),(.s 11)]),I 6 (.mv (.s 12))])
def ZXM:PC :=
 (.reg [2,3,6,14] [I 13 (.mv (.s 6)),I 14 (.bin .neq (.s 13) (V 0))])
def ZXN:PC :=
 (.reg [4,5] [I 15 (.mv (.s 6)),I 4 (.mv (.v (.str []))),I 5 (.mv (.s 15))])
def ZXO:PC :=
 (.reg [2,3,7] [I 7 (.boxnil 1)])
def ZXP:PC :=
 (.reg [2,3,7,8] [I 8 (.box (.v .nilfunc))])
def ZXQ:PC :=
 (.reg [3,7,8] [I 16 (.mkf (.func YF) [] [(.s 2),(.s 7),(.s 8)]),J (.st 1 (.s 8) (.s 16))])
def ZXR:PC :=
 (.reg [3,7,8,19] [I 17 (.ld true 7 (.s 3)),I 18 (C Qb [(.s 17)]),I 19 (.bin .eql (.s 18) (V 1))])
def ZXS:PC :=
 (.reg [4,5] [I 4 (.mv (.v (.str []))),I 5 (.mv (V 0))])
def ZXT:PC :=
 (.reg [7,9] [I 20 (.ld false 1 (.s 8)),I 21 (.ld true 7 (.s 3)),I 22 (.call .norm (.s 20) [(.s 21)]),I 9 (.mv (.s 22))])
def ZTh:PC :=
 (.reg [7,9,24] [I 23 (.mv (.s 9)),I 24 (.bin .neq (.s 23) (V 0))])
def ZTi:PC :=
 (.reg [4,5] [I 25 (.mv (.s 9)),I 4 (.mv (.v (.str []))),I 5 (.mv (.s 25))])
def ZTj:PC :=
 (.reg [4,5] [I 26 (.ld false 1 (.s 7)),I 27 (.b2s (.s 26)),I 4 (.mv (.s 27)),I 5 (.mv (V 0))])
def ZPB:PF:=⟨false,
 (.seq ZXK
 (.seq (.seq ZXL
 (.seq ZXM
 (.ite (.s 14)
 (.seq ZXN
 .ret)
 .skip)))
 (.seq ZXO
 (.seq ZXP
 (.seq ZXQ
 (.seq (.seq ZXR
 (.ite (.s 19)
 (.seq ZXS
 .ret)
 .skip))
 (.seq (.seq ZXT
 (.seq ZTh
 (.ite (.s 24)
 (.seq ZTi
 .ret)
 .skip)))
 (.seq ZTj
 .ret)))))))),
 [.s 4,.s 5]⟩
theorem Zdi:Zs Proofs.Tryz.prog false Zdh Proofs.Tryz.f73=some ZPB:=by kernel_rfl
def Za6:List Hint:=[⟨[0,3,4,5],[2],[],[],[],[]⟩,H [4,5,6,7],H [4,5,6,7,18],⟨[4,5,6],[3],[],[],[],[]⟩,H [4,5,7,26],H [4,5,7,8,10],H [4,5,7,8,10,34],⟨[4,5,6],[3],[],[],[],[]⟩,H [4,5,7],H [4,5,6],H [4,5,6]]
def ZTk:PC :=
 (.reg [0,3,4,5] [I 3 (.box (.s 1)),I 4 (.box (.v ZR)),I 5 (.onil 1),I 6 (.mv (V 0))])
def ZTl:PC :=
 (.reg [4,5,6,7] [I 12 (.mv (.s 0)),I 13 (.ld true 7 (.s 3)),I 14 (C Yg [(.s 12),(.s 13)]),I 11 (.mv (.s 14)),I 15 (.ext (.s 11) 0),I 16 (.ext (.s 11) 1),I 7 (.mv (.s 15)),I 6 (.mv (.s 16))])
def ZTm:PC :=
 (.reg [4,5,6,7,18] [I 17 (.mv (.s 6)),I 18 (.bin .neq (.s 17) (V 0))])
def ZTn:PC :=
 (.reg [4,5,6] [I 19 (.build [(.int .u64 0),(.int .i64 0),(.int .i64 0),(.int .i64 0),(.int .i64 0)] []),I 20 (.mv (.s 6)),J (.st 5 (.s 4) (.s 19)),I 5 (.onil 1),I 6 (.mv (.s 20))])
def ZTo:PC :=
 (.reg [4,5,7,26] [I 21 (.mv (.s 7)),I 22 (.nilck (.s 21)),I 23 (.fadr 1 (.s 22)),I 24 (.ld false 1 (.s 23)),I 25 (.len 1 (.s 24)),I 26 (.bin .gtr (.s 25) (V 0))])
def ZTp:PC :=
 (.reg [4,5,7,8,10] [I 28 (.mv (.s 7)),I 29 (C Y5 [(.s 28)]),I 27 (.mv (.s 29)),I 30 (.ext (.s 27) 0),I 31 (.ext (.s 27) 1),I 32 (.ext (.s 27) 2),I 8 (.mv (.s 30)),I 9 (.mv (.s 31)),I 10 (.mv (.s 32))])
def ZTq:PC :=
 (.reg [4,5,7,8,10,34] [I 33 (.mv (.s 10)),I 34 (.bin .neq (.s 33) (V 0))])
def ZTr:PC :=
 (.reg [4,5,6] [I 35 (.build [(.int .u64 0),(.int .i64 0),(.int .i64 0),(.int .i64 0),(.int .i64 0)] []),I 36 (.mv (.s 10)),J (.st 5 (.s 4) (.s 35)),I 5 (.onil 1),I 6 (.mv (.s 36))])
def ZTs:PC :=
 (.reg [4,5,7] [I 37 (.mv (.s 5)),I 38 (.mv (.s 8)),I 39 (.bslice false 1 [(.int .u64 0)] [(0,(.s 38))]),I 40 (.app 1 8 (.s 37) (.s 39)),I 5 (.mv (.s 40))])
def ZTt:PC :=
 (.seq (.seq ZTo
 (.ite (.s 26)
 .skip
 (.exit 0)))
 (.block 1
 (.seq ZTp
 (.seq (.seq ZTq
 (.ite (.s 34)
 (.seq ZTr
 .ret)
 .skip))
 ZTs))))
def ZPd:PC :=
 (.reg [4,5,6] [I 42 (.mv (.s 7)),I 43 (C ZAX [(.s 42)]),I 41 (.mv (.s 43)),I 44 (.ext (.s 41) 0),I 45 (.ext (.s 41) 1),J (.st 5 (.s 4) (.s 44)),I 6 (.mv (.s 45))])
def ZPe:PC :=
 (.reg [4,5,6] [I 46 (.ld true 5 (.s 4)),I 47 (.mv (.s 5)),I 48 (.mv (.s 6)),J (.st 5 (.s 4) (.s 46)),I 5 (.mv (.s 47)),I 6 (.mv (.s 48))])
def ZKQ:PF:=⟨false,
 (.seq ZTk
 (.seq ZTl
 (.seq (.seq ZTm
 (.ite (.s 18)
 (.seq ZTn
 .ret)
 .skip))
 (.seq (.block 0
 (.loop ZTt))
 (.seq ZPd
 (.seq ZPe
 .ret)))))),
 [.c 4 true 5,.s 5,.s 6]⟩
theorem Za7:Zs Proofs.Tryz.prog false Za6 Proofs.Tryz.f74=some ZKQ:=by kernel_rfl
def ZIq:List Hint:=[H [0,1],H [4]]
def ZGd:PC :=
 (.reg [0,1] [I 4 (.mv (V 0))])
def ZGe:PC :=
 (.reg [4] [I 5 (.mv (.s 0)),I 6 (.cint .u64 (.s 5)),I 7 (.mv (.s 1)),I 8 (.bin .add (.s 7) (V 1)),I 9 (.cint .u64 (.s 8)),I 10 (.bin .rem (.s 6) (.s 9)),I 11 (.cint .i64 (.s 10)),I 4 (.mv (.s 11))])
def ZBs:PF:=⟨false,
 (.seq ZGd
 (.seq ZGe
 .ret)),
 [.s 4]⟩
theorem ZIr:Zs Proofs.Tryz.prog false ZIq Proofs.Tryz.f75=some ZBs:=by kernel_rfl
def ZXU:List Hint:=[H [0,2,3,5],H [2,3,5,10],H [2,3,5,10,18],H [8],H [41],H [8],H [8]]
def ZPf:PC :=
 (.reg [0,2,3,5] [I 5 (.box (.s 1)),I 8 (.mv (V 0))])
def ZPg:PC :=
 (.reg [2,3,5,10] [I 12 (.mv (.s 0)),I 13 (.ld true 5 (.s 5)),I 14 (C J2 [(.s 12),(.s 13)]),I 11 (.mv (.s 14)),I 15 (.ext (.s 11) 0),I 16 (.ext (.s 11) 1),I 9 (.box (.v ZT)),J (.st 7 (.s 9) (.s 15)),I 10 (.mv (.s 16))])
def ZPh:PC :=
 (.reg [2,3,5,10,18] [I 17 (.mv (.s 10)),I 18 (.bin .neq (.s 17) (V 0))])
def ZPi:PC :=
 (.reg [8] [I 19 (.mv (.s 10)),I 8 (.mv (.s 19))])
def ZPj:PC :=
 (.reg [41] [I 20 (.mv (.s 2)),I 21 (.bin .lss (.s 20) (V 0)),I 22 (.mv (.s 21)),G 23 22 false (.mv (.s 2)),G 24 22 false (.fadr 2 (.s 5)),G 25 22 false (.fadr 0 (.s 24)),G 26 22 false (.ld false 1 (.s 25)),G 27 22 false (.bin .gtr (.s 23) (.s 26)),I 28 (.pick (.s 22) (.v (.bool true)) (.s 27)),I 29 (.mv (.s 28)),G 30 29 false (.mv (.s 3)),G 31 29 false (.bin .lss (.s 30) (V 0)),I 32 (.pick (.s 29) (.v (.bool true)) (.s 31)),I 33 (.mv (.s 32)),G 34 33 false (.mv (.s 3)),G 35 33 false (.fadr 2 (.s 5)),G 36 33 false (.fadr 0 (.s 35)),G 37 33 false (.ld false 1 (.s 36)),G 38 33 false (.mv (.s 2)),G 39 33 false (.bin .sub (.s 37) (.s 38)),G 40 33 false (.bin .gtr (.s 34) (.s 39)),I 41 (.pick (.s 33) (.v (.bool true)) (.s 40))])
def ZPk:PC :=
 (.reg [8] [I 8 (.mv (V 3))])
def ZPl:PC :=
 (.reg [8] [I 8 (.mv (V 0))])
def ZHw:PF:=⟨false,
 (.seq ZPf
 (.seq (.seq ZPg
 (.seq ZPh
 (.ite (.s 18)
 (.seq ZPi
 .ret)
 .skip)))
 (.seq (.seq ZPj
 (.ite (.s 41)
 (.seq ZPk
 .ret)
 .skip))
 (.seq ZPl
 .ret)))),
 [.s 8]⟩
theorem ZXV:Zs Proofs.Tryz.prog false ZXU Proofs.Tryz.f76=some ZHw:=by kernel_rfl
def ZXW:List Hint:=[H [4,5,6,7],H [8]]
def ZPm:PC :=
 (.reg [4,5,6,7] [I 4 (.box (.s 0)),I 5 (.box (.s 1)),I 6 (.box (.s 2)),I 7 (.box (.s 3)),I 8 (.mv (.v .nilfunc))])
def ZPn:PC :=
 (.reg [8] [I 9 (.mkf (.func Jm) [] [(.s 7),(.s 4),(.s 5),(.s 6)]),I 8 (.mv (.s 9))])
def ZHx:PF:=⟨true,
 (.seq ZPm
 (.seq ZPn
 .ret)),
 [.s 8]⟩
theorem ZXX:Zs Proofs.Tryz.prog true ZXW Proofs.Tryz.f77=some ZHx:=by kernel_rfl
def Zdj:List Hint:=[H [0,3,4],H [0,3,4,8],H [4,5],H [0,3,4,12],H [4,5],H [0,3,4,16],H [4,5],H [3,4,6],H [3,4,6,27],H [4,5],H [4,5]]
def ZXY:PC :=
 (.reg [0,3,4] [I 3 (.box (.s 1)),I 4 (.box (.v ZT)),I 5 (.mv (V 0))])
def ZXZ:PC :=
 (.reg [0,3,4,8] [I 7 (.mv (.s 0)),I 8 (.eqs false 3 [] (.s 7) (.v .nilptr))])
def ZXa:PC :=
 (.reg [4,5] [I 9 (.build [(.int .u64 0),(.int .i64 0),(.int .i64 0),(.int .i64 0),(.int .i64 0),(.str []),.nils] []),J (.st 7 (.s 4) (.s 9)),I 5 (.mv (V 1))])
def ZXb:PC :=
 (.reg [0,3,4,12] [I 10 (.ld true 5 (.s 3)),I 11 (.build [(.int .u64 0),(.int .i64 0),(.int .i64 0),(.int .i64 0),(.int .i64 0)] []),I 12 (.eqs false 0 [(0,0),(1,0),(2,0),(3,0),(4,0)] (.s 10) (.s 11))])
def ZXc:PC :=
 (.reg [4,5] [I 13 (.build [(.int .u64 0),(.int .i64 0),(.int .i64 0),(.int .i64 0),(.int .i64 0),(.str []),.nils] []),J (.st 7 (.s 4) (.s 13)),I 5 (.mv (V 0))])
def ZXd:PC :=
 (.reg [0,3,4,16] [I 14 (.fadr 0 (.s 3)),I 15 (.ld false 1 (.s 14)),I 16 (.bin .eql (.s 15) (.v (.int .u64 0)))])
def ZXe:PC :=
 (.reg [4,5] [I 17 (.build [(.int .u64 0),(.int .i64 0),(.int .i64 0),(.int .i64 0),(.int .i64 0),(.str []),.nils] []),J (.st 7 (.s 4) (.s 17)),I 5 (.mv (V 2))])
def ZXf:PC :=
 (.reg [3,4,6] [I 18 (.mv (.s 0)),I 19 (.fadr 0 (.s 3)),I 20 (.ld false 1 (.s 19)),I 21 (.fadr 1 (.s 3)),I 22 (.ld false 1 (.s 21)),I 23 (.fadr 2 (.s 3)),I 24 (.ld true 3 (.s 23)),I 25 (C ZCF [(.s 18),(.s 20),(.s 22),(.s 24)]),I 6 (.mv (.s 25))])
def ZXg:PC :=
 (.reg [3,4,6,27] [I 26 (.mv (.s 6)),I 27 (.bin .neq (.s 26) (V 0))])
def ZXh:PC :=
 (.reg [4,5] [I 28 (.build [(.int .u64 0),(.int .i64 0),(.int .i64 0),(.int .i64 0),(.int .i64 0),(.str []),.nils] []),I 29 (.mv (.s 6)),J (.st 7 (.s 4) (.s 28)),I 5 (.mv (.s 29))])
def ZTu:PC :=
 (.reg [4,5] [I 30 (.fadr 0 (.s 3)),I 31 (.ld false 1 (.s 30)),I 32 (.fadr 1 (.s 3)),I 33 (.ld false 1 (.s 32)),I 34 (.fadr 2 (.s 3)),I 35 (.ld true 3 (.s 34)),I 36 (.build [(.int .u64 0),(.int .i64 0),(.int .i64 0),(.int .i64 0),(.int .i64 0),(.str []),.nils] [(0,1,(.s 31)),(1,1,(.s 33)),(2,3,(.s 35))]),J (.st 7 (.s 4) (.s 36)),I 5 (.mv (V 0))])
def ZPC:PF:=⟨false,
 (.seq ZXY
 (.seq (.seq ZXZ
 (.ite (.s 8)
 (.seq ZXa
 .ret)
 .skip))
 (.seq (.seq ZXb
 (.ite (.s 12)
 (.seq ZXc
 .ret)
 .skip))
 (.seq (.seq ZXd
 (.ite (.s 16)
 (.seq ZXe
 .ret)
 .skip))
 (.seq (.seq ZXf
 (.seq ZXg
 (.ite (.s 27)
 (.seq ZXh
 .ret)
 .skip)))
 (.seq ZTu
 .ret)))))),
 [.c 4 true 7,.s 5]⟩
theorem Zdk:Zs Proofs.Tryz.prog false Zdj Proofs.Tryz.f82=some ZPC:=by kernel_rfl
def XZ:List Hint:=[H [0,1],H [4]]
def Je:PC :=
 (.reg [0,1] [I 4 (.mv (V 0))])
def Jf:PC :=
 (.reg [4] [I 5 (.mv (.s 0)),I 6 (.mv (.s 1)),I 7 (C Z8 [(.s 5),(.s 6)]),I 4 (.mv (.s 7))])
def QS:PF:=⟨false,
 (.seq Je
 (.seq Jf
 .ret)),
 [.s 4]⟩
theorem Xa:Zs Proofs.Tryz.prog false XZ Proofs.Tryz.f83=some QS:=by kernel_rfl
def Za8:List Hint:=[H [0,3,23],H [0,3,6,23],H [0,3,6,17,23],H [4],H [0,3,7,23],H [7,21,23],H [7,9],H [7,9,26],H [7],H [4]]
def ZTv:PC :=
 (.reg [0,3,23] [I 3 (.box (.s 1)),I 4 (.mv (V 0))])
def ZTw:PC :=
 (.reg [0,3,6,23] [I 11 (.mv (.s 0)),I 12 (.ld true 5 (.s 3)),I 13 (C J2 [(.s 11),(.s 12)]),I 10 (.mv (.s 13)),I 14 (.ext (.s 10) 0),I 15 (.ext (.s 10) 1),I 5 (.box (.v ZT)),J (.st 7 (.s 5) (.s 14)),I 6 (.mv (.s 15))])
def ZTx:PC :=
 (.reg [0,3,6,17,23] [I 16 (.mv (.s 6)),I 17 (.bin .neq (.s 16) (V 0))])
def ZTy:PC :=
 (.reg [4] [I 18 (.mv (.s 6)),I 4 (.mv (.s 18))])
def ZTz:PC :=
 (.reg [0,3,7,23] [I 7 (.box (V 0)),J (.st 1 (.s 7) (V 0))])
def ZT0:PC :=
 (.reg [7,21,23] [I 19 (.mv (.s 0)),I 20 (.ld true 5 (.s 3)),I 21 (C ZAo [(.s 19),(.s 20)])])
def ZT1:PC :=
 (.reg [7,9] [I 9 (.box (.v (.agg [(.int .i64 0),(.str []),.nils,(.int .i64 0)]))),J (.st 4 (.s 9) (.s 23))])
def ZT2:PC :=
 (.reg [7,9,26] [I 24 (.fadr 3 (.s 9)),I 25 (.ld false 1 (.s 24)),I 26 (.bin .neq (.s 25) (V 0))])
def ZT3:PC :=
 (.reg [7] [I 27 (.fadr 3 (.s 9)),I 28 (.ld false 1 (.s 27)),J (.st 1 (.s 7) (.s 28))])
def ZT4:PC :=
 (.reg [4] [I 29 (.ld false 1 (.s 7)),I 4 (.mv (.s 29))])
def ZKR:RF:=⟨30,
 (.seq ZTv
 (.seq (.seq ZTw
 (.seq ZTx
 (.ite (.s 17)
 (.seq ZTy
 .ret)
 .skip)))
 (.seq ZTz
 (.seq .skip
 (.seq ZT0
 .skip))))),
 ⟨(.s 21),[22,23],
 ZT1,
 (.block 1
 (.seq ZT2
 (.ite (.s 26)
 (.seq ZT3
 (.exit 0))
 .skip)))⟩,
 (.seq .skip
 (.seq ZT4
 .ret)),
 [.s 4]⟩
theorem Za9:ZMi Proofs.Tryz.prog Za8 Proofs.Tryz.f85=some ZKR:=by kernel_rfl
def ZbA:List Hint:=[H [2,3],H [4]]
def ZT5:PC :=
 (.reg [2,3] [I 2 (.box (.s 0)),I 3 (.box (.s 1)),I 4 (.mv (.v .nilfunc))])
def ZT6:PC :=
 (.reg [4] [I 5 (.mkf (.func ZFu) [] [(.s 2),(.s 3)]),I 4 (.mv (.s 5))])
def ZKS:PF:=⟨true,
 (.seq ZT5
 (.seq ZT6
 .ret)),
 [.s 4]⟩
theorem ZbB:Zs Proofs.Tryz.prog true ZbA Proofs.Tryz.f86=some ZKS:=by kernel_rfl
def ZXi:List Hint:=[H [0,3,20],H [0,3,6,20],H [0,3,6,14,20],H [4,5],⟨[0,3,7,20],[0],[],[],[],[]⟩,H [7,18,20],H [7,9],H [7,9,24],H [7],H [4,5]]
def ZPo:PC :=
 (.reg [0,3,20] [I 3 (.box (.s 1)),I 4 (.mv (.v .nils)),I 5 (.mv (V 0))])
def ZPp:PC :=
 (.reg [0,3,6,20] [I 10 (.mv (.s 0)),I 11 (.ld true 5 (.s 3)),I 12 (C ZAn [(.s 10),(.s 11)]),I 6 (.mv (.s 12))])
def ZPq:PC :=
 (.reg [0,3,6,14,20] [I 13 (.mv (.s 6)),I 14 (.bin .neq (.s 13) (V 0))])
def ZPr:PC :=
 (.reg [4,5] [I 15 (.mv (.s 6)),I 4 (.mv (.v .nils)),I 5 (.mv (.s 15))])
def ZPs:PC :=
 (.reg [0,3,7,20] [I 7 (.boxnil 1)])
def ZPt:PC :=
 (.reg [7,18,20] [I 16 (.mv (.s 0)),I 17 (.ld true 5 (.s 3)),I 18 (C ZAo [(.s 16),(.s 17)])])
def ZPu:PC :=
 (.reg [7,9] [I 9 (.box (.v (.agg [(.int .i64 0),(.str []),.nils,(.int .i64 0)]))),J (.st 4 (.s 9) (.s 20))])
def ZPv:PC :=
 (.reg [7,9,24] [I 21 (.fadr 0 (.s 9)),I 22 (.fadr 0 (.s 21)),I 23 (.ld false 1 (.s 22)),I 24 (.bin .eql (.s 23) (V 0))])
def ZPw:PC :=
 (.reg [7] [I 25 (.ld false 1 (.s 7)),I 26 (.fadr 0 (.s 9)),I 27 (.fadr 1 (.s 26)),I 28 (.ld false 1 (.s 27)),I 29 (.bslice false 1 [(.str [])] [(0,(.s 28))]),I 30 (.app 1 16 (.s 25) (.s 29)),J (.st 1 (.s 7) (.s 30))])
def ZPx:PC :=
 (.reg [4,5] [I 31 (.ld false 1 (.s 7)),I 4 (.mv (.s 31)),I 5 (.mv (V 0))])
def ZHy:RF:=⟨32,
 (.seq ZPo
 (.seq (.seq ZPp
 (.seq ZPq
 (.ite (.s 14)
 (.seq ZPr
 .ret)
 .skip)))
 (.seq ZPs
 (.seq ZPt
 .skip)))),
 ⟨(.s 18),[19,20],
 ZPu,
 (.block 1
 (.seq ZPv
 (.ite (.s 24)
 ZPw
 .skip)))⟩,
 (.seq .skip
 (.seq ZPx
 .ret)),
 [.s 4,.s 5]⟩
theorem ZXj:ZMi Proofs.Tryz.prog ZXi Proofs.Tryz.f89=some ZHy:=by kernel_rfl
def ZGf:List Hint:=[H [0],H [0,7],H [2],H [0,3],H [3],H [3,4,5],H [3,4,5,25],H [3,4,5],H [3,4,5],H [2]]
def ZDp:PC :=
 (.reg [0] [I 2 (.mv (.v .nils))])
def ZDq:PC :=
 (.reg [0,7] [I 6 (.mv (.s 0)),I 7 (.eqs false 3 [] (.s 6) (.v .nilptr))])
def ZDr:PC :=
 (.reg [2] [I 2 (.mv (.v .nils))])
def ZDs:PC :=
 (.reg [0,3] [I 8 (.mv (.s 0)),I 9 (.nilck (.s 8)),I 10 (.fadr 0 (.s 9)),I 11 (.ld false 1 (.s 10)),I 12 (.len 1 (.s 11)),I 13 (.mkslice 1 8 (.int .i64 0) (.s 12) (.s 12)),I 3 (.mv (.s 13))])
def ZDt:PC :=
 (.reg [3] [I 14 (.mv (.s 3)),I 15 (.mv (.s 0)),I 16 (.nilck (.s 15)),I 17 (.fadr 0 (.s 16)),I 18 (.ld false 1 (.s 17)),I 19 (.cpy 1 (.s 14) (.s 18))])
def ZDu:PC :=
 (.reg [3,4,5] [I 20 (.mv (.s 3)),I 21 (.len 1 (.s 20)),I 22 (.bin .sub (.s 21) (V 1)),I 4 (.mv (V 0)),I 5 (.mv (.s 22))])
def ZDv:PC :=
 (.reg [3,4,5,25] [I 23 (.mv (.s 4)),I 24 (.mv (.s 5)),I 25 (.bin .lss (.s 23) (.s 24))])
def ZDw:PC :=
 (.reg [3,4,5] [I 30 (.mv (.s 3)),I 31 (.mv (.s 4)),I 32 (.mv (.s 3)),I 33 (.mv (.s 5)),I 34 (.mv (.s 3)),I 35 (.mv (.s 5)),I 36 (.ixS 1 (.s 34) (.s 35)),I 37 (.ld false 1 (.s 36)),I 38 (.mv (.s 3)),I 39 (.mv (.s 4)),I 40 (.ixS 1 (.s 38) (.s 39)),I 41 (.ld false 1 (.s 40)),I 42 (.ixS 1 (.s 30) (.s 31)),J (.st 1 (.s 42) (.s 37)),I 43 (.ixS 1 (.s 32) (.s 33)),J (.st 1 (.s 43) (.s 41))])
def ZDx:PC :=
 (.reg [3,4,5] [I 26 (.mv (.s 4)),I 27 (.bin .add (.s 26) (V 1)),I 28 (.mv (.s 5)),I 29 (.bin .sub (.s 28) (V 1)),I 4 (.mv (.s 27)),I 5 (.mv (.s 29))])
def ZDy:PC :=
 (.seq (.seq ZDv
 (.ite (.s 25)
 .skip
 (.exit 0)))
 (.seq (.block 1
 ZDw)
 ZDx))
def ZCr:PC :=
 (.reg [2] [I 44 (.mv (.s 3)),I 2 (.mv (.s 44))])
def ZAN:PF:=⟨false,
 (.seq ZDp
 (.seq (.seq ZDq
 (.ite (.s 7)
 (.seq ZDr
 .ret)
 .skip))
 (.seq ZDs
 (.seq ZDt
 (.seq (.seq ZDu
 (.block 0
 (.loop ZDy)))
 (.seq ZCr
 .ret)))))),
 [.s 2]⟩
theorem ZGg:Zs Proofs.Tryz.prog false ZGf Proofs.Tryz.f94=some ZAN:=by kernel_rfl
def ZB2:List Hint:=[H [0],H [2]]
def ZA2:PC :=
 (.reg [0] [I 2 (.mv (.v .nils))])
def ZA3:PC :=
 (.reg [2] [I 3 (.mv (.s 0)),I 4 (C YJ [(.s 3),(.v (.int .u8 2))]),I 2 (.mv (.s 4))])
def Yn:PF:=⟨false,
 (.seq ZA2
 (.seq ZA3
 .ret)),
 [.s 2]⟩
theorem ZB3:Zs Proofs.Tryz.prog false ZB2 Proofs.Tryz.f95=some Yn:=by kernel_rfl
def ZKT:List Hint:=[H [0,1,4],H [0,1,4,9],H [4,5],H [0,4,6,7],H [0,4,6,21],H [4],H [4,5],H [4,6],H [4,5]]
def ZHg:PC :=
 (.reg [0,1,4] [I 4 (.box (.v ZN)),I 5 (.mv (V 0))])
def ZHh:PC :=
 (.reg [0,1,4,9] [I 8 (.mv (.s 0)),I 9 (.eqs false 3 [] (.s 8) (.v .nilptr))])
def ZHi:PC :=
 (.reg [4,5] [I 10 (.build [(.int .i64 0),(.str []),.nils] []),J (.st 3 (.s 4) (.s 10)),I 5 (.mv (V 1))])
def ZHj:PC :=
 (.reg [0,4,6,7] [I 12 (.mv (.s 0)),I 13 (.nilck (.s 12)),I 14 (.fadr 2 (.s 13)),I 15 (.ld false 1 (.s 14)),I 16 (.mv (.s 1)),I 17 (.look 0 ZN true (.s 15) (.s 16)),I 11 (.mv (.s 17)),I 18 (.ext (.s 11) 0),I 19 (.ext (.s 11) 1),I 6 (.box (.v ZN)),J (.st 3 (.s 6) (.s 18)),I 7 (.mv (.s 19))])
def ZHk:PC :=
 (.reg [0,4,6,21] [I 20 (.mv (.s 7)),I 21 (.un .not (.s 20))])
def ZHl:PC :=
 (.reg [4] [I 22 (.mv (.s 0)),I 23 (.nilck (.s 22)),I 24 (.fadr 5 (.s 23)),I 25 (.ld false 1 (.s 24)),I 26 (.bin .add (.s 25) (V 1)),I 27 (.nilck (.s 22)),I 28 (.fadr 5 (.s 27)),J (.st 1 (.s 28) (.s 26))])
def ZHm:PC :=
 (.reg [4,5] [I 29 (.build [(.int .i64 0),(.str []),.nils] []),J (.st 3 (.s 4) (.s 29)),I 5 (.mv (V 10))])
def ZHn:PC :=
 (.reg [4,6] [I 30 (.fadr 2 (.s 6)),I 31 (.ld false 1 (.s 30)),I 32 (C Z3 [(.s 31)]),I 33 (.fadr 2 (.s 6)),J (.st 1 (.s 33) (.s 32))])
def ZHo:PC :=
 (.reg [4,5] [I 34 (.ld true 3 (.s 6)),J (.st 3 (.s 4) (.s 34)),I 5 (.mv (V 0))])
def ZCJ:PF:=⟨false,
 (.seq ZHg
 (.seq (.seq ZHh
 (.ite (.s 9)
 (.seq ZHi
 .ret)
 .skip))
 (.seq ZHj
 (.seq (.seq ZHk
 (.ite (.s 21)
 (.seq ZHl
 (.seq ZHm
 .ret))
 .skip))
 (.seq ZHn
 (.seq ZHo
 .ret)))))),
 [.c 4 true 3,.s 5]⟩
theorem ZKU:Zs Proofs.Tryz.prog false ZKT Proofs.Tryz.f111=some ZCJ:=by kernel_rfl
def ZbC:List Hint:=[H [0,3],H [0,3,9],H [4],H [0,3,12],H [4],H [0,3,15],H [4],H [3,5,6],H [3,5,6,24],H [4],H [3,5,6,7],H [45],H [4],H [4]]
def ZT7:PC :=
 (.reg [0,3] [I 3 (.box (.s 1)),I 4 (.mv (V 0))])
def ZT8:PC :=
 (.reg [0,3,9] [I 8 (.mv (.s 0)),I 9 (.eqs false 3 [] (.s 8) (.v .nilptr))])
def ZT9:PC :=
 (.reg [4] [I 4 (.mv (V 1))])
def ZUA:PC :=
 (.reg [0,3,12] [I 10 (.ld true 5 (.s 3)),I 11 (.build [(.int .u64 0),(.int .i64 0),(.int .i64 0),(.int .i64 0),(.int .i64 0)] []),I 12 (.eqs false 0 [(0,0),(1,0),(2,0),(3,0),(4,0)] (.s 10) (.s 11))])
def ZUB:PC :=
 (.reg [4] [I 4 (.mv (V 0))])
def ZUC:PC :=
 (.reg [0,3,15] [I 13 (.fadr 0 (.s 3)),I 14 (.ld false 1 (.s 13)),I 15 (.bin .eql (.s 14) (.v (.int .u64 0)))])
def ZUD:PC :=
 (.reg [4] [I 4 (.mv (V 2))])
def ZUE:PC :=
 (.reg [3,5,6] [I 17 (.mv (.s 0)),I 18 (.fadr 0 (.s 3)),I 19 (.ld false 1 (.s 18)),I 20 (C Qa [(.s 17),(.s 19)]),I 16 (.mv (.s 20)),I 21 (.ext (.s 16) 0),I 22 (.ext (.s 16) 1),I 5 (.box (.v ZN)),J (.st 3 (.s 5) (.s 21)),I 6 (.mv (.s 22))])
def ZUF:PC :=
 (.reg [3,5,6,24] [I 23 (.mv (.s 6)),I 24 (.bin .neq (.s 23) (V 0))])
def ZUG:PC :=
 (.reg [4] [I 25 (.mv (.s 6)),I 4 (.mv (.s 25))])
def ZPy:PC :=
 (.reg [3,5,6,7] [I 27 (.ld true 3 (.s 5)),I 28 (C Jz [(.s 27)]),I 26 (.mv (.s 28)),I 29 (.ext (.s 26) 0),I 30 (.ext (.s 26) 1),I 7 (.box (.v ZM)),J (.st 3 (.s 7) (.s 29)),I 6 (.mv (.s 30))])
def ZPz:PC :=
 (.reg [45] [I 31 (.mv (.s 6)),I 32 (.bin .neq (.s 31) (V 0)),I 33 (.mv (.s 32)),G 34 33 false (.fadr 0 (.s 5)),G 35 33 false (.ld false 1 (.s 34)),G 36 33 false (.fadr 1 (.s 3)),G 37 33 false (.ld false 1 (.s 36)),G 38 33 false (.bin .neq (.s 35) (.s 37)),I 39 (.pick (.s 33) (.v (.bool true)) (.s 38)),I 40 (.mv (.s 39)),G 41 40 false (.ld true 3 (.s 7)),G 42 40 false (.fadr 2 (.s 3)),G 43 40 false (.ld true 3 (.s 42)),G 44 40 false (.eqs true 0 [(0,0),(1,0),(2,0)] (.s 41) (.s 43)),I 45 (.pick (.s 40) (.v (.bool true)) (.s 44))])
def ZP0:PC :=
 (.reg [4] [I 4 (.mv (V 23))])
def ZP1:PC :=
 (.reg [4] [I 4 (.mv (V 0))])
def ZKV:PF:=⟨false,
 (.seq ZT7
 (.seq (.seq ZT8
 (.ite (.s 9)
 (.seq ZT9
 .ret)
 .skip))
 (.seq (.seq ZUA
 (.ite (.s 12)
 (.seq ZUB
 .ret)
 .skip))
 (.seq (.seq ZUC
 (.ite (.s 15)
 (.seq ZUD
 .ret)
 .skip))
 (.seq ZUE
 (.seq (.seq ZUF
 (.ite (.s 24)
 (.seq ZUG
 .ret)
 .skip))
 (.seq ZPy
 (.seq (.seq ZPz
 (.ite (.s 45)
 (.seq ZP0
 .ret)
 .skip))
 (.seq ZP1
 .ret))))))))),
 [.s 4]⟩
theorem ZbD:Zs Proofs.Tryz.prog false ZbC Proofs.Tryz.f116=some ZKV:=by kernel_rfl
def ZUH:List Hint:=[H [0,1],H [0,1,21],H [4,5],⟨[0,6],[],[],[],[(1,(.here 1)),(5,(.here 5)),(3,(.here 3))],[3,1,5]⟩,H [0,6,31,32],H [0,6,31,32,33],H [0,6,7,31,32],H [0,6,7,31,32],H [0,6,31,32],H [0,6,31,32],H [4,5]]
def ZMx:PC :=
 (.reg [0,1] [I 4 (.mv (.v .nilptr)),I 5 (.mv (V 0))])
def ZMy:PC :=
 (.reg [0,1,21] [I 8 (.mv (.s 0)),I 9 (.bin .lss (.s 8) (V 1)),I 10 (.mv (.s 9)),G 11 10 false (.mv (.s 0)),G 12 10 false (.bin .gtr (.s 11) (V 16384)),I 13 (.pick (.s 10) (.v (.bool true)) (.s 12)),I 14 (.mv (.s 13)),G 15 14 false (.mv (.s 1)),G 16 14 false (.bin .lss (.s 15) (.v (.int .u64 1))),I 17 (.pick (.s 14) (.v (.bool true)) (.s 16)),I 18 (.mv (.s 17)),G 19 18 false (.mv (.s 1)),G 20 18 false (.bin .gtr (.s 19) (.v (.int .u64 4294967295))),I 21 (.pick (.s 18) (.v (.bool true)) (.s 20))])
def ZMz:PC :=
 (.reg [4,5] [I 4 (.mv (.v .nilptr)),I 5 (.mv (V 3))])
def ZM0:PC :=
 (.regH [3,1,5] [0,6] [I 22 (.mv (.s 0)),I 23 (.w (.here 1) (.mkslice 1 8 (.int .i64 0) (.s 22) (.s 22))),I 24 (.mv (.s 0)),I 25 (.w (.here 3) (.mkslice 1 1 (.int .u8 0) (.s 24) (.s 24))),I 26 (.mv (.s 0)),I 27 (.w (.here 5) (.mkslice 1 8 (.int .u64 0) (.s 26) (.s 26))),I 28 (.mv (.s 1)),I 29 (.build [.nils,.nils,.nils,(.int .u64 0)] [(0,1,(.s 23)),(1,1,(.s 25)),(2,1,(.s 27)),(3,1,(.s 28))]),I 30 (.box (.s 29)),I 6 (.mv (.s 30))])
def ZM1:PC :=
 (.reg [0,6,31,32] [I 31 (.mv (.s 0)),I 32 (.mv (V 0))])
def ZM2:PC :=
 (.reg [0,6,31,32,33] [I 33 (.bin .lss (.s 32) (.s 31))])
def ZM3:PC :=
 (.reg [0,6,7,31,32] [I 34 (.mv (.s 32)),I 7 (.mv (.s 34))])
def ZM4:PC :=
 (.reg [0,6,7,31,32] [I 35 (.mv (.s 6)),I 36 (.nilck (.s 35)),I 37 (.fadr 0 (.s 36)),I 38 (.ld false 1 (.s 37)),I 39 (.mv (.s 7)),I 40 (.mv (.s 0)),I 41 (.bin .sub (.s 40) (V 1)),I 42 (.mv (.s 7)),I 43 (.bin .sub (.s 41) (.s 42)),I 44 (.ixS 1 (.s 38) (.s 39)),J (.st 1 (.s 44) (.s 43))])
def ZM5:PC :=
 (.reg [0,6,31,32] [I 45 (.mv (.s 6)),I 46 (.nilck (.s 45)),I 47 (.fadr 2 (.s 46)),I 48 (.ld false 1 (.s 47)),I 49 (.mv (.s 7)),I 50 (.ixS 1 (.s 48) (.s 49)),J (.st 1 (.s 50) (.v (.int .u64 1)))])
def ZM6:PC :=
 (.reg [0,6,31,32] [I 51 (.bin .add (.s 32) (V 1)),I 32 (.mv (.s 51))])
def ZKW:PC :=
 (.seq ZM2
 (.seq (.ite (.s 33)
 .skip
 (.exit 0))
 (.seq (.block 1
 (.seq ZM3
 (.seq ZM4
 ZM5)))
 ZM6)))
def ZKX:PC :=
 (.reg [4,5] [I 52 (.mv (.s 6)),I 4 (.mv (.s 52)),I 5 (.mv (V 0))])
def ZGh:PF:=⟨true,
 (.seq ZMx
 (.seq (.seq ZMy
 (.ite (.s 21)
 (.seq ZMz
 .ret)
 .skip))
 (.seq ZM0
 (.seq (.seq ZM1
 (.block 0
 (.loop ZKW)))
 (.seq ZKX
 .ret))))),
 [.s 4,.s 5]⟩
theorem ZUI:Zs Proofs.Tryz.prog true ZUH Proofs.Tryz.f126=some ZGh:=by kernel_rfl
def ZbE:List Hint:=[H [0,2],H [0,2,14],H [2,3],⟨[0,2,4],[0],[],[],[],[]⟩,H [2,4,17,18,19],H [2,4,17,18,19,20],H [2,4,6,17,18,19],H [2,4,17,18,19],H [2,4,17,18,19],H [2,4,31],H [2,4,7,8],H [2,4,7,8,39],H [2,3],⟨[2,4,7,9],[0],[],[],[],[]⟩,H [2,4,9,42,43,44],H [2,4,9,42,43,44,45],H [2,4,9,11,42,43,44],H [2,4,9,11,42,43,44],H [2,4,9,42,43,44],H [2,4,9,42,43,44],H [2,4],H [2,3]]
def ZUJ:PC :=
 (.reg [0,2] [I 2 (.box (.v ZT)),I 3 (.mv (V 0))])
def ZUK:PC :=
 (.reg [0,2,14] [I 12 (.mv (.s 0)),I 13 (.len 0 (.s 12)),I 14 (.bin .gtr (.s 13) (V 65536))])
def ZUL:PC :=
 (.reg [2,3] [I 15 (.build [(.int .u64 0),(.int .i64 0),(.int .i64 0),(.int .i64 0),(.int .i64 0),(.str []),.nils] []),J (.st 7 (.s 2) (.s 15)),I 3 (.mv (V 5))])
def ZUM:PC :=
 (.reg [0,2,4] [I 4 (.onil 7)])
def ZUN:PC :=
 (.reg [2,4,17,18,19] [I 16 (.mv (.s 0)),I 17 (C ZBZ [(.s 16)]),I 18 (.len 1 (.s 17)),I 19 (.mv (V 0))])
def ZUO:PC :=
 (.reg [2,4,17,18,19,20] [I 20 (.bin .lss (.s 19) (.s 18))])
def ZUP:PC :=
 (.reg [2,4,6,17,18,19] [I 21 (.ixS 1 (.s 17) (.s 19)),I 22 (.ld false 1 (.s 21)),I 6 (.mv (.s 22))])
def ZUQ:PC :=
 (.reg [2,4,17,18,19] [I 23 (.mv (.s 4)),I 24 (.mv (.s 6)),I 25 (.build [(.int .u64 0),(.int .i64 0),(.int .i64 0),(.int .i64 0),(.int .i64 0),(.str []),.nils] [(5,1,(.s 24))]),I 26 (.bslice false 7 [ZT] [(0,(.s 25))]),I 27 (.app 7 80 (.s 23) (.s 26)),I 4 (.mv (.s 27))])
def ZUR:PC :=
 (.reg [2,4,17,18,19] [I 28 (.bin .add (.s 19) (V 1)),I 19 (.mv (.s 28))])
def ZUS:PC :=
 (.seq ZUO
 (.seq (.ite (.s 20)
 .skip
 (.exit 0))
 (.seq (.block 1
 (.seq ZUP
 ZUQ))
 ZUR)))
def ZP2:PC :=
 (.reg [2,4,31] [I 29 (.mv (.s 4)),I 30 (.len 1 (.s 29)),I 31 (.bin .gtr (.s 30) (V 1))])
def ZP3:PC :=
 (.reg [2,4,7,8] [I 33 (.mv (.s 4)),I 34 (.len 1 (.s 33)),I 35 (C ZDY [(.s 34),(V 4)]),I 32 (.mv (.s 35)),I 36 (.ext (.s 32) 0),I 37 (.ext (.s 32) 1),I 7 (.mv (.s 36)),I 8 (.mv (.s 37))])
def ZP4:PC :=
 (.reg [2,4,7,8,39] [I 38 (.mv (.s 8)),I 39 (.bin .neq (.s 38) (V 0))])
def ZP5:PC :=
 (.reg [2,3] [I 40 (.build [(.int .u64 0),(.int .i64 0),(.int .i64 0),(.int .i64 0),(.int .i64 0),(.str []),.nils] []),I 41 (.mv (.s 8)),J (.st 7 (.s 2) (.s 40)),I 3 (.mv (.s 41))])
def ZP6:PC :=
 (.reg [2,4,7,9] [I 9 (.onil 7)])
def ZP7:PC :=
 (.reg [2,4,9,42,43,44] [I 42 (.mv (.s 7)),I 43 (.len 1 (.s 42)),I 44 (.mv (V 0))])
def ZP8:PC :=
 (.reg [2,4,9,42,43,44,45] [I 45 (.bin .lss (.s 44) (.s 43))])
def ZP9:PC :=
 (.reg [2,4,9,11,42,43,44] [I 46 (.ixS 1 (.s 42) (.s 44)),I 47 (.ld false 1 (.s 46)),I 11 (.mv (.s 47))])
def ZQA:PC :=
 (.reg [2,4,9,11,42,43,44] [I 48 (.mv (.s 9)),I 49 (.mv (.s 4)),I 50 (.mv (.s 11)),I 51 (.slc 7 (.s 49) none (some (.s 50))),I 52 (C QG [(.s 51)]),I 53 (.bslice false 7 [ZT] [(0,(.s 52))]),I 54 (.app 7 80 (.s 48) (.s 53)),I 9 (.mv (.s 54))])
def ZQB:PC :=
 (.reg [2,4,9,42,43,44] [I 55 (.mv (.s 4)),I 56 (.mv (.s 11)),I 57 (.slc 7 (.s 55) (some (.s 56)) none),I 4 (.mv (.s 57))])
def ZQC:PC :=
 (.reg [2,4,9,42,43,44] [I 58 (.bin .add (.s 44) (V 1)),I 44 (.mv (.s 58))])
def ZQD:PC :=
 (.seq ZP8
 (.seq (.ite (.s 45)
 .skip
 (.exit 4))
 (.seq (.block 5
 (.seq ZP9
 (.seq ZQA
 ZQB)))
 ZQC)))
def ZQE:PC :=
 (.reg [2,4] [I 59 (.mv (.s 9)),I 4 (.mv (.s 59))])
def ZEZ:PC :=
 (.seq (.seq ZP2
 (.ite (.s 31)
 .skip
 (.exit 2)))
 (.block 3
 (.seq ZP3
 (.seq (.seq ZP4
 (.ite (.s 39)
 (.seq ZP5
 .ret)
 .skip))
 (.seq ZP6
 (.seq (.seq ZP7
 (.block 4
 (.loop ZQD)))
 ZQE))))))
def ZEa:PC :=
 (.reg [2,3] [I 60 (.mv (.s 4)),I 61 (C QG [(.s 60)]),J (.st 7 (.s 2) (.s 61)),I 3 (.mv (V 0))])
def ZKY:PF:=⟨false,
 (.seq ZUJ
 (.seq (.seq ZUK
 (.ite (.s 14)
 (.seq ZUL
 .ret)
 .skip))
 (.seq ZUM
 (.seq (.seq ZUN
 (.block 0
 (.loop ZUS)))
 (.seq (.block 2
 (.loop ZEZ))
 (.seq ZEa
 .ret)))))),
 [.c 2 true 7,.s 3]⟩
theorem ZbF:Zs Proofs.Tryz.prog false ZbE Proofs.Tryz.f127=some ZKY:=by kernel_rfl
def ZUT:List Hint:=[H [0,2,3,4,6,10],H [0,2,3,4,6,10,12],H [0,2,3,4,6,10,12,24],H [10,11],H [0,2,3,4,6,10,13],H [0,2,3,4,6,10,13,46],H [10,11],H [0,2,3,4,6,10,60],H [10,11],H [0,2,3,4,6,10,67],H [10,11],H [0,3,4,10,14,15,16],H [0,3,4,10,14,15,16,79],H [10,11],H [0,4,10,14,16,18],H [0,4,10,14,16,18,91],H [10,11],H [0,10,14,16,18,19],H [0,10,14,16,18,19,100],H [10,11],H [0,10,14,16,18],H [0,10,14,16,18,111],H [10,11],H [10,14,16],H [10,11]]
def ZM7:PC :=
 (.reg [0,2,3,4,6,10] [I 6 (.box (.s 1)),I 10 (.box (.v ZT)),I 11 (.mv (V 0))])
def ZM8:PC :=
 (.reg [0,2,3,4,6,10,12] [I 20 (.mv (.s 0)),I 21 (.ld true 7 (.s 6)),I 22 (C J8 [(.s 20),(.s 21)]),I 12 (.mv (.s 22))])
def ZM9:PC :=
 (.reg [0,2,3,4,6,10,12,24] [I 23 (.mv (.s 12)),I 24 (.bin .neq (.s 23) (V 0))])
def ZNA:PC :=
 (.reg [10,11] [I 25 (.build [(.int .u64 0),(.int .i64 0),(.int .i64 0),(.int .i64 0),(.int .i64 0),(.str []),.nils] []),I 26 (.mv (.s 12)),J (.st 7 (.s 10) (.s 25)),I 11 (.mv (.s 26))])
def ZNB:PC :=
 (.reg [0,2,3,4,6,10,13] [I 27 (.ld true 7 (.s 6)),I 28 (C Qi [(.s 27)]),I 13 (.mv (.s 28))])
def ZNC:PC :=
 (.reg [0,2,3,4,6,10,13,46] [I 29 (.mv (.s 2)),I 30 (.bin .lss (.s 29) (V 0)),I 31 (.mv (.s 30)),G 32 31 false (.mv (.s 2)),G 33 31 false (.mv (.s 13)),G 34 31 false (.bin .gtr (.s 32) (.s 33)),I 35 (.pick (.s 31) (.v (.bool true)) (.s 34)),I 36 (.mv (.s 35)),G 37 36 false (.mv (.s 3)),G 38 36 false (.bin .lss (.s 37) (V 0)),I 39 (.pick (.s 36) (.v (.bool true)) (.s 38)),I 40 (.mv (.s 39)),G 41 40 false (.mv (.s 3)),G 42 40 false (.mv (.s 13)),G 43 40 false (.mv (.s 2)),G 44 40 false (.bin .sub (.s 42) (.s 43)),G 45 40 false (.bin .gtr (.s 41) (.s 44)),I 46 (.pick (.s 40) (.v (.bool true)) (.s 45))])
def ZND:PC :=
 (.reg [10,11] [I 47 (.build [(.int .u64 0),(.int .i64 0),(.int .i64 0),(.int .i64 0),(.int .i64 0),(.str []),.nils] []),J (.st 7 (.s 10) (.s 47)),I 11 (.mv (V 3))])
def ZNE:PC :=
 (.reg [0,2,3,4,6,10,60] [I 48 (.mv (.s 13)),I 49 (.mv (.s 3)),I 50 (.bin .sub (.s 48) (.s 49)),I 51 (.mv (.s 4)),I 52 (.len 0 (.s 51)),I 53 (.mnx false (.s 52) (V 65536)),I 54 (.bin .sub (V 65536) (.s 53)),I 55 (.bin .gtr (.s 50) (.s 54)),I 56 (.mv (.s 55)),G 57 56 false (.mv (.s 4)),G 58 56 false (.len 0 (.s 57)),G 59 56 false (.bin .gtr (.s 58) (V 65536)),I 60 (.pick (.s 56) (.v (.bool true)) (.s 59))])
def ZNF:PC :=
 (.reg [10,11] [I 61 (.build [(.int .u64 0),(.int .i64 0),(.int .i64 0),(.int .i64 0),(.int .i64 0),(.str []),.nils] []),J (.st 7 (.s 10) (.s 61)),I 11 (.mv (V 5))])
def ZNG:PC :=
 (.reg [0,2,3,4,6,10,67] [I 62 (.mv (.s 3)),I 63 (.bin .eql (.s 62) (V 0)),I 64 (.mv (.s 63)),G 65 64 true (.mv (.s 4)),G 66 64 true (.bin .eql (.s 65) (.v (.str []))),I 67 (.pick (.s 64) (.s 66) (.v (.bool false)))])
def ZKZ:PC :=
 (.reg [10,11] [I 68 (.ld true 7 (.s 6)),I 69 (C ZBY [(.s 68)]),J (.st 7 (.s 10) (.s 69)),I 11 (.mv (V 0))])
def ZKa:PC :=
 (.reg [0,3,4,10,14,15,16] [I 71 (.mv (.s 0)),I 72 (.ld true 7 (.s 6)),I 73 (.mv (.s 2)),I 74 (C X3 [(.s 71),(.s 72),(.s 73)]),I 70 (.mv (.s 74)),I 75 (.ext (.s 70) 0),I 76 (.ext (.s 70) 1),I 77 (.ext (.s 70) 2),I 14 (.box (.v ZT)),I 15 (.box (.v ZT)),J (.st 7 (.s 14) (.s 75)),J (.st 7 (.s 15) (.s 76)),I 16 (.mv (.s 77))])
def ZKb:PC :=
 (.reg [0,3,4,10,14,15,16,79] [I 78 (.mv (.s 16)),I 79 (.bin .neq (.s 78) (V 0))])
def ZKc:PC :=
 (.reg [10,11] [I 80 (.build [(.int .u64 0),(.int .i64 0),(.int .i64 0),(.int .i64 0),(.int .i64 0),(.str []),.nils] []),I 81 (.mv (.s 16)),J (.st 7 (.s 10) (.s 80)),I 11 (.mv (.s 81))])
def ZKd:PC :=
 (.reg [0,4,10,14,16,18] [I 83 (.mv (.s 0)),I 84 (.ld true 7 (.s 15)),I 85 (.mv (.s 3)),I 86 (C X3 [(.s 83),(.s 84),(.s 85)]),I 82 (.mv (.s 86)),I 87 (.ext (.s 82) 0),I 88 (.ext (.s 82) 1),I 89 (.ext (.s 82) 2),I 17 (.box (.v ZT)),I 18 (.box (.v ZT)),J (.st 7 (.s 17) (.s 87)),J (.st 7 (.s 18) (.s 88)),I 16 (.mv (.s 89))])
def ZKe:PC :=
 (.reg [0,4,10,14,16,18,91] [I 90 (.mv (.s 16)),I 91 (.bin .neq (.s 90) (V 0))])
def ZKf:PC :=
 (.reg [10,11] [I 92 (.build [(.int .u64 0),(.int .i64 0),(.int .i64 0),(.int .i64 0),(.int .i64 0),(.str []),.nils] []),I 93 (.mv (.s 16)),J (.st 7 (.s 10) (.s 92)),I 11 (.mv (.s 93))])
def ZKg:PC :=
 (.reg [0,10,14,16,18,19] [I 95 (.mv (.s 4)),I 96 (C XT [(.s 95)]),I 94 (.mv (.s 96)),I 97 (.ext (.s 94) 0),I 98 (.ext (.s 94) 1),I 19 (.box (.v ZT)),J (.st 7 (.s 19) (.s 97)),I 16 (.mv (.s 98))])
def ZKh:PC :=
 (.reg [0,10,14,16,18,19,100] [I 99 (.mv (.s 16)),I 100 (.bin .neq (.s 99) (V 0))])
def ZKi:PC :=
 (.reg [10,11] [I 101 (.build [(.int .u64 0),(.int .i64 0),(.int .i64 0),(.int .i64 0),(.int .i64 0),(.str []),.nils] []),I 102 (.mv (.s 16)),J (.st 7 (.s 10) (.s 101)),I 11 (.mv (.s 102))])
def ZKj:PC :=
 (.reg [0,10,14,16,18] [I 104 (.mv (.s 0)),I 105 (.ld true 7 (.s 14)),I 106 (.ld true 7 (.s 19)),I 107 (C YG [(.s 104),(.s 105),(.s 106)]),I 103 (.mv (.s 107)),I 108 (.ext (.s 103) 0),I 109 (.ext (.s 103) 1),J (.st 7 (.s 14) (.s 108)),I 16 (.mv (.s 109))])
def ZKk:PC :=
 (.reg [0,10,14,16,18,111] [I 110 (.mv (.s 16)),I 111 (.bin .neq (.s 110) (V 0))])
def ZKl:PC :=
 (.reg [10,11] [I 112 (.build [(.int .u64 0),(.int .i64 0),(.int .i64 0),(.int .i64 0),(.int .i64 0),(.str []),.nils] []),I 113 (.mv (.s 16)),J (.st 7 (.s 10) (.s 112)),I 11 (.mv (.s 113))])
def ZKm:PC :=
 (.reg [10,14,16] [I 115 (.mv (.s 0)),I 116 (.ld true 7 (.s 14)),I 117 (.ld true 7 (.s 18)),I 118 (C YG [(.s 115),(.s 116),(.s 117)]),I 114 (.mv (.s 118)),I 119 (.ext (.s 114) 0),I 120 (.ext (.s 114) 1),J (.st 7 (.s 14) (.s 119)),I 16 (.mv (.s 120))])
def ZKn:PC :=
 (.reg [10,11] [I 121 (.ld true 7 (.s 14)),I 122 (C ZBY [(.s 121)]),I 123 (.mv (.s 16)),J (.st 7 (.s 10) (.s 122)),I 11 (.mv (.s 123))])
def ZGi:PF:=⟨false,
 (.seq ZM7
 (.seq (.seq ZM8
 (.seq ZM9
 (.ite (.s 24)
 (.seq ZNA
 .ret)
 .skip)))
 (.seq ZNB
 (.seq (.seq ZNC
 (.ite (.s 46)
 (.seq ZND
 .ret)
 .skip))
 (.seq (.seq ZNE
 (.ite (.s 60)
 (.seq ZNF
 .ret)
 .skip))
 (.seq (.seq ZNG
 (.ite (.s 67)
 (.seq ZKZ
 .ret)
 .skip))
 (.seq ZKa
 (.seq (.seq ZKb
 (.ite (.s 79)
 (.seq ZKc
 .ret)
 .skip))
 (.seq ZKd
 (.seq (.seq ZKe
 (.ite (.s 91)
 (.seq ZKf
 .ret)
 .skip))
 (.seq ZKg
 (.seq (.seq ZKh
 (.ite (.s 100)
 (.seq ZKi
 .ret)
 .skip))
 (.seq (.seq ZKj
 (.seq ZKk
 (.ite (.s 111)
 (.seq ZKl
 .ret)
 .skip)))
 (.seq ZKm
 (.seq ZKn
 .ret))))))))))))))),
 [.c 10 true 7,.s 11]⟩
theorem ZUU:Zs Proofs.Tryz.prog false ZUT Proofs.Tryz.f134=some ZGi:=by kernel_rfl
def ZbG:List Hint:=[H [0,3],H [0,3,7],H [4],H [0,3,10],H [4],H [3,5],H [3,5,15],H [4],H [19],H [4],H [4]]
def ZUV:PC :=
 (.reg [0,3] [I 3 (.box (.s 1)),I 4 (.mv (V 0))])
def ZUW:PC :=
 (.reg [0,3,7] [I 6 (.mv (.s 0)),I 7 (.eqs false 3 [] (.s 6) (.v .nilptr))])
def ZUX:PC :=
 (.reg [4] [I 4 (.mv (V 1))])
def ZUY:PC :=
 (.reg [0,3,10] [I 8 (.ld true 7 (.s 3)),I 9 (C Qb [(.s 8)]),I 10 (.bin .eql (.s 9) (V 1))])
def ZUZ:PC :=
 (.reg [4] [I 4 (.mv (V 0))])
def ZUa:PC :=
 (.reg [3,5] [I 11 (.mv (.s 0)),I 12 (.ld true 7 (.s 3)),I 13 (C ZAq [(.s 11),(.s 12),(.v (.bool false)),(V 0)]),I 5 (.mv (.s 13))])
def ZUb:PC :=
 (.reg [3,5,15] [I 14 (.mv (.s 5)),I 15 (.bin .neq (.s 14) (V 0))])
def ZUc:PC :=
 (.reg [4] [I 16 (.mv (.s 5)),I 4 (.mv (.s 16))])
def ZUd:PC :=
 (.reg [19] [I 17 (.ld true 7 (.s 3)),I 18 (C Qi [(.s 17)]),I 19 (.bin .gtr (.s 18) (V 65536))])
def ZUe:PC :=
 (.reg [4] [I 4 (.mv (V 5))])
def ZQF:PC :=
 (.reg [4] [I 4 (.mv (V 0))])
def ZKo:PF:=⟨false,
 (.seq ZUV
 (.seq (.seq ZUW
 (.ite (.s 7)
 (.seq ZUX
 .ret)
 .skip))
 (.seq (.seq ZUY
 (.ite (.s 10)
 (.seq ZUZ
 .ret)
 .skip))
 (.seq (.seq ZUa
 (.seq ZUb
 (.ite (.s 15)
 (.seq ZUc
 .ret)
 .skip)))
 (.seq (.seq ZUd
 (.ite (.s 19)
 (.seq ZUe
 .ret)
 .skip))
 (.seq ZQF
 .ret)))))),
 [.s 4]⟩
theorem ZbH:Zs Proofs.Tryz.prog false ZbG Proofs.Tryz.f135=some ZKo:=by kernel_rfl
def ZXk:List Hint:=[H [1,2,3,4],H [1,2,3,4,15],H [2,6,7],H [7],H [5],H [3,8,9],H [3,8,9,33],H [5],H [3,35,36,37],H [3,35,36,37,38],H [3,11,35,36,37],H [3,12,35,36,37],H [3,12,35,36,37,45],H [5],H [3,35,36,37],H [5]]
def ZQG:PC :=
 (.reg [1,2,3,4] [I 4 (.box (.s 0)),I 5 (.mv (V 0))])
def ZQH:PC :=
 (.reg [1,2,3,4,15] [I 13 (.fadr 1 (.s 4)),I 14 (.ld false 1 (.s 13)),I 15 (.bin .eql (.s 14) (V 0))])
def ZQI:PC :=
 (.reg [2,6,7] [I 17 (.ld false 1 (.s 1)),I 18 (.ld true 7 (.s 4)),I 19 (C XL [(.s 17),(.s 18)]),I 16 (.mv (.s 19)),I 20 (.ext (.s 16) 0),I 21 (.ext (.s 16) 1),I 6 (.mv (.s 20)),I 7 (.mv (.s 21))])
def ZQJ:PC :=
 (.reg [7] [I 22 (.ld false 1 (.s 2)),I 23 (.mv (.s 6)),I 24 (.app 1 1 (.s 22) (.s 23)),J (.st 1 (.s 2) (.s 24))])
def ZQK:PC :=
 (.reg [5] [I 25 (.mv (.s 7)),I 5 (.mv (.s 25))])
def ZQL:PC :=
 (.reg [3,8,9] [I 27 (.ld false 1 (.s 1)),I 28 (.ld true 7 (.s 4)),I 29 (C Jl [(.s 27),(.s 28)]),I 26 (.mv (.s 29)),I 30 (.ext (.s 26) 0),I 31 (.ext (.s 26) 1),I 8 (.mv (.s 30)),I 9 (.mv (.s 31))])
def ZQM:PC :=
 (.reg [3,8,9,33] [I 32 (.mv (.s 9)),I 33 (.bin .neq (.s 32) (V 0))])
def ZQN:PC :=
 (.reg [5] [I 34 (.mv (.s 9)),I 5 (.mv (.s 34))])
def ZQO:PC :=
 (.reg [3,35,36,37] [I 35 (.mv (.s 8)),I 36 (.len 1 (.s 35)),I 37 (.mv (V 0))])
def ZQP:PC :=
 (.reg [3,35,36,37,38] [I 38 (.bin .lss (.s 37) (.s 36))])
def ZNH:PC :=
 (.reg [3,11,35,36,37] [I 39 (.ixS 7 (.s 35) (.s 37)),I 40 (.ld true 7 (.s 39)),I 11 (.box (.v ZT)),J (.st 7 (.s 11) (.s 40))])
def ZNI:PC :=
 (.reg [3,12,35,36,37] [I 41 (.ld false 1 (.s 3)),I 42 (.ld true 7 (.s 11)),I 43 (.call .norm (.s 41) [(.s 42)]),I 12 (.mv (.s 43))])
def ZNJ:PC :=
 (.reg [3,12,35,36,37,45] [I 44 (.mv (.s 12)),I 45 (.bin .neq (.s 44) (V 0))])
def ZNK:PC :=
 (.reg [5] [I 46 (.mv (.s 12)),I 5 (.mv (.s 46))])
def ZNL:PC :=
 (.reg [3,35,36,37] [I 47 (.bin .add (.s 37) (V 1)),I 37 (.mv (.s 47))])
def ZNM:PC :=
 (.seq ZQP
 (.seq (.ite (.s 38)
 .skip
 (.exit 0))
 (.seq (.block 1
 (.seq ZNH
 (.seq ZNI
 (.seq ZNJ
 (.ite (.s 45)
 (.seq ZNK
 .ret)
 .skip)))))
 ZNL)))
def ZNN:PC :=
 (.reg [5] [I 5 (.mv (V 0))])
def ZHz:PF:=⟨false,
 (.seq ZQG
 (.seq (.seq ZQH
 (.ite (.s 15)
 (.seq ZQI
 (.seq ZQJ
 (.seq ZQK
 .ret)))
 .skip))
 (.seq ZQL
 (.seq (.seq ZQM
 (.ite (.s 33)
 (.seq ZQN
 .ret)
 .skip))
 (.seq (.seq ZQO
 (.block 0
 (.loop ZNM)))
 (.seq ZNN
 .ret)))))),
 [.s 5]⟩
theorem ZXl:Zs Proofs.Tryz.prog false ZXk Proofs.Tryz.f136=some ZHz:=by kernel_rfl
def Zdl:List Hint:=[H [0,3],H [0,3,10],H [4,5],H [6,7],H [4,5]]
def ZXm:PC :=
 (.reg [0,3] [I 3 (.box (.s 1)),I 4 (.mv (.v (.str []))),I 5 (.mv (V 0))])
def ZXn:PC :=
 (.reg [0,3,10] [I 8 (.fadr 0 (.s 3)),I 9 (.ld false 1 (.s 8)),I 10 (.bin .eql (.s 9) (.v (.int .u64 0)))])
def ZXo:PC :=
 (.reg [4,5] [I 11 (.fadr 5 (.s 3)),I 12 (.ld false 1 (.s 11)),I 4 (.mv (.s 12)),I 5 (.mv (V 0))])
def ZXp:PC :=
 (.reg [6,7] [I 14 (.mv (.s 0)),I 15 (.fadr 0 (.s 3)),I 16 (.ld false 1 (.s 15)),I 17 (C Qa [(.s 14),(.s 16)]),I 13 (.mv (.s 17)),I 18 (.ext (.s 13) 0),I 19 (.ext (.s 13) 1),I 6 (.box (.v ZN)),J (.st 3 (.s 6) (.s 18)),I 7 (.mv (.s 19))])
def ZXq:PC :=
 (.reg [4,5] [I 20 (.fadr 1 (.s 6)),I 21 (.ld false 1 (.s 20)),I 22 (.mv (.s 7)),I 4 (.mv (.s 21)),I 5 (.mv (.s 22))])
def ZPD:PF:=⟨false,
 (.seq ZXm
 (.seq (.seq ZXn
 (.ite (.s 10)
 (.seq ZXo
 .ret)
 .skip))
 (.seq ZXp
 (.seq ZXq
 .ret)))),
 [.s 4,.s 5]⟩
theorem Zdm:Zs Proofs.Tryz.prog false Zdl Proofs.Tryz.f137=some ZPD:=by kernel_rfl
def ZQQ:List Hint:=[H [0,3],H [0,3,13],H [4,5],H [6,7],H [6,7,24],H [4,5],⟨[6,8],[0],[],[],[],[]⟩,H [6,8,27,28,29],H [6,8,27,28,29,30],H [6,8,10,27,28,29],H [6,8,27,28,29],H [6,8,27,28,29],H [8,47],H [4,5],H [4,5]]
def ZKp:PC :=
 (.reg [0,3] [I 3 (.box (.s 1)),I 4 (.mv (.v .nils)),I 5 (.mv (V 0))])
def ZKq:PC :=
 (.reg [0,3,13] [I 11 (.fadr 0 (.s 3)),I 12 (.ld false 1 (.s 11)),I 13 (.bin .eql (.s 12) (.v (.int .u64 0)))])
def ZKr:PC :=
 (.reg [4,5] [I 14 (.fadr 6 (.s 3)),I 15 (.ld false 1 (.s 14)),I 4 (.mv (.s 15)),I 5 (.mv (V 0))])
def ZKs:PC :=
 (.reg [6,7] [I 17 (.mv (.s 0)),I 18 (.fadr 0 (.s 3)),I 19 (.ld false 1 (.s 18)),I 20 (C Qa [(.s 17),(.s 19)]),I 16 (.mv (.s 20)),I 21 (.ext (.s 16) 0),I 22 (.ext (.s 16) 1),I 6 (.box (.v ZN)),J (.st 3 (.s 6) (.s 21)),I 7 (.mv (.s 22))])
def ZKt:PC :=
 (.reg [6,7,24] [I 23 (.mv (.s 7)),I 24 (.bin .neq (.s 23) (V 0))])
def ZKu:PC :=
 (.reg [4,5] [I 25 (.mv (.s 7)),I 4 (.mv (.v .nils)),I 5 (.mv (.s 25))])
def ZKv:PC :=
 (.reg [6,8] [I 8 (.onil 7)])
def ZKw:PC :=
 (.reg [6,8,27,28,29] [I 26 (.fadr 2 (.s 6)),I 27 (.ld false 1 (.s 26)),I 28 (.len 1 (.s 27)),I 29 (.mv (V 0))])
def ZKx:PC :=
 (.reg [6,8,27,28,29,30] [I 30 (.bin .lss (.s 29) (.s 28))])
def ZKy:PC :=
 (.reg [6,8,10,27,28,29] [I 31 (.ixS 4 (.s 27) (.s 29)),I 32 (.ld true 4 (.s 31)),I 10 (.box (.v ZK)),J (.st 4 (.s 10) (.s 32))])
def ZIs:PC :=
 (.reg [6,8,27,28,29] [I 33 (.mv (.s 8)),I 34 (.fadr 0 (.s 10)),I 35 (.ld false 1 (.s 34)),I 36 (.fadr 0 (.s 6)),I 37 (.ld false 1 (.s 36)),I 38 (.bin .sub (.s 37) (V 1)),I 39 (.fadr 1 (.s 10)),I 40 (.ld true 3 (.s 39)),I 41 (.build [(.int .u64 0),(.int .i64 0),(.int .i64 0),(.int .i64 0),(.int .i64 0),(.str []),.nils] [(0,1,(.s 35)),(1,1,(.s 38)),(2,3,(.s 40))]),I 42 (.bslice false 7 [ZT] [(0,(.s 41))]),I 43 (.app 7 80 (.s 33) (.s 42)),I 8 (.mv (.s 43))])
def ZIt:PC :=
 (.reg [6,8,27,28,29] [I 44 (.bin .add (.s 29) (V 1)),I 29 (.mv (.s 44))])
def ZBt:PC :=
 (.seq ZKx
 (.seq (.ite (.s 30)
 .skip
 (.exit 0))
 (.seq (.block 1
 (.seq ZKy
 ZIs))
 ZIt)))
def ZIu:PC :=
 (.reg [8,47] [I 45 (.mv (.s 8)),I 46 (.len 1 (.s 45)),I 47 (.bin .eql (.s 46) (V 0))])
def ZIv:PC :=
 (.reg [4,5] [I 4 (.mv (.v .nils)),I 5 (.mv (V 23))])
def ZIw:PC :=
 (.reg [4,5] [I 48 (.mv (.s 8)),I 4 (.mv (.s 48)),I 5 (.mv (V 0))])
def ZEb:PF:=⟨false,
 (.seq ZKp
 (.seq (.seq ZKq
 (.ite (.s 13)
 (.seq ZKr
 .ret)
 .skip))
 (.seq ZKs
 (.seq (.seq ZKt
 (.ite (.s 24)
 (.seq ZKu
 .ret)
 .skip))
 (.seq ZKv
 (.seq (.seq ZKw
 (.block 0
 (.loop ZBt)))
 (.seq (.seq ZIu
 (.ite (.s 47)
 (.seq ZIv
 .ret)
 .skip))
 (.seq ZIw
 .ret)))))))),
 [.s 4,.s 5]⟩
theorem ZQR:Zs Proofs.Tryz.prog false ZQQ Proofs.Tryz.f138=some ZEb:=by kernel_rfl
def Zdn:List Hint:=[H [1],H [1,3],H [1,3,13],H [2],H [1,3,31],H [2],H [1,3,46],H [2],H [65],H [2],H [2]]
def ZXr:PC :=
 (.reg [1] [I 1 (.box (.s 0)),I 2 (.mv (V 0))])
def ZXs:PC :=
 (.reg [1,3] [I 4 (.fadr 2 (.s 1)),I 5 (.ld true 3 (.s 4)),I 6 (.build [(.int .i64 0),(.int .i64 0),(.int .i64 0)] []),I 7 (.eqs false 0 [(0,0),(1,0),(2,0)] (.s 5) (.s 6)),I 8 (.mv (.s 7)),G 9 8 true (.fadr 0 (.s 1)),G 10 8 true (.ld false 1 (.s 9)),G 11 8 true (.bin .eql (.s 10) (.v (.int .u64 0))),I 12 (.pick (.s 8) (.s 11) (.v (.bool false))),I 3 (.mv (.s 12))])
def ZXt:PC :=
 (.reg [1,3,13] [I 14 (.mv (.s 3)),I 15 (.mv (.s 14)),G 16 15 true (.fadr 1 (.s 1)),G 17 15 true (.ld false 1 (.s 16)),G 18 15 true (.bin .eql (.s 17) (V 0)),I 19 (.pick (.s 15) (.s 18) (.v (.bool false))),I 20 (.mv (.s 19)),G 21 20 true (.fadr 5 (.s 1)),G 22 20 true (.ld false 1 (.s 21)),G 23 20 true (.bin .eql (.s 22) (.v (.str []))),I 24 (.pick (.s 20) (.s 23) (.v (.bool false))),I 25 (.mv (.s 24)),G 26 25 true (.fadr 6 (.s 1)),G 27 25 true (.ld false 1 (.s 26)),G 28 25 true (.len 1 (.s 27)),G 29 25 true (.bin .eql (.s 28) (V 0)),I 30 (.pick (.s 25) (.s 29) (.v (.bool false))),I 13 (.mv (.s 30))])
def ZXu:PC :=
 (.reg [2] [I 2 (.mv (V 1))])
def ZXv:PC :=
 (.reg [1,3,31] [I 32 (.fadr 0 (.s 1)),I 33 (.ld false 1 (.s 32)),I 34 (.bin .neq (.s 33) (.v (.int .u64 0))),I 35 (.mv (.s 34)),G 36 35 true (.fadr 5 (.s 1)),G 37 35 true (.ld false 1 (.s 36)),G 38 35 true (.bin .eql (.s 37) (.v (.str []))),I 39 (.pick (.s 35) (.s 38) (.v (.bool false))),I 40 (.mv (.s 39)),G 41 40 true (.fadr 6 (.s 1)),G 42 40 true (.ld false 1 (.s 41)),G 43 40 true (.len 1 (.s 42)),G 44 40 true (.bin .eql (.s 43) (V 0)),I 45 (.pick (.s 40) (.s 44) (.v (.bool false))),I 31 (.mv (.s 45))])
def ZXw:PC :=
 (.reg [2] [I 2 (.mv (V 2))])
def ZXx:PC :=
 (.reg [1,3,46] [I 47 (.mv (.s 3)),I 48 (.mv (.s 47)),G 49 48 true (.fadr 1 (.s 1)),G 50 48 true (.ld false 1 (.s 49)),G 51 48 true (.bin .eql (.s 50) (V 0)),I 52 (.pick (.s 48) (.s 51) (.v (.bool false))),I 53 (.mv (.s 52)),G 54 53 true (.fadr 6 (.s 1)),G 55 53 true (.ld false 1 (.s 54)),G 56 53 true (.len 1 (.s 55)),G 57 53 true (.bin .eql (.s 56) (V 0)),I 58 (.pick (.s 53) (.s 57) (.v (.bool false))),I 59 (.mv (.s 58)),G 60 59 true (.fadr 5 (.s 1)),G 61 59 true (.ld false 1 (.s 60)),G 62 59 true (.len 0 (.s 61)),G 63 59 true (.bin .leq (.s 62) (V 16)),I 64 (.pick (.s 59) (.s 63) (.v (.bool false))),I 46 (.mv (.s 64))])
def ZXy:PC :=
 (.reg [2] [I 2 (.mv (V 3))])
def ZXz:PC :=
 (.reg [65] [I 66 (.mv (.s 3)),I 67 (.mv (.s 66)),G 68 67 true (.fadr 5 (.s 1)),G 69 67 true (.ld false 1 (.s 68)),G 70 67 true (.bin .eql (.s 69) (.v (.str []))),I 71 (.pick (.s 67) (.s 70) (.v (.bool false))),I 72 (.mv (.s 71)),G 73 72 true (.fadr 1 (.s 1)),G 74 72 true (.ld false 1 (.s 73)),G 75 72 true (.bin .geq (.s 74) (V 1)),I 76 (.pick (.s 72) (.s 75) (.v (.bool false))),I 77 (.mv (.s 76)),G 78 77 true (.fadr 1 (.s 1)),G 79 77 true (.ld false 1 (.s 78)),G 80 77 true (.bin .leq (.s 79) (V 16)),I 81 (.pick (.s 77) (.s 80) (.v (.bool false))),I 82 (.mv (.s 81)),G 83 82 true (.fadr 6 (.s 1)),G 84 82 true (.ld false 1 (.s 83)),G 85 82 true (.len 1 (.s 84)),G 86 82 true (.bin .geq (.s 85) (V 2)),I 87 (.pick (.s 82) (.s 86) (.v (.bool false))),I 88 (.mv (.s 87)),G 89 88 true (.fadr 6 (.s 1)),G 90 88 true (.ld false 1 (.s 89)),G 91 88 true (.len 1 (.s 90)),G 92 88 true (.bin .leq (.s 91) (V 4)),I 93 (.pick (.s 88) (.s 92) (.v (.bool false))),I 65 (.mv (.s 93))])
def ZX0:PC :=
 (.reg [2] [I 2 (.mv (V 4))])
def ZUf:PC :=
 (.reg [2] [I 2 (.mv (V 0))])
def ZPE:PF:=⟨false,
 (.seq ZXr
 (.seq ZXs
 (.seq (.block 0
 (.seq ZXt
 (.ite (.s 13)
 (.seq ZXu
 .ret)
 (.seq ZXv
 (.ite (.s 31)
 (.seq ZXw
 .ret)
 (.seq ZXx
 (.ite (.s 46)
 (.seq ZXy
 .ret)
 (.seq ZXz
 (.ite (.s 65)
 (.seq ZX0
 .ret)
 .skip)))))))))
 (.seq ZUf
 .ret)))),
 [.s 2]⟩
theorem Zdo:Zs Proofs.Tryz.prog false Zdn Proofs.Tryz.f139=some ZPE:=by kernel_rfl
def ZbI:List Hint:=[H [0,3],H [0,3,6],H [0,3,6,12],H [4,5],H [0,3,19],H [4,5],H [3,7],H [7],H [4,5]]
def ZUg:PC :=
 (.reg [0,3] [I 3 (.box (.s 1)),I 4 (.mv (.v .nilptr)),I 5 (.mv (V 0))])
def ZUh:PC :=
 (.reg [0,3,6] [I 8 (.mv (.s 0)),I 9 (.ld true 7 (.s 3)),I 10 (C J8 [(.s 8),(.s 9)]),I 6 (.mv (.s 10))])
def ZUi:PC :=
 (.reg [0,3,6,12] [I 11 (.mv (.s 6)),I 12 (.bin .neq (.s 11) (V 0))])
def ZUj:PC :=
 (.reg [4,5] [I 13 (.mv (.s 6)),I 4 (.mv (.v .nilptr)),I 5 (.mv (.s 13))])
def ZUk:PC :=
 (.reg [0,3,19] [I 14 (.ld true 7 (.s 3)),I 15 (C X4 [(.s 14)]),I 16 (.mv (.s 0)),I 17 (C Yq [(.s 16)]),I 18 (.fld false 1 1 (.s 17)),I 19 (.bin .gtr (.s 15) (.s 18))])
def ZUl:PC :=
 (.reg [4,5] [I 4 (.mv (.v .nilptr)),I 5 (.mv (V 6))])
def ZUm:PC :=
 (.reg [3,7] [I 20 (.mv (.s 0)),I 21 (.build [.nilptr,.nils,.nilptr] [(0,1,(.s 20))]),I 22 (.box (.s 21)),I 7 (.mv (.s 22))])
def ZUn:PC :=
 (.reg [7] [I 23 (.mv (.s 7)),I 24 (.mv (.s 7)),I 25 (.ld true 7 (.s 3)),I 26 (C Qe [(.s 24),(.s 25)]),I 27 (.nilck (.s 23)),I 28 (.fadr 2 (.s 27)),J (.st 1 (.s 28) (.s 26))])
def ZUo:PC :=
 (.reg [4,5] [I 29 (.mv (.s 7)),I 4 (.mv (.s 29)),I 5 (.mv (V 0))])
def ZKz:PF:=⟨true,
 (.seq ZUg
 (.seq (.seq ZUh
 (.seq ZUi
 (.ite (.s 12)
 (.seq ZUj
 .ret)
 .skip)))
 (.seq (.seq ZUk
 (.ite (.s 19)
 (.seq ZUl
 .ret)
 .skip))
 (.seq ZUm
 (.seq ZUn
 (.seq ZUo
 .ret)))))),
 [.s 4,.s 5]⟩
theorem ZbJ:Zs Proofs.Tryz.prog true ZbI Proofs.Tryz.f140=some ZKz:=by kernel_rfl
def ZQS:List Hint:=[H [0],H [0,6],H [2,3,4],H [0,12],H [2,3,4],H [0,2,4],H [0,2,4,24],H [2,3,4],H [0,2],H [2,3,4]]
def ZK0:PC :=
 (.reg [0] [I 2 (.mv (.v (.int .u64 0))),I 3 (.mv (.v (.bool false))),I 4 (.mv (V 0))])
def ZK1:PC :=
 (.reg [0,6] [I 5 (.mv (.s 0)),I 6 (.eqs false 3 [] (.s 5) (.v .nilptr))])
def ZK2:PC :=
 (.reg [2,3,4] [I 2 (.mv (.v (.int .u64 0))),I 3 (.mv (.v (.bool false))),I 4 (.mv (V 1))])
def ZK3:PC :=
 (.reg [0,12] [I 7 (.mv (.s 0)),I 8 (.nilck (.s 7)),I 9 (.fadr 1 (.s 8)),I 10 (.ld false 1 (.s 9)),I 11 (.len 1 (.s 10)),I 12 (.bin .eql (.s 11) (V 0))])
def ZK4:PC :=
 (.reg [2,3,4] [I 2 (.mv (.v (.int .u64 0))),I 3 (.mv (.v (.bool true))),I 4 (.mv (V 0))])
def ZK5:PC :=
 (.reg [0,2,4] [I 14 (.mv (.s 0)),I 15 (.nilck (.s 14)),I 16 (.fadr 1 (.s 15)),I 17 (.ld false 1 (.s 16)),I 18 (.ixS 1 (.s 17) (V 0)),I 19 (.ld false 1 (.s 18)),I 20 (.call .norm (.s 19) []),I 13 (.mv (.s 20)),I 21 (.ext (.s 13) 0),I 22 (.ext (.s 13) 1),I 2 (.mv (.s 21)),I 4 (.mv (.s 22))])
def ZK6:PC :=
 (.reg [0,2,4,24] [I 23 (.mv (.s 4)),I 24 (.bin .neq (.s 23) (V 0))])
def ZK7:PC :=
 (.reg [2,3,4] [I 25 (.mv (.s 4)),I 2 (.mv (.v (.int .u64 0))),I 3 (.mv (.v (.bool false))),I 4 (.mv (.s 25))])
def ZK8:PC :=
 (.reg [0,2] [I 26 (.mv (.s 0)),I 27 (.mv (.s 0)),I 28 (.nilck (.s 27)),I 29 (.fadr 1 (.s 28)),I 30 (.ld false 1 (.s 29)),I 31 (.slc 1 (.s 30) (some (V 1)) none),I 32 (.nilck (.s 26)),I 33 (.fadr 1 (.s 32)),J (.st 1 (.s 33) (.s 31))])
def ZK9:PC :=
 (.reg [2,3,4] [I 34 (.mv (.s 2)),I 35 (.mv (.s 0)),I 36 (.nilck (.s 35)),I 37 (.fadr 1 (.s 36)),I 38 (.ld false 1 (.s 37)),I 39 (.len 1 (.s 38)),I 40 (.bin .eql (.s 39) (V 0)),I 2 (.mv (.s 34)),I 3 (.mv (.s 40)),I 4 (.mv (V 0))])
def ZEc:PF:=⟨false,
 (.seq ZK0
 (.seq (.seq ZK1
 (.ite (.s 6)
 (.seq ZK2
 .ret)
 .skip))
 (.seq (.seq ZK3
 (.ite (.s 12)
 (.seq ZK4
 .ret)
 .skip))
 (.seq ZK5
 (.seq (.seq ZK6
 (.ite (.s 24)
 (.seq ZK7
 .ret)
 .skip))
 (.seq ZK8
 (.seq ZK9
 .ret))))))),
 [.s 2,.s 3,.s 4]⟩
theorem ZQT:Zs Proofs.Tryz.prog false ZQS Proofs.Tryz.f141=some ZEc:=by kernel_rfl
def ZQU:List Hint:=[H [0,2],H [0,2,5],H [2,3],H [0,2,12],H [2,3],H [2,3]]
def ZLA:PC :=
 (.reg [0,2] [I 2 (.box (.v ZR)),I 3 (.mv (V 0))])
def ZLB:PC :=
 (.reg [0,2,5] [I 4 (.mv (.s 0)),I 5 (.eqs false 3 [] (.s 4) (.v .nilptr))])
def ZLC:PC :=
 (.reg [2,3] [I 6 (.build [(.int .u64 0),(.int .i64 0),(.int .i64 0),(.int .i64 0),(.int .i64 0)] []),J (.st 5 (.s 2) (.s 6)),I 3 (.mv (V 1))])
def ZLD:PC :=
 (.reg [0,2,12] [I 7 (.mv (.s 0)),I 8 (.nilck (.s 7)),I 9 (.fadr 1 (.s 8)),I 10 (.ld false 1 (.s 9)),I 11 (.len 1 (.s 10)),I 12 (.bin .gtr (.s 11) (V 0))])
def ZLE:PC :=
 (.reg [2,3] [I 13 (.build [(.int .u64 0),(.int .i64 0),(.int .i64 0),(.int .i64 0),(.int .i64 0)] []),J (.st 5 (.s 2) (.s 13)),I 3 (.mv (V 8))])
def ZLF:PC :=
 (.reg [2,3] [I 14 (.mv (.s 0)),I 15 (.nilck (.s 14)),I 16 (.fadr 2 (.s 15)),I 17 (.ld false 1 (.s 16)),I 18 (.nilck (.s 17)),I 19 (.ld true 5 (.s 18)),J (.st 5 (.s 2) (.s 19)),I 3 (.mv (V 0))])
def ZEd:PF:=⟨false,
 (.seq ZLA
 (.seq (.seq ZLB
 (.ite (.s 5)
 (.seq ZLC
 .ret)
 .skip))
 (.seq (.seq ZLD
 (.ite (.s 12)
 (.seq ZLE
 .ret)
 .skip))
 (.seq ZLF
 .ret)))),
 [.c 2 true 5,.s 3]⟩
theorem ZQV:Zs Proofs.Tryz.prog false ZQU Proofs.Tryz.f142=some ZEd:=by kernel_rfl
def ZQW:List Hint:=[H [0,1,2,3,4,11],H [0,1,2,3,4,6,7,9],H [0,1,2,3,4,6,7,9,28],H [0,1,2,3,4,6,7,9],H [0,1,2,3,4,6,7,9,30],H [],H [0,1,2,3,4,6],H [0,1,2,3,4,6,46],⟨[0,1,2,3,4],[],[],[],[(4,(.hide [(.s 4)])),(8,(.plain (.s 4)))],[]⟩]
def ZLG:PC :=
 (.reg [0,1,2,3,4,11] [I 10 (.ld false 1 (.s 1)),I 11 (.bin .gtr (.s 10) (V 0))])
def ZLH:PC :=
 (.reg [0,1,2,3,4,6,7,9] [I 13 (.ld false 1 (.s 2)),I 14 (.ld true 5 (.s 3)),I 15 (.ld false 1 (.s 4)),I 16 (C ZFt [(.s 13),(.s 14),(.s 15)]),I 12 (.mv (.s 16)),I 17 (.ext (.s 12) 0),I 18 (.ext (.s 12) 1),I 19 (.ext (.s 12) 2),I 20 (.ext (.s 12) 3),I 6 (.mv (.s 17)),I 7 (.mv (.s 18)),I 8 (.mv (.s 19)),I 9 (.mv (.s 20))])
def ZLI:PC :=
 (.reg [0,1,2,3,4,6,7,9,28] [I 21 (.mv (.s 9)),I 22 (.bin .eql (.s 21) (V 0)),I 23 (.mv (.s 22)),G 24 23 true (.mv (.s 7)),G 25 23 true (.mv (.s 6)),G 26 23 true (.len 0 (.s 25)),G 27 23 true (.bin .geq (.s 24) (.s 26)),I 28 (.pick (.s 23) (.s 27) (.v (.bool false)))])
def ZLJ:PC :=
 (.reg [0,1,2,3,4,6,7,9] [I 9 (.mv (V 23))])
def ZLK:PC :=
 (.reg [0,1,2,3,4,6,7,9,30] [I 29 (.mv (.s 9)),I 30 (.bin .neq (.s 29) (V 0))])
def ZLL:PC :=
 (.reg [] [I 31 (.mv (.s 0)),I 32 (.mv (.s 9)),I 33 (.call .norm (.s 31) [(.v (.str [])),(.s 32)])])
def ZLM:PC :=
 (.reg [0,1,2,3,4,6] [I 34 (.mv (.s 6)),I 35 (.mv (.s 7)),I 36 (.mv (.s 6)),I 37 (.len 0 (.s 36)),I 38 (.mv (.s 7)),I 39 (.ld false 1 (.s 1)),I 40 (.bin .add (.s 38) (.s 39)),I 41 (.mnx false (.s 37) (.s 40)),I 42 (.slcS (.s 34) (some (.s 35)) (some (.s 41))),I 6 (.mv (.s 42))])
def ZLN:PC :=
 (.reg [0,1,2,3,4,6,46] [I 43 (.mv (.s 0)),I 44 (.mv (.s 6)),I 45 (.call .norm (.s 43) [(.s 44),(V 0)]),I 46 (.un .not (.s 45))])
def ZLO:PC :=
 (.reg [0,1,2,3,4] [I 47 (.ld false 1 (.s 4)),I 48 (.mv (.s 6)),I 49 (.len 0 (.s 48)),I 50 (.bin .add (.s 47) (.s 49)),I 51 (.w (.hide [(.s 4)]) (.ld false 1 (.s 1))),I 52 (.mv (.s 6)),I 53 (.len 0 (.s 52)),I 54 (.bin .sub (.s 51) (.s 53)),J (.w (.plain (.s 4)) (.st 1 (.s 4) (.s 50))),J (.st 1 (.s 1) (.s 54))])
def ZLP:PC :=
 (.seq (.seq ZLG
 (.ite (.s 11)
 .skip
 (.exit 0)))
 (.block 1
 (.seq ZLH
 (.seq (.seq ZLI
 (.ite (.s 28)
 ZLJ
 .skip))
 (.seq (.seq ZLK
 (.ite (.s 30)
 (.seq ZLL
 .ret)
 .skip))
 (.seq ZLM
 (.seq (.seq ZLN
 (.ite (.s 46)
 .ret
 .skip))
 ZLO)))))))
def ZEe:PF:=⟨false,
 (.block 0
 (.loop ZLP)),
 []⟩
theorem ZQX:Zs Proofs.Tryz.prog false ZQW Proofs.Tryz.f143=some ZEe:=by kernel_rfl
def Zdp:List Hint:=[H [0,2,4],H [0,2,4,10],H [0,2,4,10,16],H [6,7,8,9],H [0,2,4,26],H [6,7,8,9],H [9,11],H [6,7,8,9]]
def ZX1:PC :=
 (.reg [0,2,4] [I 4 (.box (.s 1)),I 6 (.mv (.v (.str []))),I 7 (.mv (V 0)),I 8 (.mv (.v .nils)),I 9 (.mv (V 0))])
def ZX2:PC :=
 (.reg [0,2,4,10] [I 12 (.mv (.s 0)),I 13 (.ld true 5 (.s 4)),I 14 (C ZDX [(.s 12),(.s 13)]),I 10 (.mv (.s 14))])
def ZX3:PC :=
 (.reg [0,2,4,10,16] [I 15 (.mv (.s 10)),I 16 (.bin .neq (.s 15) (V 0))])
def ZX4:PC :=
 (.reg [6,7,8,9] [I 17 (.mv (.s 10)),I 6 (.mv (.v (.str []))),I 7 (.mv (V 0)),I 8 (.mv (.v .nils)),I 9 (.mv (.s 17))])
def ZX5:PC :=
 (.reg [0,2,4,26] [I 18 (.mv (.s 2)),I 19 (.bin .lss (.s 18) (V 0)),I 20 (.mv (.s 19)),G 21 20 false (.mv (.s 2)),G 22 20 false (.fadr 2 (.s 4)),G 23 20 false (.fadr 0 (.s 22)),G 24 20 false (.ld false 1 (.s 23)),G 25 20 false (.bin .geq (.s 21) (.s 24)),I 26 (.pick (.s 20) (.v (.bool true)) (.s 25))])
def ZX6:PC :=
 (.reg [6,7,8,9] [I 6 (.mv (.v (.str []))),I 7 (.mv (V 0)),I 8 (.mv (.v .nils)),I 9 (.mv (V 3))])
def ZX7:PC :=
 (.reg [9,11] [I 28 (.mv (.s 0)),I 29 (.ld true 5 (.s 4)),I 30 (.mv (.s 2)),I 31 (C ZFw [(.s 28),(.s 29),(.s 30),(.v (.func (.func ZAp) [] [])),(.v (.func (.func ZAE) [] []))]),I 27 (.mv (.s 31)),I 32 (.ext (.s 27) 0),I 33 (.ext (.s 27) 1),I 11 (.box (.v (.agg [(.str []),(.int .i64 0),.nils]))),J (.st 3 (.s 11) (.s 32)),I 9 (.mv (.s 33))])
def ZX8:PC :=
 (.reg [6,7,8,9] [I 34 (.fadr 0 (.s 11)),I 35 (.ld false 1 (.s 34)),I 36 (.fadr 1 (.s 11)),I 37 (.ld false 1 (.s 36)),I 38 (.fadr 2 (.s 11)),I 39 (.ld false 1 (.s 38)),I 40 (.mv (.s 9)),I 6 (.mv (.s 35)),I 7 (.mv (.s 37)),I 8 (.mv (.s 39)),I 9 (.mv (.s 40))])
def ZPF:PF:=⟨false,
 (.seq ZX1
 (.seq (.seq ZX2
 (.seq ZX3
 (.ite (.s 16)
 (.seq ZX4
 .ret)
 .skip)))
 (.seq (.seq ZX5
 (.ite (.s 26)
 (.seq ZX6
 .ret)
 .skip))
 (.seq ZX7
 (.seq ZX8
 .ret))))),
 [.s 6,.s 7,.s 8,.s 9]⟩
theorem Zdq:Zs Proofs.Tryz.prog false Zdp Proofs.Tryz.f144=some ZPF:=by kernel_rfl
def Zdr:List Hint:=[H [0,1,2,7],H [2,7,9,10],H [2,7,9,10,19],H [8],H [2,7,9,10,11],H [38],H [8],H [8]]
def ZX9:PC :=
 (.reg [0,1,2,7] [I 7 (.box (.s 3)),I 8 (.mv (V 0))])
def ZYA:PC :=
 (.reg [2,7,9,10] [I 13 (.mv (.s 0)),I 14 (.mv (.s 1)),I 15 (C Qa [(.s 13),(.s 14)]),I 12 (.mv (.s 15)),I 16 (.ext (.s 12) 0),I 17 (.ext (.s 12) 1),I 9 (.box (.v ZN)),J (.st 3 (.s 9) (.s 16)),I 10 (.mv (.s 17))])
def ZYB:PC :=
 (.reg [2,7,9,10,19] [I 18 (.mv (.s 10)),I 19 (.bin .neq (.s 18) (V 0))])
def ZYC:PC :=
 (.reg [8] [I 20 (.mv (.s 10)),I 8 (.mv (.s 20))])
def ZYD:PC :=
 (.reg [2,7,9,10,11] [I 22 (.ld true 3 (.s 9)),I 23 (C Jz [(.s 22)]),I 21 (.mv (.s 23)),I 24 (.ext (.s 21) 0),I 25 (.ext (.s 21) 1),I 11 (.box (.v ZM)),J (.st 3 (.s 11) (.s 24)),I 10 (.mv (.s 25))])
def ZYE:PC :=
 (.reg [38] [I 26 (.mv (.s 10)),I 27 (.bin .neq (.s 26) (V 0)),I 28 (.mv (.s 27)),G 29 28 false (.fadr 0 (.s 9)),G 30 28 false (.ld false 1 (.s 29)),G 31 28 false (.mv (.s 2)),G 32 28 false (.bin .neq (.s 30) (.s 31)),I 33 (.pick (.s 28) (.v (.bool true)) (.s 32)),I 34 (.mv (.s 33)),G 35 34 false (.ld true 3 (.s 11)),G 36 34 false (.ld true 3 (.s 7)),G 37 34 false (.eqs true 0 [(0,0),(1,0),(2,0)] (.s 35) (.s 36)),I 38 (.pick (.s 34) (.v (.bool true)) (.s 37))])
def ZYF:PC :=
 (.reg [8] [I 8 (.mv (V 23))])
def ZYG:PC :=
 (.reg [8] [I 8 (.mv (V 0))])
def ZPG:PF:=⟨false,
 (.seq ZX9
 (.seq ZYA
 (.seq (.seq ZYB
 (.ite (.s 19)
 (.seq ZYC
 .ret)
 .skip))
 (.seq ZYD
 (.seq (.seq ZYE
 (.ite (.s 38)
 (.seq ZYF
 .ret)
 .skip))
 (.seq ZYG
 .ret)))))),
 [.s 8]⟩
theorem Zds:Zs Proofs.Tryz.prog false Zdr Proofs.Tryz.f149=some ZPG:=by kernel_rfl
def ZUp:List Hint:=[H [1,2,3],H [1,2,3,4],H [2,4],H [2,4,8],H []]
def ZNO:PC :=
 (.reg [1,2,3] [I 3 (.box (.s 0))])
def ZNP:PC :=
 (.reg [1,2,3,4] [I 4 (.box (.v .nilfunc))])
def ZNQ:PC :=
 (.reg [2,4] [I 5 (.mkf (.func Xz) [] [(.s 1),(.s 3),(.s 4)]),J (.st 1 (.s 4) (.s 5))])
def ZNR:PC :=
 (.reg [2,4,8] [I 6 (.fadr 0 (.s 2)),I 7 (.ld false 1 (.s 6)),I 8 (.bin .neq (.s 7) (.v (.int .u64 0)))])
def ZNS:PC :=
 (.reg [] [I 9 (.ld false 1 (.s 4)),I 10 (.fadr 0 (.s 2)),I 11 (.ld false 1 (.s 10)),I 12 (.call .norm (.s 9) [(.s 11)])])
def ZGj:PF:=⟨false,
 (.seq ZNO
 (.seq ZNP
 (.seq ZNQ
 (.seq ZNR
 (.ite (.s 8)
 ZNS
 .skip))))),
 []⟩
theorem ZUq:Zs Proofs.Tryz.prog false ZUp Proofs.Tryz.f155=some ZGj:=by kernel_rfl
def ZNT:List Hint:=[H [0,1,2,3],H [0,2,3,6,7],H [3,6,26],H [5],H [3,28,29,30],H [3,28,29,30,31],H [3,9,28,29,30],H [3,28,29,30,38],H [5],H [3,28,29,30],H [5]]
def ZIx:PC :=
 (.reg [0,1,2,3] [I 5 (.mv (.v (.bool false)))])
def ZIy:PC :=
 (.reg [0,2,3,6,7] [I 11 (.ld false 1 (.s 1)),I 12 (.mv (.s 0)),I 13 (C Qa [(.s 11),(.s 12)]),I 10 (.mv (.s 13)),I 14 (.ext (.s 10) 0),I 15 (.ext (.s 10) 1),I 6 (.box (.v ZN)),J (.st 3 (.s 6) (.s 14)),I 7 (.mv (.s 15))])
def ZIz:PC :=
 (.reg [3,6,26] [I 16 (.ld false 1 (.s 2)),I 17 (.mv (.s 0)),I 18 (.ld true 3 (.s 6)),I 19 (.mv (.s 7)),I 20 (.build [(.int .i64 0),(.str []),.nils,(.int .i64 0)] [(0,3,(.s 18)),(3,1,(.s 19))]),I 21 (.call .norm (.s 16) [(.s 17),(.s 20)]),I 22 (.un .not (.s 21)),I 23 (.mv (.s 22)),G 24 23 false (.mv (.s 7)),G 25 23 false (.bin .neq (.s 24) (V 0)),I 26 (.pick (.s 23) (.v (.bool true)) (.s 25))])
def ZI0:PC :=
 (.reg [5] [I 5 (.mv (.v (.bool false)))])
def ZI1:PC :=
 (.reg [3,28,29,30] [I 27 (.fadr 2 (.s 6)),I 28 (.ld false 1 (.s 27)),I 29 (.len 1 (.s 28)),I 30 (.mv (V 0))])
def ZI2:PC :=
 (.reg [3,28,29,30,31] [I 31 (.bin .lss (.s 30) (.s 29))])
def ZI3:PC :=
 (.reg [3,9,28,29,30] [I 32 (.ixS 4 (.s 28) (.s 30)),I 33 (.ld true 4 (.s 32)),I 9 (.box (.v ZK)),J (.st 4 (.s 9) (.s 33))])
def ZI4:PC :=
 (.reg [3,28,29,30,38] [I 34 (.ld false 1 (.s 3)),I 35 (.fadr 0 (.s 9)),I 36 (.ld false 1 (.s 35)),I 37 (.call .norm (.s 34) [(.s 36)]),I 38 (.un .not (.s 37))])
def ZI5:PC :=
 (.reg [5] [I 5 (.mv (.v (.bool false)))])
def ZI6:PC :=
 (.reg [3,28,29,30] [I 39 (.bin .add (.s 30) (V 1)),I 30 (.mv (.s 39))])
def ZHp:PC :=
 (.seq ZI2
 (.seq (.ite (.s 31)
 .skip
 (.exit 0))
 (.seq (.block 1
 (.seq ZI3
 (.seq ZI4
 (.ite (.s 38)
 (.seq ZI5
 .ret)
 .skip))))
 ZI6)))
def ZHq:PC :=
 (.reg [5] [I 5 (.mv (.v (.bool true)))])
def ZCs:PF:=⟨false,
 (.seq ZIx
 (.seq ZIy
 (.seq (.seq ZIz
 (.ite (.s 26)
 (.seq ZI0
 .ret)
 .skip))
 (.seq (.seq ZI1
 (.block 0
 (.loop ZHp)))
 (.seq ZHq
 .ret))))),
 [.s 5]⟩
theorem ZNU:Zs Proofs.Tryz.prog false ZNT Proofs.Tryz.f156=some ZCs:=by kernel_rfl
def ZbK:List Hint:=[H [1],H [1,3],H [3,14,15,16],H [3,14,15,16,17],H [3,5,14,15,16],H [3,14,15,16],H [3,14,15,16],H [2]]
def ZUr:PC :=
 (.reg [1] [I 1 (.box (.s 0)),I 2 (.mv (V 0))])
def ZUs:PC :=
 (.reg [1,3] [I 6 (.fadr 2 (.s 1)),I 7 (.fadr 0 (.s 6)),I 8 (.ld false 1 (.s 7)),I 9 (.fadr 5 (.s 1)),I 10 (.ld false 1 (.s 9)),I 11 (.len 0 (.s 10)),I 12 (.bin .add (.s 8) (.s 11)),I 3 (.mv (.s 12))])
def ZUt:PC :=
 (.reg [3,14,15,16] [I 13 (.fadr 6 (.s 1)),I 14 (.ld false 1 (.s 13)),I 15 (.len 1 (.s 14)),I 16 (.mv (V 0))])
def ZUu:PC :=
 (.reg [3,14,15,16,17] [I 17 (.bin .lss (.s 16) (.s 15))])
def ZUv:PC :=
 (.reg [3,5,14,15,16] [I 18 (.ixS 7 (.s 14) (.s 16)),I 19 (.ld true 7 (.s 18)),I 5 (.box (.v ZT)),J (.st 7 (.s 5) (.s 19))])
def ZUw:PC :=
 (.reg [3,14,15,16] [I 20 (.mv (.s 3)),I 21 (.ld true 7 (.s 5)),I 22 (C Qi [(.s 21)]),I 23 (.bin .add (.s 20) (.s 22)),I 3 (.mv (.s 23))])
def ZUx:PC :=
 (.reg [3,14,15,16] [I 24 (.bin .add (.s 16) (V 1)),I 16 (.mv (.s 24))])
def ZUy:PC :=
 (.seq ZUu
 (.seq (.ite (.s 17)
 .skip
 (.exit 0))
 (.seq (.block 1
 (.seq ZUv
 ZUw))
 ZUx)))
def ZUz:PC :=
 (.reg [2] [I 25 (.mv (.s 3)),I 2 (.mv (.s 25))])
def ZLQ:PF:=⟨false,
 (.seq ZUr
 (.seq ZUs
 (.seq (.seq ZUt
 (.block 0
 (.loop ZUy)))
 (.seq ZUz
 .ret)))),
 [.s 2]⟩
theorem ZbL:Zs Proofs.Tryz.prog false ZbK Proofs.Tryz.f157=some ZLQ:=by kernel_rfl
def ZfP:List Hint:=[H [0,2,4,6,7],H [0,2,4,6,7,18],⟨[6,7,8],[],[],[],[(1,(.hide [(.s 6)])),(2,(.plain (.s 6)))],[]⟩,H [0,2,4,6,7,24],H [6,7,8],H [0,2,4,6,7,29],H [2,6,7,9,10],H [2,6,7,9,10,37],H [6,7,8],H [6,7,10,11,12],H [6,7,8],H [0,2,6,7,8,13],H [0,2,6,7,8,13,60],H [6,7,8],H [0,2,6,7,13,14],H [0,2,6,7,13,14,77],H [0,2,6,7,13,14],H [0,2,6,7,13,14],H [0,2,6,7,13,14,88],⟨[6,7,8],[],[(3,.pure)],[],[],[]⟩,H [0,6,7,8,13,14,15,16],H [0,6,7,8,13,14,15,16,109],H [6,7,8],⟨[0,6,7,8,13,14,16],[],[(4,.pure)],[],[],[]⟩,H [0,6,7,8,13,14,16,124],H [6,7,8],⟨[6,7,8],[],[(6,.pure)],[],[],[]⟩,H [6,7,8,140],H [6,7,8],⟨[6,7,8],[],[],[],[(1,(.hide [(.s 6)])),(2,(.plain (.s 6)))],[]⟩]
def ZbM:PC :=
 (.reg [0,2,4,6,7] [I 4 (.box (.s 1)),I 6 (.box (.v ZT)),I 7 (.box (.v ZT)),I 8 (.mv (V 0))])
def ZbN:PC :=
 (.reg [0,2,4,6,7,18] [I 17 (.mv (.s 2)),I 18 (.bin .eql (.s 17) (V 0))])
def ZbO:PC :=
 (.reg [6,7,8] [I 19 (.build [(.int .u64 0),(.int .i64 0),(.int .i64 0),(.int .i64 0),(.int .i64 0),(.str []),.nils] []),I 20 (.w (.hide [(.s 6)]) (.ld true 7 (.s 4))),J (.w (.plain (.s 6)) (.st 7 (.s 6) (.s 19))),J (.st 7 (.s 7) (.s 20)),I 8 (.mv (V 0))])
def ZbP:PC :=
 (.reg [0,2,4,6,7,24] [I 21 (.mv (.s 2)),I 22 (.ld true 7 (.s 4)),I 23 (C Qi [(.s 22)]),I 24 (.bin .eql (.s 21) (.s 23))])
def ZbQ:PC :=
 (.reg [6,7,8] [I 25 (.ld true 7 (.s 4)),I 26 (.build [(.int .u64 0),(.int .i64 0),(.int .i64 0),(.int .i64 0),(.int .i64 0),(.str []),.nils] []),J (.st 7 (.s 6) (.s 25)),J (.st 7 (.s 7) (.s 26)),I 8 (.mv (V 0))])
def ZbR:PC :=
 (.reg [0,2,4,6,7,29] [I 27 (.fadr 1 (.s 4)),I 28 (.ld false 1 (.s 27)),I 29 (.bin .eql (.s 28) (V 0))])
def ZbS:PC :=
 (.reg [2,6,7,9,10] [I 31 (.mv (.s 0)),I 32 (.ld true 7 (.s 4)),I 33 (C XL [(.s 31),(.s 32)]),I 30 (.mv (.s 33)),I 34 (.ext (.s 30) 0),I 35 (.ext (.s 30) 1),I 9 (.mv (.s 34)),I 10 (.mv (.s 35))])
def ZbT:PC :=
 (.reg [2,6,7,9,10,37] [I 36 (.mv (.s 10)),I 37 (.bin .neq (.s 36) (V 0))])
def ZbU:PC :=
 (.reg [6,7,8] [I 38 (.build [(.int .u64 0),(.int .i64 0),(.int .i64 0),(.int .i64 0),(.int .i64 0),(.str []),.nils] []),I 39 (.build [(.int .u64 0),(.int .i64 0),(.int .i64 0),(.int .i64 0),(.int .i64 0),(.str []),.nils] []),I 40 (.mv (.s 10)),J (.st 7 (.s 6) (.s 38)),J (.st 7 (.s 7) (.s 39)),I 8 (.mv (.s 40))])
def ZbV:PC :=
 (.reg [6,7,10,11,12] [I 42 (.mv (.s 9)),I 43 (.mv (.s 2)),I 44 (C ZFx [(.s 42),(.s 43)]),I 41 (.mv (.s 44)),I 45 (.ext (.s 41) 0),I 46 (.ext (.s 41) 1),I 47 (.ext (.s 41) 2),I 11 (.mv (.s 45)),I 12 (.mv (.s 46)),I 10 (.mv (.s 47))])
def ZYH:PC :=
 (.reg [6,7,8] [I 48 (.mv (.s 11)),I 49 (.build [(.int .u64 0),(.int .i64 0),(.int .i64 0),(.int .i64 0),(.int .i64 0),(.str []),.nils] [(5,1,(.s 48))]),I 50 (.mv (.s 12)),I 51 (.build [(.int .u64 0),(.int .i64 0),(.int .i64 0),(.int .i64 0),(.int .i64 0),(.str []),.nils] [(5,1,(.s 50))]),I 52 (.mv (.s 10)),J (.st 7 (.s 6) (.s 49)),J (.st 7 (.s 7) (.s 51)),I 8 (.mv (.s 52))])
def ZYI:PC :=
 (.reg [0,2,6,7,8,13] [I 54 (.mv (.s 0)),I 55 (.ld true 7 (.s 4)),I 56 (C Jl [(.s 54),(.s 55)]),I 53 (.mv (.s 56)),I 57 (.ext (.s 53) 0),I 58 (.ext (.s 53) 1),I 13 (.mv (.s 57)),I 8 (.mv (.s 58))])
def ZYJ:PC :=
 (.reg [0,2,6,7,8,13,60] [I 59 (.mv (.s 8)),I 60 (.bin .neq (.s 59) (V 0))])
def ZYK:PC :=
 (.reg [6,7,8] [I 61 (.build [(.int .u64 0),(.int .i64 0),(.int .i64 0),(.int .i64 0),(.int .i64 0),(.str []),.nils] []),I 62 (.build [(.int .u64 0),(.int .i64 0),(.int .i64 0),(.int .i64 0),(.int .i64 0),(.str []),.nils] []),I 63 (.mv (.s 8)),J (.st 7 (.s 6) (.s 61)),J (.st 7 (.s 7) (.s 62)),I 8 (.mv (.s 63))])
def ZYL:PC :=
 (.reg [0,2,6,7,13,14] [I 14 (.mv (V 0))])
def ZYM:PC :=
 (.reg [0,2,6,7,13,14,77] [I 64 (.mv (.s 14)),I 65 (.bin .add (.s 64) (V 1)),I 66 (.mv (.s 13)),I 67 (.len 1 (.s 66)),I 68 (.bin .lss (.s 65) (.s 67)),I 69 (.mv (.s 68)),G 70 69 true (.mv (.s 2)),G 71 69 true (.mv (.s 13)),G 72 69 true (.mv (.s 14)),G 73 69 true (.ixS 7 (.s 71) (.s 72)),G 74 69 true (.ld true 7 (.s 73)),G 75 69 true (C Qi [(.s 74)]),G 76 69 true (.bin .geq (.s 70) (.s 75)),I 77 (.pick (.s 69) (.s 76) (.v (.bool false)))])
def ZYN:PC :=
 (.reg [0,2,6,7,13,14] [I 78 (.mv (.s 2)),I 79 (.mv (.s 13)),I 80 (.mv (.s 14)),I 81 (.ixS 7 (.s 79) (.s 80)),I 82 (.ld true 7 (.s 81)),I 83 (C Qi [(.s 82)]),I 84 (.bin .sub (.s 78) (.s 83)),I 2 (.mv (.s 84))])
def ZYO:PC :=
 (.reg [0,2,6,7,13,14] [I 85 (.mv (.s 14)),I 86 (.bin .add (.s 85) (V 1)),I 14 (.mv (.s 86))])
def ZH0:PC :=
 (.seq (.seq ZYM
 (.ite (.s 77)
 .skip
 (.exit 0)))
 (.block 1
 (.seq ZYN
 ZYO)))
def ZYP:PC :=
 (.reg [0,2,6,7,13,14,88] [I 87 (.mv (.s 2)),I 88 (.bin .eql (.s 87) (V 0))])
def ZYQ:PC :=
 (.reg [6,7,8] [I 89 (.mv (.s 13)),I 90 (.mv (.s 14)),I 91 (.slc 7 (.s 89) none (some (.s 90))),I 92 (.call .pure (.v (.func (.func QG) [] [])) [(.s 91)]),I 93 (.mv (.s 13)),I 94 (.mv (.s 14)),I 95 (.slc 7 (.s 93) (some (.s 94)) none),I 96 (C QG [(.s 95)]),J (.st 7 (.s 6) (.s 92)),J (.st 7 (.s 7) (.s 96)),I 8 (.mv (V 0))])
def ZYR:PC :=
 (.reg [0,6,7,8,13,14,15,16] [I 98 (.mv (.s 0)),I 99 (.mv (.s 13)),I 100 (.mv (.s 14)),I 101 (.ixS 7 (.s 99) (.s 100)),I 102 (.ld true 7 (.s 101)),I 103 (.mv (.s 2)),I 104 (C X3 [(.s 98),(.s 102),(.s 103)]),I 97 (.mv (.s 104)),I 105 (.ext (.s 97) 0),I 106 (.ext (.s 97) 1),I 107 (.ext (.s 97) 2),I 15 (.box (.v ZT)),I 16 (.box (.v ZT)),J (.st 7 (.s 15) (.s 105)),J (.st 7 (.s 16) (.s 106)),I 8 (.mv (.s 107))])
def ZYS:PC :=
 (.reg [0,6,7,8,13,14,15,16,109] [I 108 (.mv (.s 8)),I 109 (.bin .neq (.s 108) (V 0))])
def ZYT:PC :=
 (.reg [6,7,8] [I 110 (.build [(.int .u64 0),(.int .i64 0),(.int .i64 0),(.int .i64 0),(.int .i64 0),(.str []),.nils] []),I 111 (.build [(.int .u64 0),(.int .i64 0),(.int .i64 0),(.int .i64 0),(.int .i64 0),(.str []),.nils] []),I 112 (.mv (.s 8)),J (.st 7 (.s 6) (.s 110)),J (.st 7 (.s 7) (.s 111)),I 8 (.mv (.s 112))])
def ZYU:PC :=
 (.reg [0,6,7,8,13,14,16] [I 114 (.mv (.s 0)),I 115 (.mv (.s 13)),I 116 (.mv (.s 14)),I 117 (.slc 7 (.s 115) none (some (.s 116))),I 118 (.call .pure (.v (.func (.func QG) [] [])) [(.s 117)]),I 119 (.ld true 7 (.s 15)),I 120 (C YG [(.s 114),(.s 118),(.s 119)]),I 113 (.mv (.s 120)),I 121 (.ext (.s 113) 0),I 122 (.ext (.s 113) 1),J (.st 7 (.s 6) (.s 121)),I 8 (.mv (.s 122))])
def ZYV:PC :=
 (.reg [0,6,7,8,13,14,16,124] [I 123 (.mv (.s 8)),I 124 (.bin .neq (.s 123) (V 0))])
def ZYW:PC :=
 (.reg [6,7,8] [I 125 (.build [(.int .u64 0),(.int .i64 0),(.int .i64 0),(.int .i64 0),(.int .i64 0),(.str []),.nils] []),I 126 (.build [(.int .u64 0),(.int .i64 0),(.int .i64 0),(.int .i64 0),(.int .i64 0),(.str []),.nils] []),I 127 (.mv (.s 8)),J (.st 7 (.s 6) (.s 125)),J (.st 7 (.s 7) (.s 126)),I 8 (.mv (.s 127))])
def ZYX:PC :=
 (.reg [6,7,8] [I 129 (.mv (.s 0)),I 130 (.ld true 7 (.s 16)),I 131 (.mv (.s 13)),I 132 (.mv (.s 14)),I 133 (.bin .add (.s 132) (V 1)),I 134 (.slc 7 (.s 131) (some (.s 133)) none),I 135 (.call .pure (.v (.func (.func QG) [] [])) [(.s 134)]),I 136 (C YG [(.s 129),(.s 130),(.s 135)]),I 128 (.mv (.s 136)),I 137 (.ext (.s 128) 0),I 138 (.ext (.s 128) 1),J (.st 7 (.s 7) (.s 137)),I 8 (.mv (.s 138))])
def ZYY:PC :=
 (.reg [6,7,8,140] [I 139 (.mv (.s 8)),I 140 (.bin .neq (.s 139) (V 0))])
def ZYZ:PC :=
 (.reg [6,7,8] [I 141 (.build [(.int .u64 0),(.int .i64 0),(.int .i64 0),(.int .i64 0),(.int .i64 0),(.str []),.nils] []),I 142 (.build [(.int .u64 0),(.int .i64 0),(.int .i64 0),(.int .i64 0),(.int .i64 0),(.str []),.nils] []),I 143 (.mv (.s 8)),J (.st 7 (.s 6) (.s 141)),J (.st 7 (.s 7) (.s 142)),I 8 (.mv (.s 143))])
def ZYa:PC :=
 (.reg [6,7,8] [I 144 (.ld true 7 (.s 6)),I 145 (.w (.hide [(.s 6)]) (.ld true 7 (.s 7))),J (.w (.plain (.s 6)) (.st 7 (.s 6) (.s 144))),J (.st 7 (.s 7) (.s 145)),I 8 (.mv (V 0))])
def ZU0:PF:=⟨false,
 (.seq ZbM
 (.seq (.seq ZbN
 (.ite (.s 18)
 (.seq ZbO
 .ret)
 .skip))
 (.seq (.seq ZbP
 (.ite (.s 24)
 (.seq ZbQ
 .ret)
 .skip))
 (.seq (.seq ZbR
 (.ite (.s 29)
 (.seq ZbS
 (.seq (.seq ZbT
 (.ite (.s 37)
 (.seq ZbU
 .ret)
 .skip))
 (.seq ZbV
 (.seq ZYH
 .ret))))
 .skip))
 (.seq ZYI
 (.seq (.seq ZYJ
 (.ite (.s 60)
 (.seq ZYK
 .ret)
 .skip))
 (.seq ZYL
 (.seq (.block 0
 (.loop ZH0))
 (.seq (.seq ZYP
 (.ite (.s 88)
 (.seq ZYQ
 .ret)
 .skip))
 (.seq ZYR
 (.seq (.seq ZYS
 (.ite (.s 109)
 (.seq ZYT
 .ret)
 .skip))
 (.seq (.seq ZYU
 (.seq ZYV
 (.ite (.s 124)
 (.seq ZYW
 .ret)
 .skip)))
 (.seq (.seq ZYX
 (.seq ZYY
 (.ite (.s 140)
 (.seq ZYZ
 .ret)
 .skip)))
 (.seq ZYa
 .ret)))))))))))))),
 [.c 6 true 7,.c 7 true 7,.s 8]⟩
theorem ZfQ:Zs Proofs.Tryz.prog false ZfP Proofs.Tryz.f158=some ZU0:=by kernel_rfl
def ZfR:List Hint:=[H [1,2],H [1,2,9],H [1,2],H [2],H [1,2,3],H [1,2,3,17,18,19],H [1,2,3,17,18,19,20],H [1,2,3,4,5,17,18,19],H [1,2,3,17,18,19],H [1,2,3,17,18,19],H [1,2],H [2]]
def ZbW:PC :=
 (.reg [1,2] [I 1 (.box (.s 0)),I 2 (.box (.v ZT))])
def ZbX:PC :=
 (.reg [1,2,9] [I 6 (.fadr 6 (.s 1)),I 7 (.ld false 1 (.s 6)),I 8 (.len 1 (.s 7)),I 9 (.bin .eql (.s 8) (V 0))])
def ZbY:PC :=
 (.reg [1,2] [I 10 (.fadr 6 (.s 1)),J (.st 1 (.s 10) (.v .nils))])
def ZbZ:PC :=
 (.reg [2] [I 11 (.ld true 7 (.s 1)),J (.st 7 (.s 2) (.s 11))])
def Zba:PC :=
 (.reg [1,2,3] [I 12 (.fadr 6 (.s 1)),I 13 (.ld false 1 (.s 12)),I 14 (.len 1 (.s 13)),I 15 (.mkslice 7 80 ZT (.s 14) (.s 14)),I 3 (.mv (.s 15))])
def Zbb:PC :=
 (.reg [1,2,3,17,18,19] [I 16 (.fadr 6 (.s 1)),I 17 (.ld false 1 (.s 16)),I 18 (.len 1 (.s 17)),I 19 (.mv (V 0))])
def Zbc:PC :=
 (.reg [1,2,3,17,18,19,20] [I 20 (.bin .lss (.s 19) (.s 18))])
def Zbd:PC :=
 (.reg [1,2,3,4,5,17,18,19] [I 21 (.mv (.s 19)),I 22 (.ixS 7 (.s 17) (.s 19)),I 23 (.ld true 7 (.s 22)),I 5 (.box (.v ZT)),I 4 (.mv (.s 21)),J (.st 7 (.s 5) (.s 23))])
def Zbe:PC :=
 (.reg [1,2,3,17,18,19] [I 24 (.mv (.s 3)),I 25 (.mv (.s 4)),I 26 (.ld true 7 (.s 5)),I 27 (C ZBY [(.s 26)]),I 28 (.ixS 7 (.s 24) (.s 25)),J (.st 7 (.s 28) (.s 27))])
def Zbf:PC :=
 (.reg [1,2,3,17,18,19] [I 29 (.bin .add (.s 19) (V 1)),I 19 (.mv (.s 29))])
def ZYb:PC :=
 (.seq Zbc
 (.seq (.ite (.s 20)
 .skip
 (.exit 0))
 (.seq (.block 1
 (.seq Zbd
 Zbe))
 Zbf)))
def ZYc:PC :=
 (.reg [1,2] [I 30 (.mv (.s 3)),I 31 (.fadr 6 (.s 1)),J (.st 1 (.s 31) (.s 30))])
def ZYd:PC :=
 (.reg [2] [I 32 (.ld true 7 (.s 1)),J (.st 7 (.s 2) (.s 32))])
def ZU1:PF:=⟨false,
 (.seq ZbW
 (.seq (.seq ZbX
 (.ite (.s 9)
 (.seq ZbY
 (.seq ZbZ
 .ret))
 .skip))
 (.seq Zba
 (.seq (.seq Zbb
 (.block 0
 (.loop ZYb)))
 (.seq ZYc
 (.seq ZYd
 .ret)))))),
 [.c 2 true 7]⟩
theorem ZfS:Zs Proofs.Tryz.prog false ZfR Proofs.Tryz.f159=some ZU1:=by kernel_rfl
def ZFV:List Hint:=[H [0,1],⟨[0,1,5],[0],[],[],[],[]⟩,H [0,1,5,9],H [4],H [1,5,14,15,16],H [1,5,14,15,16,17],H [1,5,6,7,14,15,16],H [1,5,6,14,15,16,23],H [1,5,14,15,16],H [1,5,14,15,16],H [4]]
def ZCt:PC :=
 (.reg [0,1] [I 4 (.mv (.v .nils))])
def ZCu:PC :=
 (.reg [0,1,5] [I 5 (.onil 1)])
def ZCv:PC :=
 (.reg [0,1,5,9] [I 8 (.mv (.s 0)),I 9 (.eqs false 3 [] (.s 8) (.v .nilptr))])
def ZCw:PC :=
 (.reg [4] [I 10 (.mv (.s 5)),I 4 (.mv (.s 10))])
def ZCx:PC :=
 (.reg [1,5,14,15,16] [I 11 (.mv (.s 0)),I 12 (.nilck (.s 11)),I 13 (.fadr 1 (.s 12)),I 14 (.ld false 1 (.s 13)),I 15 (.len 1 (.s 14)),I 16 (.mv (V 0))])
def ZCy:PC :=
 (.reg [1,5,14,15,16,17] [I 17 (.bin .lss (.s 16) (.s 15))])
def ZCz:PC :=
 (.reg [1,5,6,7,14,15,16] [I 18 (.mv (.s 16)),I 19 (.ixS 1 (.s 14) (.s 16)),I 20 (.ld false 1 (.s 19)),I 6 (.mv (.s 18)),I 7 (.mv (.s 20))])
def ZC0:PC :=
 (.reg [1,5,6,14,15,16,23] [I 21 (.mv (.s 7)),I 22 (.mv (.s 1)),I 23 (.bin .eql (.s 21) (.s 22))])
def ZC1:PC :=
 (.reg [1,5,14,15,16] [I 24 (.mv (.s 5)),I 25 (.mv (.s 6)),I 26 (.bslice false 1 [(.int .i64 0)] [(0,(.s 25))]),I 27 (.app 1 8 (.s 24) (.s 26)),I 5 (.mv (.s 27))])
def ZC2:PC :=
 (.reg [1,5,14,15,16] [I 28 (.bin .add (.s 16) (V 1)),I 16 (.mv (.s 28))])
def ZCf:PC :=
 (.seq ZCy
 (.seq (.ite (.s 17)
 .skip
 (.exit 0))
 (.seq (.block 1
 (.seq ZCz
 (.seq ZC0
 (.ite (.s 23)
 ZC1
 .skip))))
 ZC2)))
def ZCg:PC :=
 (.reg [4] [I 29 (.mv (.s 5)),I 4 (.mv (.s 29))])
def Xo:PF:=⟨false,
 (.seq ZCt
 (.seq ZCu
 (.seq (.seq ZCv
 (.ite (.s 9)
 (.seq ZCw
 .ret)
 .skip))
 (.seq (.seq ZCx
 (.block 0
 (.loop ZCf)))
 (.seq ZCg
 .ret))))),
 [.s 4]⟩
theorem ZFW:Zs Proofs.Tryz.prog false ZFV Proofs.Tryz.f164=some Xo:=by kernel_rfl
def Zdt:List Hint:=[H [0,2,3,4,6,10],H [0,3,4,6,10,12],H [0,3,4,10,12,13],H [0,3,4,10,12,13,14,15],H [0,3,4,10,12,13,14,15,31],H [10,11],H [0,3,4,10,12,14],H [0,3,4,10,12,14,42],H [10,12],H [10,11],H [0,3,4,10,12,14,15,16,17],H [0,3,4,10,12,14,15,16,17,57],H [10,11],H [0,3,4,10,12,14,16,17,63,64,65],H [0,3,4,10,12,14,16,17,63,64,65,66],H [0,3,4,10,12,14,16,17,19,63,64,65],H [0,3,4,10,12,14,16,17,63,64,65],H [0,3,4,10,12,14,16,17,63,64,65],⟨[0,3,4,10,12,13],[],[],[],[(6,(.hide [(.s 12)])),(8,(.plain (.s 12))),(4,(.hide [(.s 12)])),(2,(.hide [(.s 12)]))],[]⟩]
def ZYe:PC :=
 (.reg [0,2,3,4,6,10] [I 6 (.box (.s 1)),I 10 (.box (.v (.agg [(.str []),(.int .i64 0),.nils]))),I 11 (.mv (V 0))])
def ZYf:PC :=
 (.reg [0,3,4,6,10,12] [I 20 (.mv (.s 2)),I 21 (.build [(.str []),(.int .i64 0),.nils] [(1,1,(.s 20))]),I 12 (.box (.v (.agg [(.str []),(.int .i64 0),.nils]))),J (.st 3 (.s 12) (.s 21))])
def ZYg:PC :=
 (.reg [0,3,4,10,12,13] [I 22 (.fadr 0 (.s 6)),I 23 (.ld false 1 (.s 22)),I 13 (.mv (.s 23))])
def ZYh:PC :=
 (.reg [0,3,4,10,12,13,14,15] [I 25 (.mv (.s 0)),I 26 (.mv (.s 13)),I 27 (C Qa [(.s 25),(.s 26)]),I 24 (.mv (.s 27)),I 28 (.ext (.s 24) 0),I 29 (.ext (.s 24) 1),I 14 (.box (.v ZN)),J (.st 3 (.s 14) (.s 28)),I 15 (.mv (.s 29))])
def ZYi:PC :=
 (.reg [0,3,4,10,12,13,14,15,31] [I 30 (.mv (.s 15)),I 31 (.bin .neq (.s 30) (V 0))])
def ZYj:PC :=
 (.reg [10,11] [I 32 (.build [(.str []),(.int .i64 0),.nils] []),I 33 (.mv (.s 15)),J (.st 3 (.s 10) (.s 32)),I 11 (.mv (.s 33))])
def ZH1:PC :=
 (.reg [0,3,4,10,12,14] [I 34 (.fadr 2 (.s 12)),I 35 (.ld false 1 (.s 34)),I 36 (.mv (.s 13)),I 37 (.bslice false 1 [(.int .u64 0)] [(0,(.s 36))]),I 38 (.app 1 8 (.s 35) (.s 37)),I 39 (.fadr 2 (.s 12)),J (.st 1 (.s 39) (.s 38))])
def ZYk:PC :=
 (.reg [0,3,4,10,12,14,42] [I 40 (.fadr 0 (.s 14)),I 41 (.ld false 1 (.s 40)),I 42 (.bin .eql (.s 41) (V 0))])
def ZYl:PC :=
 (.reg [10,12] [I 43 (.fadr 1 (.s 14)),I 44 (.ld false 1 (.s 43)),I 45 (.fadr 0 (.s 12)),J (.st 1 (.s 45) (.s 44))])
def ZYm:PC :=
 (.reg [10,11] [I 46 (.ld true 3 (.s 12)),J (.st 3 (.s 10) (.s 46)),I 11 (.mv (V 0))])
def ZU2:PC :=
 (.reg [0,3,4,10,12,14,15,16,17] [I 48 (.mv (.s 3)),I 49 (.ld true 3 (.s 14)),I 50 (.fadr 1 (.s 12)),I 51 (.ld false 1 (.s 50)),I 52 (.call .norm (.s 48) [(.s 49),(.s 51)]),I 47 (.mv (.s 52)),I 53 (.ext (.s 47) 0),I 54 (.ext (.s 47) 1),I 55 (.ext (.s 47) 2),I 16 (.mv (.s 53)),I 17 (.mv (.s 54)),I 15 (.mv (.s 55))])
def ZU3:PC :=
 (.reg [0,3,4,10,12,14,15,16,17,57] [I 56 (.mv (.s 15)),I 57 (.bin .neq (.s 56) (V 0))])
def ZU4:PC :=
 (.reg [10,11] [I 58 (.build [(.str []),(.int .i64 0),.nils] []),I 59 (.mv (.s 15)),J (.st 3 (.s 10) (.s 58)),I 11 (.mv (.s 59))])
def ZU5:PC :=
 (.reg [0,3,4,10,12,14,16,17,63,64,65] [I 60 (.fadr 2 (.s 14)),I 61 (.ld false 1 (.s 60)),I 62 (.mv (.s 16)),I 63 (.slc 4 (.s 61) none (some (.s 62))),I 64 (.len 1 (.s 63)),I 65 (.mv (V 0))])
def ZU6:PC :=
 (.reg [0,3,4,10,12,14,16,17,63,64,65,66] [I 66 (.bin .lss (.s 65) (.s 64))])
def ZU7:PC :=
 (.reg [0,3,4,10,12,14,16,17,19,63,64,65] [I 67 (.ixS 4 (.s 63) (.s 65)),I 68 (.ld true 4 (.s 67)),I 19 (.box (.v ZK)),J (.st 4 (.s 19) (.s 68))])
def ZU8:PC :=
 (.reg [0,3,4,10,12,14,16,17,63,64,65] [I 69 (.mv (.s 4)),I 70 (.fadr 1 (.s 19)),I 71 (.ld true 3 (.s 70)),I 72 (.call .norm (.s 69) [(.s 71)])])
def ZU9:PC :=
 (.reg [0,3,4,10,12,14,16,17,63,64,65] [I 73 (.bin .add (.s 65) (V 1)),I 65 (.mv (.s 73))])
def p_seek_walk_18:PC :=
 (.seq ZU6
 (.seq (.ite (.s 66)
 .skip
 (.exit 2))
 (.seq (.block 3
 (.seq ZU7
 ZU8))
 ZU9)))
def ZVA:PC :=
 (.reg [0,3,4,10,12,13] [I 74 (.mv (.s 17)),I 75 (.fadr 2 (.s 14)),I 76 (.w (.hide [(.s 12)]) (.ld false 1 (.s 75))),I 77 (.mv (.s 16)),I 78 (.w (.hide [(.s 12)]) (.ixS 4 (.s 76) (.s 77))),I 79 (.fadr 0 (.s 78)),I 80 (.w (.hide [(.s 12)]) (.ld false 1 (.s 79))),I 81 (.fadr 1 (.s 12)),J (.w (.plain (.s 12)) (.st 1 (.s 81) (.s 74))),I 13 (.mv (.s 80))])
def ZVB:PC :=
 (.block 1
 (.seq ZYh
 (.seq (.seq ZYi
 (.ite (.s 31)
 (.seq ZYj
 .ret)
 .skip))
 (.seq ZH1
 (.seq (.seq ZYk
 (.ite (.s 42)
 (.seq ZYl
 (.seq ZYm
 .ret))
 .skip))
 (.seq ZU2
 (.seq (.seq ZU3
 (.ite (.s 57)
 (.seq ZU4
 .ret)
 .skip))
 (.seq (.seq ZU5
 (.block 2
 (.loop p_seek_walk_18)))
 ZVA))))))))
def ZPH:PF:=⟨false,
 (.seq ZYe
 (.seq ZYf
 (.seq ZYg
 (.block 0
 (.loop ZVB))))),
 [.c 10 true 3,.s 11]⟩
theorem Zdu:Zs Proofs.Tryz.prog false Zdt Proofs.Tryz.f181=some ZPH:=by kernel_rfl
def Zbg:List Hint:=[H [1,2],H [4,5,6]]
def ZVC:PC :=
 (.reg [1,2] [I 2 (.box (.s 0)),I 4 (.mv (V 0)),I 5 (.mv (V 0)),I 6 (.mv (V 0))])
def ZVD:PC :=
 (.reg [4,5,6] [I 7 (.ld true 3 (.s 2)),I 8 (.mv (.s 1)),I 9 (C ZCY [(.s 7),(.s 8),(.v (.func (.func ZBa) [] []))]),I 10 (.ext (.s 9) 0),I 11 (.ext (.s 9) 1),I 12 (.ext (.s 9) 2),I 4 (.mv (.s 10)),I 5 (.mv (.s 11)),I 6 (.mv (.s 12))])
def ZLR:PF:=⟨false,
 (.seq ZVC
 (.seq ZVD
 .ret)),
 [.s 4,.s 5,.s 6]⟩
theorem Zbh:Zs Proofs.Tryz.prog false Zbg Proofs.Tryz.f182=some ZLR:=by kernel_rfl
def ZQY:List Hint:=[H [0],H [2]]
def ZLS:PC :=
 (.reg [0] [I 2 (.mv (.v (.bool false)))])
def ZLT:PC :=
 (.reg [2] [I 3 (.mv (.s 0)),I 4 (.bin .eql (.s 3) (.v (.int .u8 10))),I 2 (.mv (.s 4))])
def ZEf:PF:=⟨false,
 (.seq ZLS
 (.seq ZLT
 .ret)),
 [.s 2]⟩
theorem ZQZ:Zs Proofs.Tryz.prog false ZQY Proofs.Tryz.f185=some ZEf:=by kernel_rfl
def ZVE:List Hint:=[H [1,2],H [1,2,4],H [1,2,4,8],H [2,3],H [2,3]]
def ZNV:PC :=
 (.reg [1,2] [I 1 (.box (.s 0)),I 2 (.box (.v ZM)),I 3 (.mv (V 0))])
def ZNW:PC :=
 (.reg [1,2,4] [I 5 (.ld true 3 (.s 1)),I 6 (C XU [(.s 5)]),I 4 (.mv (.s 6))])
def ZNX:PC :=
 (.reg [1,2,4,8] [I 7 (.mv (.s 4)),I 8 (.bin .neq (.s 7) (V 0))])
def ZNY:PC :=
 (.reg [2,3] [I 9 (.build [(.int .i64 0),(.int .i64 0),(.int .i64 0)] []),I 10 (.mv (.s 4)),J (.st 3 (.s 2) (.s 9)),I 3 (.mv (.s 10))])
def ZNZ:PC :=
 (.reg [2,3] [I 11 (.ld true 3 (.s 1)),I 12 (C ZBb [(.s 11)]),J (.st 3 (.s 2) (.s 12)),I 3 (.mv (V 0))])
def ZGk:PF:=⟨false,
 (.seq ZNV
 (.seq (.seq ZNW
 (.seq ZNX
 (.ite (.s 8)
 (.seq ZNY
 .ret)
 .skip)))
 (.seq ZNZ
 .ret))),
 [.c 2 true 3,.s 3]⟩
theorem ZVF:Zs Proofs.Tryz.prog false ZVE Proofs.Tryz.f186=some ZGk:=by kernel_rfl
def ZYn:List Hint:=[H [1,2,3],H [1,2,3,9],H [1,2,3,9,15],H [6,7,8],H [1,2,3,19],H [6,7,8],H [1,2,3,21],H [6,7,8],H [1,2,23,24,25],H [1,2,23,24,25,26],H [1,2,10,11,23,24,25],H [1,2,10,11,23,24,25,35],H [6,7,8],H [1,2,23,24,25],H [1,2,23,24,25],H [6,7,8]]
def ZQa:PC :=
 (.reg [1,2,3] [I 3 (.box (.s 0)),I 6 (.mv (V 0)),I 7 (.mv (V 0)),I 8 (.mv (V 0))])
def ZQb:PC :=
 (.reg [1,2,3,9] [I 12 (.ld true 3 (.s 3)),I 13 (C XU [(.s 12)]),I 9 (.mv (.s 13))])
def ZQc:PC :=
 (.reg [1,2,3,9,15] [I 14 (.mv (.s 9)),I 15 (.bin .neq (.s 14) (V 0))])
def ZQd:PC :=
 (.reg [6,7,8] [I 16 (.mv (.s 9)),I 6 (.mv (V 0)),I 7 (.mv (V 0)),I 8 (.mv (.s 16))])
def ZQe:PC :=
 (.reg [1,2,3,19] [I 17 (.fadr 0 (.s 3)),I 18 (.ld false 1 (.s 17)),I 19 (.bin .eql (.s 18) (V 0))])
def ZQf:PC :=
 (.reg [6,7,8] [I 6 (.mv (V 0)),I 7 (.mv (V 0)),I 8 (.mv (V 8))])
def ZQg:PC :=
 (.reg [1,2,3,21] [I 20 (.mv (.s 1)),I 21 (.bin .lss (.s 20) (V 0))])
def ZQh:PC :=
 (.reg [6,7,8] [I 6 (.mv (V 0)),I 7 (.mv (V 0)),I 8 (.mv (V 3))])
def ZQi:PC :=
 (.reg [1,2,23,24,25] [I 22 (.fadr 2 (.s 3)),I 23 (.ld false 1 (.s 22)),I 24 (.len 1 (.s 23)),I 25 (.mv (V 0))])
def ZQj:PC :=
 (.reg [1,2,23,24,25,26] [I 26 (.bin .lss (.s 25) (.s 24))])
def ZNa:PC :=
 (.reg [1,2,10,11,23,24,25] [I 27 (.mv (.s 25)),I 28 (.ixS 4 (.s 23) (.s 25)),I 29 (.ld true 4 (.s 28)),I 11 (.box (.v ZK)),I 10 (.mv (.s 27)),J (.st 4 (.s 11) (.s 29))])
def ZNb:PC :=
 (.reg [1,2,10,11,23,24,25,35] [I 30 (.mv (.s 1)),I 31 (.mv (.s 2)),I 32 (.fadr 1 (.s 11)),I 33 (.ld true 3 (.s 32)),I 34 (.call .norm (.s 31) [(.s 33)]),I 35 (.bin .lss (.s 30) (.s 34))])
def ZNc:PC :=
 (.reg [6,7,8] [I 36 (.mv (.s 10)),I 37 (.mv (.s 1)),I 6 (.mv (.s 36)),I 7 (.mv (.s 37)),I 8 (.mv (V 0))])
def ZNd:PC :=
 (.reg [1,2,23,24,25] [I 38 (.mv (.s 1)),I 39 (.mv (.s 2)),I 40 (.fadr 1 (.s 11)),I 41 (.ld true 3 (.s 40)),I 42 (.call .norm (.s 39) [(.s 41)]),I 43 (.bin .sub (.s 38) (.s 42)),I 1 (.mv (.s 43))])
def ZNe:PC :=
 (.reg [1,2,23,24,25] [I 44 (.bin .add (.s 25) (V 1)),I 25 (.mv (.s 44))])
def ZNf:PC :=
 (.seq ZQj
 (.seq (.ite (.s 26)
 .skip
 (.exit 0))
 (.seq (.block 1
 (.seq ZNa
 (.seq (.seq ZNb
 (.ite (.s 35)
 (.seq ZNc
 .ret)
 .skip))
 ZNd)))
 ZNe)))
def ZNg:PC :=
 (.reg [6,7,8] [I 6 (.mv (V 0)),I 7 (.mv (V 0)),I 8 (.mv (V 3))])
def ZH2:PF:=⟨false,
 (.seq ZQa
 (.seq (.seq ZQb
 (.seq ZQc
 (.ite (.s 15)
 (.seq ZQd
 .ret)
 .skip)))
 (.seq (.seq ZQe
 (.ite (.s 19)
 (.seq ZQf
 .ret)
 .skip))
 (.seq (.seq ZQg
 (.ite (.s 21)
 (.seq ZQh
 .ret)
 .skip))
 (.seq (.seq ZQi
 (.block 0
 (.loop ZNf)))
 (.seq ZNg
 .ret)))))),
 [.s 6,.s 7,.s 8]⟩
theorem ZYo:Zs Proofs.Tryz.prog false ZYn Proofs.Tryz.f188=some ZH2:=by kernel_rfl
def ZVG:List Hint:=[H [0],⟨[0,3],[0],[],[],[],[]⟩,H [0,3,8,9,10],H [0,3,8,9,10,11],H [0,3,5,8,9,10],H [0,3,5,8,9,10],H [0,3,8,9,10],H [0,3,8,9,10],H [2]]
def ZNh:PC :=
 (.reg [0] [I 2 (.mv (.v .nils))])
def ZNi:PC :=
 (.reg [0,3] [I 3 (.onil 1)])
def ZNj:PC :=
 (.reg [0,3,8,9,10] [I 6 (.mv (.s 0)),I 7 (.len 0 (.s 6)),I 8 (C ZAF [(.s 7),(V 16)]),I 9 (.len 1 (.s 8)),I 10 (.mv (V 0))])
def ZNk:PC :=
 (.reg [0,3,8,9,10,11] [I 11 (.bin .lss (.s 10) (.s 9))])
def ZNl:PC :=
 (.reg [0,3,5,8,9,10] [I 12 (.ixS 1 (.s 8) (.s 10)),I 13 (.ld false 1 (.s 12)),I 5 (.mv (.s 13))])
def ZNm:PC :=
 (.reg [0,3,5,8,9,10] [I 14 (.mv (.s 3)),I 15 (.mv (.s 0)),I 16 (.mv (.s 5)),I 17 (.slcS (.s 15) none (some (.s 16))),I 18 (.bslice false 1 [(.str [])] [(0,(.s 17))]),I 19 (.app 1 16 (.s 14) (.s 18)),I 3 (.mv (.s 19))])
def ZNn:PC :=
 (.reg [0,3,8,9,10] [I 20 (.mv (.s 0)),I 21 (.mv (.s 5)),I 22 (.slcS (.s 20) (some (.s 21)) none),I 0 (.mv (.s 22))])
def ZNo:PC :=
 (.reg [0,3,8,9,10] [I 23 (.bin .add (.s 10) (V 1)),I 10 (.mv (.s 23))])
def ZNp:PC :=
 (.seq ZNk
 (.seq (.ite (.s 11)
 .skip
 (.exit 0))
 (.seq (.block 1
 (.seq ZNl
 (.seq ZNm
 ZNn)))
 ZNo)))
def ZNq:PC :=
 (.reg [2] [I 24 (.mv (.s 3)),I 2 (.mv (.s 24))])
def ZGl:PF:=⟨false,
 (.seq ZNh
 (.seq ZNi
 (.seq (.seq ZNj
 (.block 0
 (.loop ZNp)))
 (.seq ZNq
 .ret)))),
 [.s 2]⟩
theorem ZVH:Zs Proofs.Tryz.prog false ZVG Proofs.Tryz.f197=some ZGl:=by kernel_rfl
def Zbi:List Hint:=[H [0,1],H [0,1,11],H [4,5],H [0,1,13],H [4,5],H [4,5]]
def ZVI:PC :=
 (.reg [0,1] [I 4 (.mv (.v .nils)),I 5 (.mv (V 0))])
def ZVJ:PC :=
 (.reg [0,1,11] [I 6 (.mv (.s 0)),I 7 (.bin .lss (.s 6) (V 0)),I 8 (.mv (.s 7)),G 9 8 false (.mv (.s 1)),G 10 8 false (.bin .lss (.s 9) (V 1)),I 11 (.pick (.s 8) (.v (.bool true)) (.s 10))])
def ZVK:PC :=
 (.reg [4,5] [I 4 (.mv (.v .nils)),I 5 (.mv (V 2))])
def ZVL:PC :=
 (.reg [0,1,13] [I 12 (.mv (.s 0)),I 13 (.bin .gtr (.s 12) (V 65536))])
def ZVM:PC :=
 (.reg [4,5] [I 4 (.mv (.v .nils)),I 5 (.mv (V 5))])
def ZVN:PC :=
 (.reg [4,5] [I 14 (.mv (.s 0)),I 15 (.mv (.s 1)),I 16 (C ZAF [(.s 14),(.s 15)]),I 4 (.mv (.s 16)),I 5 (.mv (V 0))])
def ZLU:PF:=⟨false,
 (.seq ZVI
 (.seq (.seq ZVJ
 (.ite (.s 11)
 (.seq ZVK
 .ret)
 .skip))
 (.seq (.seq ZVL
 (.ite (.s 13)
 (.seq ZVM
 .ret)
 .skip))
 (.seq ZVN
 .ret)))),
 [.s 4,.s 5]⟩
theorem Zbj:Zs Proofs.Tryz.prog false Zbi Proofs.Tryz.f198=some ZLU:=by kernel_rfl
def Zbk:List Hint:=[H [0,2],H [0,2,3],H [2],H [0,2,8],H [2],⟨[2],[],[],[],[(7,.app0),(5,.imm)],[]⟩]
def ZVO:PC :=
 (.reg [0,2] [I 2 (.box (.v ZT))])
def ZVP:PC :=
 (.reg [0,2,3] [I 4 (.mv (.s 0)),I 5 (.len 1 (.s 4)),I 6 (.bin .eql (.s 5) (V 0)),I 3 (.mv (.s 6))])
def ZVQ:PC :=
 (.reg [2] [I 7 (.build [(.int .u64 0),(.int .i64 0),(.int .i64 0),(.int .i64 0),(.int .i64 0),(.str []),.nils] []),J (.st 7 (.s 2) (.s 7))])
def ZVR:PC :=
 (.reg [0,2,8] [I 9 (.mv (.s 0)),I 10 (.len 1 (.s 9)),I 11 (.bin .eql (.s 10) (V 1)),I 8 (.mv (.s 11))])
def ZVS:PC :=
 (.reg [2] [I 12 (.mv (.s 0)),I 13 (.ixS 7 (.s 12) (V 0)),I 14 (.ld true 7 (.s 13)),J (.st 7 (.s 2) (.s 14))])
def ZVT:PC :=
 (.reg [2] [I 15 (.mv (.s 0)),I 16 (.ixS 7 (.s 15) (V 0)),I 17 (.fadr 1 (.s 16)),I 18 (.ld false 1 (.s 17)),I 19 (.bin .add (.s 18) (V 1)),I 20 (.w .imm (.bslice false 7 [] [])),I 21 (.mv (.s 0)),I 22 (.w .app0 (.app 7 80 (.s 20) (.s 21))),I 23 (.build [(.int .u64 0),(.int .i64 0),(.int .i64 0),(.int .i64 0),(.int .i64 0),(.str []),.nils] [(1,1,(.s 19)),(6,1,(.s 22))]),J (.st 7 (.s 2) (.s 23))])
def ZLV:PF:=⟨false,
 (.seq ZVO
 (.seq (.block 0
 (.seq ZVP
 (.ite (.s 3)
 (.seq ZVQ
 .ret)
 (.seq ZVR
 (.ite (.s 8)
 (.seq ZVS
 .ret)
 .skip)))))
 (.seq ZVT
 .ret))),
 [.c 2 true 7]⟩
theorem Zbl:Zs Proofs.Tryz.prog false Zbk Proofs.Tryz.f199=some ZLV:=by kernel_rfl
def ZYp:List Hint:=[H [0,1],H [0,1,19],H [4,5],H [4,5]]
def ZQk:PC :=
 (.reg [0,1] [I 4 (.mv (.v (.int .u64 0))),I 5 (.mv (V 0))])
def ZQl:PC :=
 (.reg [0,1,19] [I 6 (.mv (.s 0)),I 7 (.bin .lss (.s 6) (V 0)),I 8 (.mv (.s 7)),G 9 8 false (.mv (.s 0)),G 10 8 false (.bin .geq (.s 9) (V 16384)),I 11 (.pick (.s 8) (.v (.bool true)) (.s 10)),I 12 (.mv (.s 11)),G 13 12 false (.mv (.s 1)),G 14 12 false (.bin .lss (.s 13) (.v (.int .u64 1))),I 15 (.pick (.s 12) (.v (.bool true)) (.s 14)),I 16 (.mv (.s 15)),G 17 16 false (.mv (.s 1)),G 18 16 false (.bin .gtr (.s 17) (.v (.int .u64 4294967295))),I 19 (.pick (.s 16) (.v (.bool true)) (.s 18))])
def ZQm:PC :=
 (.reg [4,5] [I 4 (.mv (.v (.int .u64 0))),I 5 (.mv (V 3))])
def ZQn:PC :=
 (.reg [4,5] [I 20 (.mv (.s 1)),I 21 (.bin .shl (.s 20) (.v (.int .u64 16))),I 22 (.mv (.s 0)),I 23 (.cint .u64 (.s 22)),I 24 (.bin .or (.s 21) (.s 23)),I 4 (.mv (.s 24)),I 5 (.mv (V 0))])
def ZH3:PF:=⟨false,
 (.seq ZQk
 (.seq (.seq ZQl
 (.ite (.s 19)
 (.seq ZQm
 .ret)
 .skip))
 (.seq ZQn
 .ret))),
 [.s 4,.s 5]⟩
theorem ZYq:Zs Proofs.Tryz.prog false ZYp Proofs.Tryz.f201=some ZH3:=by kernel_rfl
def ZYr:List Hint:=[H [0,4,5,6],H [0,4,5,6,12],H [6,7],H [0,4,5,6,16],H [6,7],H [6,8,9],H [6,8,9,26],H [6,7],H [6,7]]
def ZQo:PC :=
 (.reg [0,4,5,6] [I 4 (.box (.s 1)),I 5 (.box (.s 2)),I 6 (.box (.v ZT)),I 7 (.mv (V 0))])
def ZQp:PC :=
 (.reg [0,4,5,6,12] [I 10 (.ld true 7 (.s 4)),I 11 (C Qb [(.s 10)]),I 12 (.bin .eql (.s 11) (V 1))])
def ZQq:PC :=
 (.reg [6,7] [I 13 (.ld true 7 (.s 5)),J (.st 7 (.s 6) (.s 13)),I 7 (.mv (V 0))])
def ZQr:PC :=
 (.reg [0,4,5,6,16] [I 14 (.ld true 7 (.s 5)),I 15 (C Qb [(.s 14)]),I 16 (.bin .eql (.s 15) (V 1))])
def ZQs:PC :=
 (.reg [6,7] [I 17 (.ld true 7 (.s 4)),J (.st 7 (.s 6) (.s 17)),I 7 (.mv (V 0))])
def ZQt:PC :=
 (.reg [6,8,9] [I 19 (.mv (.s 0)),I 20 (.ld true 7 (.s 4)),I 21 (.ld true 7 (.s 5)),I 22 (C XV [(.s 19),(.s 20),(.s 21)]),I 18 (.mv (.s 22)),I 23 (.ext (.s 18) 0),I 24 (.ext (.s 18) 1),I 8 (.mv (.s 23)),I 9 (.mv (.s 24))])
def ZQu:PC :=
 (.reg [6,8,9,26] [I 25 (.mv (.s 9)),I 26 (.bin .neq (.s 25) (V 0))])
def ZQv:PC :=
 (.reg [6,7] [I 27 (.build [(.int .u64 0),(.int .i64 0),(.int .i64 0),(.int .i64 0),(.int .i64 0),(.str []),.nils] []),I 28 (.mv (.s 9)),J (.st 7 (.s 6) (.s 27)),I 7 (.mv (.s 28))])
def ZQw:PC :=
 (.reg [6,7] [I 29 (.mv (.s 8)),I 30 (C QG [(.s 29)]),J (.st 7 (.s 6) (.s 30)),I 7 (.mv (V 0))])
def ZH4:PF:=⟨false,
 (.seq ZQo
 (.seq (.seq ZQp
 (.ite (.s 12)
 (.seq ZQq
 .ret)
 .skip))
 (.seq (.seq ZQr
 (.ite (.s 16)
 (.seq ZQs
 .ret)
 .skip))
 (.seq ZQt
 (.seq (.seq ZQu
 (.ite (.s 26)
 (.seq ZQv
 .ret)
 .skip))
 (.seq ZQw
 .ret)))))),
 [.c 6 true 7,.s 7]⟩
theorem ZYs:Zs Proofs.Tryz.prog false ZYr Proofs.Tryz.f203=some ZH4:=by kernel_rfl
def Zbm:List Hint:=[H [0,2,3,5],H [0,2,3,5,9],H [0,2,5,9,30],H [8],H [0,2,5,32],H [0,2,5,10],H [0,2,5,10,42],H [8],H [0,5,54],H [8],H [0,5,56,57,58],H [0,5,56,57,58,59],H [0,5,12,56,57,58],H [0,5,13,56,57,58],H [0,5,13,56,57,58,69],H [8],H [0,5,56,57,58],H [8]]
def ZVU:PC :=
 (.reg [0,2,3,5] [I 5 (.box (.s 1)),I 8 (.mv (V 0))])
def ZVV:PC :=
 (.reg [0,2,3,5,9] [I 14 (.ld true 7 (.s 5)),I 15 (C Qb [(.s 14)]),I 9 (.mv (.s 15))])
def ZVW:PC :=
 (.reg [0,2,5,9,30] [I 16 (.mv (.s 9)),I 17 (.bin .eql (.s 16) (V 0)),I 18 (.mv (.s 17)),G 19 18 false (.mv (.s 9)),G 20 18 false (.bin .eql (.s 19) (V 1)),I 21 (.pick (.s 18) (.v (.bool true)) (.s 20)),I 22 (.mv (.s 21)),G 23 22 false (.mv (.s 2)),G 24 22 false (.mv (.s 23)),G 25 24 true (.fadr 1 (.s 5)),G 26 24 true (.ld false 1 (.s 25)),G 27 24 true (.mv (.s 3)),G 28 24 true (.bin .neq (.s 26) (.s 27)),G 29 22 false (.pick (.s 24) (.s 28) (.v (.bool false))),I 30 (.pick (.s 22) (.v (.bool true)) (.s 29))])
def ZVX:PC :=
 (.reg [8] [I 8 (.mv (V 23))])
def ZVY:PC :=
 (.reg [0,2,5,32] [I 31 (.mv (.s 9)),I 32 (.bin .eql (.s 31) (V 2))])
def ZVZ:PC :=
 (.reg [0,2,5,10] [I 33 (.mv (.s 0)),I 34 (.fadr 0 (.s 5)),I 35 (.ld false 1 (.s 34)),I 36 (.fadr 1 (.s 5)),I 37 (.ld false 1 (.s 36)),I 38 (.fadr 2 (.s 5)),I 39 (.ld true 3 (.s 38)),I 40 (C ZCF [(.s 33),(.s 35),(.s 37),(.s 39)]),I 10 (.mv (.s 40))])
def ZVa:PC :=
 (.reg [0,2,5,10,42] [I 41 (.mv (.s 10)),I 42 (.bin .neq (.s 41) (V 0))])
def ZVb:PC :=
 (.reg [8] [I 43 (.mv (.s 10)),I 8 (.mv (.s 43))])
def ZVc:PC :=
 (.reg [0,5,54] [I 44 (.mv (.s 2)),I 45 (.mv (.s 44)),G 46 45 true (.fadr 1 (.s 5)),G 47 45 true (.ld false 1 (.s 46)),G 48 45 true (.bin .eql (.s 47) (V 0)),I 49 (.pick (.s 45) (.s 48) (.v (.bool false))),I 50 (.mv (.s 49)),G 51 50 true (.ld true 7 (.s 5)),G 52 50 true (C Qi [(.s 51)]),G 53 50 true (.bin .lss (.s 52) (V 8)),I 54 (.pick (.s 50) (.s 53) (.v (.bool false)))])
def ZVd:PC :=
 (.reg [8] [I 8 (.mv (V 23))])
def ZQx:PC :=
 (.reg [0,5,56,57,58] [I 55 (.fadr 6 (.s 5)),I 56 (.ld false 1 (.s 55)),I 57 (.len 1 (.s 56)),I 58 (.mv (V 0))])
def ZQy:PC :=
 (.reg [0,5,56,57,58,59] [I 59 (.bin .lss (.s 58) (.s 57))])
def ZQz:PC :=
 (.reg [0,5,12,56,57,58] [I 60 (.ixS 7 (.s 56) (.s 58)),I 61 (.ld true 7 (.s 60)),I 12 (.box (.v ZT)),J (.st 7 (.s 12) (.s 61))])
def ZQ0:PC :=
 (.reg [0,5,13,56,57,58] [I 62 (.mv (.s 0)),I 63 (.ld true 7 (.s 12)),I 64 (.fadr 1 (.s 5)),I 65 (.ld false 1 (.s 64)),I 66 (.bin .sub (.s 65) (V 1)),I 67 (C ZAq [(.s 62),(.s 63),(.v (.bool true)),(.s 66)]),I 13 (.mv (.s 67))])
def ZQ1:PC :=
 (.reg [0,5,13,56,57,58,69] [I 68 (.mv (.s 13)),I 69 (.bin .neq (.s 68) (V 0))])
def ZQ2:PC :=
 (.reg [8] [I 70 (.mv (.s 13)),I 8 (.mv (.s 70))])
def ZQ3:PC :=
 (.reg [0,5,56,57,58] [I 71 (.bin .add (.s 58) (V 1)),I 58 (.mv (.s 71))])
def ZEg:PC :=
 (.seq ZQy
 (.seq (.ite (.s 59)
 .skip
 (.exit 0))
 (.seq (.block 1
 (.seq ZQz
 (.seq ZQ0
 (.seq ZQ1
 (.ite (.s 69)
 (.seq ZQ2
 .ret)
 .skip)))))
 ZQ3)))
def ZQ4:PC :=
 (.reg [8] [I 8 (.mv (V 0))])
def ZLW:PF:=⟨false,
 (.seq ZVU
 (.seq ZVV
 (.seq (.seq ZVW
 (.ite (.s 30)
 (.seq ZVX
 .ret)
 .skip))
 (.seq (.seq ZVY
 (.ite (.s 32)
 (.seq ZVZ
 (.seq ZVa
 (.ite (.s 42)
 (.seq ZVb
 .ret)
 .skip)))
 .skip))
 (.seq (.seq ZVc
 (.ite (.s 54)
 (.seq ZVd
 .ret)
 .skip))
 (.seq (.seq ZQx
 (.block 0
 (.loop ZEg)))
 (.seq ZQ4
 .ret))))))),
 [.s 8]⟩
theorem Zbn:Zs Proofs.Tryz.prog false Zbm Proofs.Tryz.f204=some ZLW:=by kernel_rfl
def ZfT:List Hint:=[H [1],H [1,3],H [1,3,4],H [1,3,14],H [1,3],H [3,16,17,18],H [3,16,17,18,19],H [3,6,16,17,18],H [3,16,17,18],H [3,16,17,18],H [2]]
def Zbo:PC :=
 (.reg [1] [I 1 (.box (.s 0)),I 2 (.mv (V 0))])
def Zbp:PC :=
 (.reg [1,3] [I 3 (.mv (V 0))])
def Zbq:PC :=
 (.reg [1,3,4] [I 7 (.ld true 7 (.s 1)),I 8 (C Qb [(.s 7)]),I 4 (.mv (.s 8))])
def Zbr:PC :=
 (.reg [1,3,14] [I 9 (.mv (.s 4)),I 10 (.bin .eql (.s 9) (V 3)),I 11 (.mv (.s 10)),G 12 11 false (.mv (.s 4)),G 13 11 false (.bin .eql (.s 12) (V 4)),I 14 (.pick (.s 11) (.v (.bool true)) (.s 13))])
def Zbs:PC :=
 (.reg [1,3] [I 3 (.mv (V 1))])
def Zbt:PC :=
 (.reg [3,16,17,18] [I 15 (.fadr 6 (.s 1)),I 16 (.ld false 1 (.s 15)),I 17 (.len 1 (.s 16)),I 18 (.mv (V 0))])
def Zbu:PC :=
 (.reg [3,16,17,18,19] [I 19 (.bin .lss (.s 18) (.s 17))])
def Zbv:PC :=
 (.reg [3,6,16,17,18] [I 20 (.ixS 7 (.s 16) (.s 18)),I 21 (.ld true 7 (.s 20)),I 6 (.box (.v ZT)),J (.st 7 (.s 6) (.s 21))])
def Zbw:PC :=
 (.reg [3,16,17,18] [I 22 (.mv (.s 3)),I 23 (.ld true 7 (.s 6)),I 24 (C X4 [(.s 23)]),I 25 (.bin .add (.s 22) (.s 24)),I 3 (.mv (.s 25))])
def Zbx:PC :=
 (.reg [3,16,17,18] [I 26 (.bin .add (.s 18) (V 1)),I 18 (.mv (.s 26))])
def ZYt:PC :=
 (.seq Zbu
 (.seq (.ite (.s 19)
 .skip
 (.exit 0))
 (.seq (.block 1
 (.seq Zbv
 Zbw))
 Zbx)))
def ZYu:PC :=
 (.reg [2] [I 27 (.mv (.s 3)),I 2 (.mv (.s 27))])
def ZVe:PF:=⟨false,
 (.seq Zbo
 (.seq Zbp
 (.seq (.seq Zbq
 (.seq Zbr
 (.ite (.s 14)
 Zbs
 .skip)))
 (.seq (.seq Zbt
 (.block 0
 (.loop ZYt)))
 (.seq ZYu
 .ret))))),
 [.s 2]⟩
theorem ZfU:Zs Proofs.Tryz.prog false ZfT Proofs.Tryz.f205=some ZVe:=by kernel_rfl
def ZVf:List Hint:=[H [0,3],H [0,3,5],H [0,3,5,80],H [0,3,5,95],H [0,5,6],H [0,5,6],H [5],⟨[0,3,5,7],[0],[],[],[],[]⟩,H [0,3,5,7,20,21,22],H [0,3,5,7,20,21,22,23],H [0,3,5,7,9,20,21,22],H [0,3,5,7,10,20,21,22],⟨[0,3,5,7,10,20,21,22],[2],[],[],[],[]⟩,H [0,3,5,7,10,20,21,22],H [0,3,5,7,10,20,21,22],H [0,3,5,7,20,21,22],H [0,3,5,7,20,21,22],H [5],H [4]]
def ZNr:PC :=
 (.reg [0,3] [I 3 (.box (.s 1)),I 4 (.mv (.v .nilptr))])
def ZNs:PC :=
 (.reg [0,3,5] [I 11 (.fadr 1 (.s 3)),I 12 (.ld false 1 (.s 11)),I 13 (.fadr 2 (.s 3)),I 14 (.ld true 3 (.s 13)),I 15 (.fadr 0 (.s 3)),I 16 (.ld false 1 (.s 15)),I 17 (.build [(.int .u64 0),(.int .i64 0),(.int .i64 0),(.int .i64 0),(.int .i64 0)] [(1,1,(.s 12)),(2,3,(.s 14)),(0,1,(.s 16))]),I 18 (.box (.s 17)),I 5 (.mv (.s 18))])
def ZNt:PC :=
 (.reg [0,3,5,80] [I 81 (.fadr 0 (.s 3)),I 82 (.ld false 1 (.s 81)),I 83 (.bin .neq (.s 82) (.v (.int .u64 0))),I 84 (.mv (.s 83)),G 85 84 false (.fadr 5 (.s 3)),G 86 84 false (.ld false 1 (.s 85)),G 87 84 false (.bin .eql (.s 86) (.v (.str []))),G 88 84 false (.mv (.s 87)),G 89 88 true (.fadr 6 (.s 3)),G 90 88 true (.ld false 1 (.s 89)),G 91 88 true (.len 1 (.s 90)),G 92 88 true (.bin .eql (.s 91) (V 0)),G 93 84 false (.pick (.s 88) (.s 92) (.v (.bool false))),I 94 (.pick (.s 84) (.v (.bool true)) (.s 93)),I 80 (.mv (.s 94))])
def ZNu:PC :=
 (.reg [0,3,5,95] [I 96 (.fadr 1 (.s 3)),I 97 (.ld false 1 (.s 96)),I 98 (.bin .eql (.s 97) (V 0)),I 95 (.mv (.s 98))])
def ZNv:PC :=
 (.reg [0,5,6] [I 99 (.fadr 5 (.s 3)),I 100 (.ld false 1 (.s 99)),I 101 (.build [(.int .i64 0),(.str []),.nils] [(1,1,(.s 100))]),I 6 (.box (.v ZN)),J (.st 3 (.s 6) (.s 101))])
def ZNw:PC :=
 (.reg [0,5,6] [I 103 (.mv (.s 5)),I 104 (.ld true 3 (.s 6)),I 105 (C Jz [(.s 104)]),I 102 (.mv (.s 105)),I 106 (.ext (.s 102) 0),I 107 (.ext (.s 102) 1),I 108 (.nilck (.s 103)),I 109 (.fadr 2 (.s 108)),J (.st 3 (.s 109) (.s 106))])
def ZNx:PC :=
 (.reg [5] [I 110 (.mv (.s 0)),I 111 (.mv (.s 5)),I 112 (.mkf (.func JZ) [] [(.s 6)]),I 113 (C XW [(.s 110),(.s 111),(.s 112)])])
def ZNy:PC :=
 (.reg [0,3,5,7] [I 7 (.boxnil 1)])
def ZNz:PC :=
 (.reg [0,3,5,7,20,21,22] [I 19 (.fadr 6 (.s 3)),I 20 (.ld false 1 (.s 19)),I 21 (.len 1 (.s 20)),I 22 (.mv (V 0))])
def ZN0:PC :=
 (.reg [0,3,5,7,20,21,22,23] [I 23 (.bin .lss (.s 22) (.s 21))])
def ZLX:PC :=
 (.reg [0,3,5,7,9,20,21,22] [I 24 (.ixS 7 (.s 20) (.s 22)),I 25 (.ld true 7 (.s 24)),I 9 (.box (.v ZT)),J (.st 7 (.s 9) (.s 25))])
def ZLY:PC :=
 (.reg [0,3,5,7,10,20,21,22] [I 26 (.mv (.s 0)),I 27 (.ld true 7 (.s 9)),I 28 (C Qe [(.s 26),(.s 27)]),I 10 (.mv (.s 28))])
def ZLZ:PC :=
 (.reg [0,3,5,7,10,20,21,22] [I 29 (.ld false 1 (.s 7)),I 30 (.mv (.s 10)),I 31 (.bslice true 1 [.nilptr] [(0,(.s 30))]),I 32 (.app 1 8 (.s 29) (.s 31)),J (.st 1 (.s 7) (.s 32))])
def ZCK:PC :=
 (.reg [0,3,5,7,10,20,21,22] [I 33 (.mv (.s 5)),I 34 (.nilck (.s 33)),I 35 (.fadr 2 (.s 34)),I 36 (.fadr 0 (.s 35)),I 37 (.ld false 1 (.s 36)),I 38 (.mv (.s 10)),I 39 (.nilck (.s 38)),I 40 (.fadr 2 (.s 39)),I 41 (.fadr 0 (.s 40)),I 42 (.ld false 1 (.s 41)),I 43 (.bin .add (.s 37) (.s 42)),I 44 (.nilck (.s 33)),I 45 (.fadr 2 (.s 44)),I 46 (.fadr 0 (.s 45)),J (.st 1 (.s 46) (.s 43))])
def ZCL:PC :=
 (.reg [0,3,5,7,10,20,21,22] [I 47 (.mv (.s 5)),I 48 (.nilck (.s 47)),I 49 (.fadr 2 (.s 48)),I 50 (.fadr 1 (.s 49)),I 51 (.ld false 1 (.s 50)),I 52 (.mv (.s 10)),I 53 (.nilck (.s 52)),I 54 (.fadr 2 (.s 53)),I 55 (.fadr 1 (.s 54)),I 56 (.ld false 1 (.s 55)),I 57 (.bin .add (.s 51) (.s 56)),I 58 (.nilck (.s 47)),I 59 (.fadr 2 (.s 58)),I 60 (.fadr 1 (.s 59)),J (.st 1 (.s 60) (.s 57))])
def ZCM:PC :=
 (.reg [0,3,5,7,20,21,22] [I 61 (.mv (.s 5)),I 62 (.nilck (.s 61)),I 63 (.fadr 2 (.s 62)),I 64 (.fadr 2 (.s 63)),I 65 (.ld false 1 (.s 64)),I 66 (.mv (.s 10)),I 67 (.nilck (.s 66)),I 68 (.fadr 2 (.s 67)),I 69 (.fadr 2 (.s 68)),I 70 (.ld false 1 (.s 69)),I 71 (.bin .add (.s 65) (.s 70)),I 72 (.nilck (.s 61)),I 73 (.fadr 2 (.s 72)),I 74 (.fadr 2 (.s 73)),J (.st 1 (.s 74) (.s 71))])
def ZLa:PC :=
 (.reg [0,3,5,7,20,21,22] [I 75 (.bin .add (.s 22) (V 1)),I 22 (.mv (.s 75))])
def ZLb:PC :=
 (.seq ZN0
 (.seq (.ite (.s 23)
 .skip
 (.exit 1))
 (.seq (.block 2
 (.seq ZLX
 (.seq ZLY
 (.seq ZLZ
 (.seq ZCK
 (.seq ZCL
 ZCM))))))
 ZLa)))
def ZLc:PC :=
 (.reg [5] [I 76 (.mv (.s 0)),I 77 (.mv (.s 5)),I 78 (.mkf (.func JB) [] [(.s 3),(.s 7)]),I 79 (C XW [(.s 76),(.s 77),(.s 78)])])
def ZLd:PC :=
 (.reg [4] [I 114 (.mv (.s 5)),I 4 (.mv (.s 114))])
def ZGm:PF:=⟨true,
 (.seq ZNr
 (.seq ZNs
 (.seq (.block 0
 (.seq ZNt
 (.ite (.s 80)
 .skip
 (.seq ZNu
 (.ite (.s 95)
 (.seq ZNv
 (.seq ZNw
 ZNx))
 (.seq ZNy
 (.seq (.seq ZNz
 (.block 1
 (.loop ZLb)))
 ZLc)))))))
 (.seq ZLd
 .ret)))),
 [.s 4]⟩
theorem ZVg:Zs Proofs.Tryz.prog true ZVf Proofs.Tryz.f206=some ZGm:=by kernel_rfl
def ZYv:List Hint:=[H []]
def ZQ5:PC :=
 (.reg [] [I 1 (.box (.s 0))])
def ZH5:PF:=⟨false,
 ZQ5,
 []⟩
theorem ZYw:Zs Proofs.Tryz.prog false ZYv Proofs.Tryz.f207=some ZH5:=by kernel_rfl
def ZN1:List Hint:=[H [0],H [2]]
def ZI7:PC :=
 (.reg [0] [I 2 (.mv (.v (.bool false)))])
def ZI8:PC :=
 (.reg [2] [I 3 (.mv (.s 0)),I 4 (.bin .lss (.s 3) (.v (.int .u8 128))),I 5 (.mv (.s 4)),G 6 5 false (.mv (.s 0)),G 7 5 false (.bin .gtr (.s 6) (.v (.int .u8 191))),I 8 (.pick (.s 5) (.v (.bool true)) (.s 7)),I 2 (.mv (.s 8))])
def ZC3:PF:=⟨false,
 (.seq ZI7
 (.seq ZI8
 .ret)),
 [.s 2]⟩
theorem ZN2:Zs Proofs.Tryz.prog false ZN1 Proofs.Tryz.f208=some ZC3:=by kernel_rfl
def Zdv:List Hint:=[H [0,1],H [0,1,9],H [4,5,6],H [0,1,17],H [4,5,6],H [4,5,6]]
def ZYx:PC :=
 (.reg [0,1] [I 4 (.mv (.v (.str []))),I 5 (.mv (.v (.str []))),I 6 (.mv (V 0))])
def ZYy:PC :=
 (.reg [0,1,9] [I 7 (.mv (.s 0)),I 8 (C XY [(.s 7)]),I 9 (.un .not (.s 8))])
def ZYz:PC :=
 (.reg [4,5,6] [I 4 (.mv (.v (.str []))),I 5 (.mv (.v (.str []))),I 6 (.mv (V 2))])
def ZY0:PC :=
 (.reg [0,1,17] [I 10 (.mv (.s 1)),I 11 (.bin .lss (.s 10) (V 0)),I 12 (.mv (.s 11)),G 13 12 false (.mv (.s 1)),G 14 12 false (.mv (.s 0)),G 15 12 false (.len 0 (.s 14)),G 16 12 false (.bin .gtr (.s 13) (.s 15)),I 17 (.pick (.s 12) (.v (.bool true)) (.s 16))])
def ZY1:PC :=
 (.reg [4,5,6] [I 4 (.mv (.v (.str []))),I 5 (.mv (.v (.str []))),I 6 (.mv (V 3))])
def ZY2:PC :=
 (.reg [4,5,6] [I 18 (.mv (.s 0)),I 19 (.mv (.s 1)),I 20 (.slcS (.s 18) none (some (.s 19))),I 21 (.mv (.s 0)),I 22 (.mv (.s 1)),I 23 (.slcS (.s 21) (some (.s 22)) none),I 4 (.mv (.s 20)),I 5 (.mv (.s 23)),I 6 (.mv (V 0))])
def ZPI:PF:=⟨false,
 (.seq ZYx
 (.seq (.seq ZYy
 (.ite (.s 9)
 (.seq ZYz
 .ret)
 .skip))
 (.seq (.seq ZY0
 (.ite (.s 17)
 (.seq ZY1
 .ret)
 .skip))
 (.seq ZY2
 .ret)))),
 [.s 4,.s 5,.s 6]⟩
theorem Zdw:Zs Proofs.Tryz.prog false Zdv Proofs.Tryz.f213=some ZPI:=by kernel_rfl
def ZVh:List Hint:=[H [1],H [2]]
def ZN3:PC :=
 (.reg [1] [I 1 (.box (.s 0)),I 2 (.mv (V 0))])
def ZN4:PC :=
 (.reg [2] [I 3 (.fadr 0 (.s 1)),I 4 (.ld false 1 (.s 3)),I 2 (.mv (.s 4))])
def ZGn:PF:=⟨false,
 (.seq ZN3
 (.seq ZN4
 .ret)),
 [.s 2]⟩
theorem ZVi:Zs Proofs.Tryz.prog false ZVh Proofs.Tryz.f219=some ZGn:=by kernel_rfl
def ZQ6:List Hint:=[H [0,1],H [0,1,5],H [0,1,5,8,9],H [0,1,5,8,9,10],H [0,1,5,6,8,9],H [0,1,5,8,9,16],H [0,1,5,8,9],H [0,1,5,8,9],H [4]]
def ZLe:PC :=
 (.reg [0,1] [I 4 (.mv (V 0))])
def ZLf:PC :=
 (.reg [0,1,5] [I 5 (.mv (V 0))])
def ZLg:PC :=
 (.reg [0,1,5,8,9] [I 7 (.mv (.s 0)),I 8 (.len 0 (.s 7)),I 9 (.mv (V 0))])
def ZLh:PC :=
 (.reg [0,1,5,8,9,10] [I 10 (.bin .lss (.s 9) (.s 8))])
def ZLi:PC :=
 (.reg [0,1,5,6,8,9] [I 11 (.mv (.s 9)),I 6 (.mv (.s 11))])
def ZLj:PC :=
 (.reg [0,1,5,8,9,16] [I 12 (.mv (.s 1)),I 13 (.mv (.s 0)),I 14 (.mv (.s 6)),I 15 (.ixStr (.s 13) (.s 14)),I 16 (.call .norm (.s 12) [(.s 15)])])
def ZLk:PC :=
 (.reg [0,1,5,8,9] [I 17 (.mv (.s 5)),I 18 (.bin .add (.s 17) (V 1)),I 5 (.mv (.s 18))])
def ZLl:PC :=
 (.reg [0,1,5,8,9] [I 19 (.bin .add (.s 9) (V 1)),I 9 (.mv (.s 19))])
def ZLm:PC :=
 (.seq ZLh
 (.seq (.ite (.s 10)
 .skip
 (.exit 0))
 (.seq (.block 1
 (.seq ZLi
 (.seq ZLj
 (.ite (.s 16)
 ZLk
 .skip))))
 ZLl)))
def ZLn:PC :=
 (.reg [4] [I 20 (.mv (.s 5)),I 4 (.mv (.s 20))])
def ZEh:PF:=⟨false,
 (.seq ZLe
 (.seq ZLf
 (.seq (.seq ZLg
 (.block 0
 (.loop ZLm)))
 (.seq ZLn
 .ret)))),
 [.s 4]⟩
theorem ZQ7:Zs Proofs.Tryz.prog false ZQ6 Proofs.Tryz.f220=some ZEh:=by kernel_rfl
def Zby:List Hint:=[H [1],H [1,5],H [2],H [9],H [2],H [2]]
def ZVj:PC :=
 (.reg [1] [I 1 (.box (.s 0)),I 2 (.mv (V 0))])
def ZVk:PC :=
 (.reg [1,5] [I 3 (.ld true 3 (.s 1)),I 4 (C ZAG [(.s 3)]),I 5 (.un .not (.s 4))])
def ZVl:PC :=
 (.reg [2] [I 2 (.mv (V 23))])
def ZVm:PC :=
 (.reg [9] [I 6 (.ld true 3 (.s 1)),I 7 (C ZBb [(.s 6)]),I 8 (.fld false 0 1 (.s 7)),I 9 (.bin .gtr (.s 8) (V 65536))])
def ZVn:PC :=
 (.reg [2] [I 2 (.mv (V 5))])
def ZVo:PC :=
 (.reg [2] [I 2 (.mv (V 0))])
def ZLo:PF:=⟨false,
 (.seq ZVj
 (.seq (.seq ZVk
 (.ite (.s 5)
 (.seq ZVl
 .ret)
 .skip))
 (.seq (.seq ZVm
 (.ite (.s 9)
 (.seq ZVn
 .ret)
 .skip))
 (.seq ZVo
 .ret)))),
 [.s 2]⟩
theorem Zbz:Zs Proofs.Tryz.prog false Zby Proofs.Tryz.f221=some ZLo:=by kernel_rfl
def ZfV:List Hint:=[H [1,2],H [1,2,8],H [2],⟨[1,2,3],[0],[],[],[],[]⟩,H [2,3,13,14,15],H [2,3,13,14,15,16],H [2,3,5,13,14,15],H [2,3,13,14,15],H [2,3,13,14,15],H [2]]
def Zb0:PC :=
 (.reg [1,2] [I 1 (.box (.s 0)),I 2 (.box (.v ZM))])
def Zb1:PC :=
 (.reg [1,2,8] [I 6 (.fadr 0 (.s 1)),I 7 (.ld false 1 (.s 6)),I 8 (.bin .eql (.s 7) (V 0))])
def Zb2:PC :=
 (.reg [2] [I 9 (.fadr 1 (.s 1)),I 10 (.ld false 1 (.s 9)),I 11 (C ZDZ [(.s 10)]),J (.st 3 (.s 2) (.s 11))])
def Zb3:PC :=
 (.reg [1,2,3] [I 3 (.onil 3)])
def Zb4:PC :=
 (.reg [2,3,13,14,15] [I 12 (.fadr 2 (.s 1)),I 13 (.ld false 1 (.s 12)),I 14 (.len 1 (.s 13)),I 15 (.mv (V 0))])
def Zb5:PC :=
 (.reg [2,3,13,14,15,16] [I 16 (.bin .lss (.s 15) (.s 14))])
def Zb6:PC :=
 (.reg [2,3,5,13,14,15] [I 17 (.ixS 4 (.s 13) (.s 15)),I 18 (.ld true 4 (.s 17)),I 5 (.box (.v ZK)),J (.st 4 (.s 5) (.s 18))])
def Zb7:PC :=
 (.reg [2,3,13,14,15] [I 19 (.mv (.s 3)),I 20 (.fadr 1 (.s 5)),I 21 (.ld true 3 (.s 20)),I 22 (.bslice false 3 [ZM] [(0,(.s 21))]),I 23 (.app 3 24 (.s 19) (.s 22)),I 3 (.mv (.s 23))])
def Zb8:PC :=
 (.reg [2,3,13,14,15] [I 24 (.bin .add (.s 15) (V 1)),I 15 (.mv (.s 24))])
def Zb9:PC :=
 (.seq Zb5
 (.seq (.ite (.s 16)
 .skip
 (.exit 0))
 (.seq (.block 1
 (.seq Zb6
 Zb7))
 Zb8)))
def ZY3:PC :=
 (.reg [2] [I 25 (.mv (.s 3)),I 26 (C ZCa [(.s 25)]),J (.st 3 (.s 2) (.s 26))])
def ZVp:PF:=⟨false,
 (.seq Zb0
 (.seq (.seq Zb1
 (.ite (.s 8)
 (.seq Zb2
 .ret)
 .skip))
 (.seq Zb3
 (.seq (.seq Zb4
 (.block 0
 (.loop Zb9)))
 (.seq ZY3
 .ret))))),
 [.c 2 true 3]⟩
theorem ZfW:Zs Proofs.Tryz.prog false ZfV Proofs.Tryz.f222=some ZVp:=by kernel_rfl
def ZY4:List Hint:=[H [1,2],H [1,2,10],H [4],H [1,2,5],H [2,5,17],H [2,5],H [5,6],H [5,6,7],H [6,7,23,24],H [6,7,23,24,25],H [6,7,8,23,24],H [6,7,23,24],H [6,7,23,24],H [4]]
def ZQ8:PC :=
 (.reg [1,2] [I 2 (.box (.s 0)),I 4 (.mv (.v .nils))])
def ZQ9:PC :=
 (.reg [1,2,10] [I 9 (.ld false 1 (.s 2)),I 10 (.bin .eql (.s 9) (V 0))])
def ZRA:PC :=
 (.reg [4] [I 4 (.mv (.v .nils))])
def ZRB:PC :=
 (.reg [1,2,5] [I 11 (.ld false 1 (.s 2)),I 12 (.mv (.s 1)),I 13 (.bin .quo (.s 11) (.s 12)),I 5 (.box (V 0)),J (.st 1 (.s 5) (.s 13))])
def ZRC:PC :=
 (.reg [2,5,17] [I 14 (.ld false 1 (.s 2)),I 15 (.mv (.s 1)),I 16 (.bin .rem (.s 14) (.s 15)),I 17 (.bin .gtr (.s 16) (V 0))])
def ZRD:PC :=
 (.reg [2,5] [I 18 (.ld false 1 (.s 5)),I 19 (.bin .add (.s 18) (V 1)),J (.st 1 (.s 5) (.s 19))])
def ZRE:PC :=
 (.reg [5,6] [I 20 (.mkf (.func Jn) [] [(.s 2),(.s 5)]),I 6 (.mv (.s 20))])
def ZRF:PC :=
 (.reg [5,6,7] [I 21 (.ld false 1 (.s 5)),I 22 (.mkslice 1 8 (.int .i64 0) (.s 21) (.s 21)),I 7 (.mv (.s 22))])
def ZRG:PC :=
 (.reg [6,7,23,24] [I 23 (.ld false 1 (.s 5)),I 24 (.mv (V 0))])
def ZRH:PC :=
 (.reg [6,7,23,24,25] [I 25 (.bin .lss (.s 24) (.s 23))])
def ZN5:PC :=
 (.reg [6,7,8,23,24] [I 26 (.mv (.s 24)),I 8 (.mv (.s 26))])
def ZN6:PC :=
 (.reg [6,7,23,24] [I 27 (.mv (.s 7)),I 28 (.mv (.s 8)),I 29 (.mv (.s 6)),I 30 (.mv (.s 8)),I 31 (.call .norm (.s 29) [(.s 30)]),I 32 (.ixS 1 (.s 27) (.s 28)),J (.st 1 (.s 32) (.s 31))])
def ZN7:PC :=
 (.reg [6,7,23,24] [I 33 (.bin .add (.s 24) (V 1)),I 24 (.mv (.s 33))])
def ZC4:PC :=
 (.seq ZRH
 (.seq (.ite (.s 25)
 .skip
 (.exit 0))
 (.seq (.block 1
 (.seq ZN5
 ZN6))
 ZN7)))
def ZN8:PC :=
 (.reg [4] [I 34 (.mv (.s 7)),I 4 (.mv (.s 34))])
def ZH6:PF:=⟨false,
 (.seq ZQ8
 (.seq (.seq ZQ9
 (.ite (.s 10)
 (.seq ZRA
 .ret)
 .skip))
 (.seq ZRB
 (.seq (.seq ZRC
 (.ite (.s 17)
 ZRD
 .skip))
 (.seq ZRE
 (.seq ZRF
 (.seq (.seq ZRG
 (.block 0
 (.loop ZC4)))
 (.seq ZN8
 .ret)))))))),
 [.s 4]⟩
theorem ZY5:Zs Proofs.Tryz.prog false ZY4 Proofs.Tryz.f223=some ZH6:=by kernel_rfl
def ZcA:List Hint:=[H [0,4,5],H [0,4,5,22],H [6,7],H [0,4,5,8,9],H [0,4,5,8,9],H [0,4,5,8,9,33],H [0,4,5,8,9,10],H [0,4,5,8,9,10,41],H [6,7],H [0,4,5,8,9,47],H [0,4,5,8,9,10],H [0,4,5,8,9,10,55],H [6,7],H [0,4,5,8,9,57],H [6,7],H [0,4,5,8,9,78],H [6,7],H [0,4,5,8,9,87],H [0,5,8,11],H [8,11,12,13],H [8,11,12,13,107],H [6,7],H [6,7],H [9,10,14],H [9,10,14,127],H [6,7],⟨[6,7],[],[],[],[(4,.blind),(2,.app0),(0,.imm)],[]⟩]
def ZVq:PC :=
 (.reg [0,4,5] [I 4 (.box (.s 1)),I 5 (.box (.s 2)),I 6 (.mv (.v .nils)),I 7 (.mv (V 0))])
def ZVr:PC :=
 (.reg [0,4,5,22] [I 15 (.fadr 1 (.s 4)),I 16 (.ld false 1 (.s 15)),I 17 (.bin .eql (.s 16) (V 0)),I 18 (.mv (.s 17)),G 19 18 true (.fadr 1 (.s 5)),G 20 18 true (.ld false 1 (.s 19)),G 21 18 true (.bin .eql (.s 20) (V 0)),I 22 (.pick (.s 18) (.s 21) (.v (.bool false)))])
def ZVs:PC :=
 (.reg [6,7] [I 23 (.mv (.s 0)),I 24 (.ld true 7 (.s 4)),I 25 (.ld true 7 (.s 5)),I 26 (C ZCb [(.s 23),(.s 24),(.s 25)]),I 27 (.ext (.s 26) 0),I 28 (.ext (.s 26) 1),I 6 (.mv (.s 27)),I 7 (.mv (.s 28))])
def ZVt:PC :=
 (.reg [0,4,5,8,9] [I 8 (.mv (.v .nils)),I 9 (.mv (.v .nils))])
def ZVu:PC :=
 (.reg [0,4,5,8,9] [I 10 (.mv (V 0))])
def ZVv:PC :=
 (.reg [0,4,5,8,9,33] [I 29 (.fadr 1 (.s 4)),I 30 (.ld false 1 (.s 29)),I 31 (.fadr 1 (.s 5)),I 32 (.ld false 1 (.s 31)),I 33 (.bin .geq (.s 30) (.s 32))])
def ZVw:PC :=
 (.reg [0,4,5,8,9,10] [I 35 (.mv (.s 0)),I 36 (.ld true 7 (.s 4)),I 37 (C Jl [(.s 35),(.s 36)]),I 34 (.mv (.s 37)),I 38 (.ext (.s 34) 0),I 39 (.ext (.s 34) 1),I 8 (.mv (.s 38)),I 10 (.mv (.s 39))])
def ZVx:PC :=
 (.reg [0,4,5,8,9,10,41] [I 40 (.mv (.s 10)),I 41 (.bin .neq (.s 40) (V 0))])
def ZVy:PC :=
 (.reg [6,7] [I 42 (.mv (.s 10)),I 6 (.mv (.v .nils)),I 7 (.mv (.s 42))])
def ZVz:PC :=
 (.reg [0,4,5,8,9,47] [I 43 (.fadr 1 (.s 5)),I 44 (.ld false 1 (.s 43)),I 45 (.fadr 1 (.s 4)),I 46 (.ld false 1 (.s 45)),I 47 (.bin .geq (.s 44) (.s 46))])
def ZRI:PC :=
 (.reg [0,4,5,8,9,10] [I 49 (.mv (.s 0)),I 50 (.ld true 7 (.s 5)),I 51 (C Jl [(.s 49),(.s 50)]),I 48 (.mv (.s 51)),I 52 (.ext (.s 48) 0),I 53 (.ext (.s 48) 1),I 9 (.mv (.s 52)),I 10 (.mv (.s 53))])
def ZRJ:PC :=
 (.reg [0,4,5,8,9,10,55] [I 54 (.mv (.s 10)),I 55 (.bin .neq (.s 54) (V 0))])
def ZRK:PC :=
 (.reg [6,7] [I 56 (.mv (.s 10)),I 6 (.mv (.v .nils)),I 7 (.mv (.s 56))])
def ZRL:PC :=
 (.reg [0,4,5,8,9,57] [I 58 (.fadr 1 (.s 4)),I 59 (.ld false 1 (.s 58)),I 60 (.fadr 1 (.s 5)),I 61 (.ld false 1 (.s 60)),I 62 (.bin .eql (.s 59) (.s 61)),I 63 (.mv (.s 62)),G 64 63 true (.mv (.s 8)),G 65 63 true (.len 1 (.s 64)),G 66 63 true (.mv (.s 9)),G 67 63 true (.len 1 (.s 66)),G 68 63 true (.bin .add (.s 65) (.s 67)),G 69 63 true (.bin .leq (.s 68) (V 4)),I 70 (.pick (.s 63) (.s 69) (.v (.bool false))),I 57 (.mv (.s 70))])
def ZRM:PC :=
 (.reg [6,7] [I 71 (.bslice false 7 [] []),I 72 (.mv (.s 8)),I 73 (.app 7 80 (.s 71) (.s 72)),I 74 (.mv (.s 9)),I 75 (.app 7 80 (.s 73) (.s 74)),I 76 (C QG [(.s 75)]),I 77 (.bslice false 7 [ZT] [(0,(.s 76))]),I 6 (.mv (.s 77)),I 7 (.mv (V 0))])
def ZRN:PC :=
 (.reg [0,4,5,8,9,78] [I 79 (.fadr 1 (.s 4)),I 80 (.ld false 1 (.s 79)),I 81 (.fadr 1 (.s 5)),I 82 (.ld false 1 (.s 81)),I 83 (.bin .eql (.s 80) (.s 82)),I 78 (.mv (.s 83))])
def ZRO:PC :=
 (.reg [6,7] [I 84 (.ld true 7 (.s 4)),I 85 (.ld true 7 (.s 5)),I 86 (.bslice false 7 [ZT,ZT] [(0,(.s 84)),(1,(.s 85))]),I 6 (.mv (.s 86)),I 7 (.mv (V 0))])
def ZRP:PC :=
 (.reg [0,4,5,8,9,87] [I 88 (.fadr 1 (.s 4)),I 89 (.ld false 1 (.s 88)),I 90 (.fadr 1 (.s 5)),I 91 (.ld false 1 (.s 90)),I 92 (.bin .gtr (.s 89) (.s 91)),I 87 (.mv (.s 92))])
def ZRQ:PC :=
 (.reg [0,5,8,11] [I 93 (.mv (.s 8)),I 94 (.len 1 (.s 93)),I 95 (.bin .sub (.s 94) (V 1)),I 11 (.mv (.s 95))])
def ZRR:PC :=
 (.reg [8,11,12,13] [I 97 (.mv (.s 0)),I 98 (.mv (.s 8)),I 99 (.mv (.s 11)),I 100 (.ixS 7 (.s 98) (.s 99)),I 101 (.ld true 7 (.s 100)),I 102 (.ld true 7 (.s 5)),I 103 (C XV [(.s 97),(.s 101),(.s 102)]),I 96 (.mv (.s 103)),I 104 (.ext (.s 96) 0),I 105 (.ext (.s 96) 1),I 12 (.mv (.s 104)),I 13 (.mv (.s 105))])
def ZRS:PC :=
 (.reg [8,11,12,13,107] [I 106 (.mv (.s 13)),I 107 (.bin .neq (.s 106) (V 0))])
def ZRT:PC :=
 (.reg [6,7] [I 108 (.mv (.s 13)),I 6 (.mv (.v .nils)),I 7 (.mv (.s 108))])
def ZRU:PC :=
 (.reg [6,7] [I 109 (.bslice false 7 [] []),I 110 (.mv (.s 8)),I 111 (.mv (.s 11)),I 112 (.slc 7 (.s 110) none (some (.s 111))),I 113 (.app 7 80 (.s 109) (.s 112)),I 114 (.mv (.s 12)),I 115 (.app 7 80 (.s 113) (.s 114)),I 116 (C ZCH [(.s 115)]),I 6 (.mv (.s 116)),I 7 (.mv (V 0))])
def ZRV:PC :=
 (.reg [9,10,14] [I 118 (.mv (.s 0)),I 119 (.ld true 7 (.s 4)),I 120 (.mv (.s 9)),I 121 (.ixS 7 (.s 120) (V 0)),I 122 (.ld true 7 (.s 121)),I 123 (C XV [(.s 118),(.s 119),(.s 122)]),I 117 (.mv (.s 123)),I 124 (.ext (.s 117) 0),I 125 (.ext (.s 117) 1),I 14 (.mv (.s 124)),I 10 (.mv (.s 125))])
def ZRW:PC :=
 (.reg [9,10,14,127] [I 126 (.mv (.s 10)),I 127 (.bin .neq (.s 126) (V 0))])
def ZRX:PC :=
 (.reg [6,7] [I 128 (.mv (.s 10)),I 6 (.mv (.v .nils)),I 7 (.mv (.s 128))])
def ZRY:PC :=
 (.reg [6,7] [I 129 (.w .imm (.bslice false 7 [] [])),I 130 (.mv (.s 14)),I 131 (.w .app0 (.app 7 80 (.s 129) (.s 130))),I 132 (.mv (.s 9)),I 133 (.w .blind (.slc 7 (.s 132) (some (V 1)) none)),I 134 (.app 7 80 (.s 131) (.s 133)),I 135 (C ZCH [(.s 134)]),I 6 (.mv (.s 135)),I 7 (.mv (V 0))])
def ZLp:PF:=⟨false,
 (.seq ZVq
 (.seq (.seq ZVr
 (.ite (.s 22)
 (.seq ZVs
 .ret)
 .skip))
 (.seq ZVt
 (.seq ZVu
 (.seq (.seq ZVv
 (.ite (.s 33)
 (.seq ZVw
 (.seq ZVx
 (.ite (.s 41)
 (.seq ZVy
 .ret)
 .skip)))
 .skip))
 (.seq (.seq ZVz
 (.ite (.s 47)
 (.seq ZRI
 (.seq ZRJ
 (.ite (.s 55)
 (.seq ZRK
 .ret)
 .skip)))
 .skip))
 (.seq (.block 0
 (.seq ZRL
 (.ite (.s 57)
 (.seq ZRM
 .ret)
 (.seq ZRN
 (.ite (.s 78)
 (.seq ZRO
 .ret)
 (.seq ZRP
 (.ite (.s 87)
 (.seq ZRQ
 (.seq ZRR
 (.seq (.seq ZRS
 (.ite (.s 107)
 (.seq ZRT
 .ret)
 .skip))
 (.seq ZRU
 .ret))))
 .skip)))))))
 (.seq ZRV
 (.seq (.seq ZRW
 (.ite (.s 127)
 (.seq ZRX
 .ret)
 .skip))
 (.seq ZRY
 .ret)))))))))),
 [.s 6,.s 7]⟩
theorem ZcB:Zs Proofs.Tryz.prog false ZcA Proofs.Tryz.f225=some ZLp:=by kernel_rfl
def ZV0:List Hint:=[H [3,4,5],⟨[],[6],[],[],[(0,(.only (.s 3))),(7,(.grow (.s 3)))],[]⟩]
def ZN9:PC :=
 (.reg [3,4,5] [I 3 (.box (.s 0)),I 4 (.box (.s 1)),I 5 (.box (.s 2))])
def ZOA:PC :=
 (.reg [] [I 6 (.w (.only (.s 3)) (.ld false 1 (.s 3))),I 7 (.ld false 1 (.s 3)),I 8 (.nilck (.s 7)),I 9 (.fadr 1 (.s 8)),I 10 (.ld false 1 (.s 9)),I 11 (.mkf (.func Yi) [] [(.s 3),(.s 5),(.s 4)]),I 12 (.bslice true 1 [.nilfunc] [(0,(.s 11))]),I 13 (.w (.grow (.s 3)) (.app 1 8 (.s 10) (.s 12))),I 14 (.nilck (.s 6)),I 15 (.fadr 1 (.s 14)),J (.st 1 (.s 15) (.s 13))])
def ZGo:PF:=⟨true,
 (.seq ZN9
 ZOA),
 []⟩
theorem ZV1:Zs Proofs.Tryz.prog true ZV0 Proofs.Tryz.f226=some ZGo:=by kernel_rfl
def ZOB:List Hint:=[H [0,1],H [1]]
def ZI9:PC :=
 (.reg [0,1] [I 1 (.box (.v ZN))])
def ZJA:PC :=
 (.reg [1] [I 2 (.ld true 3 (.s 0)),J (.st 3 (.s 1) (.s 2))])
def ZC5:PF:=⟨false,
 (.seq ZI9
 (.seq ZJA
 .ret)),
 [.c 1 true 3]⟩
theorem ZOC:Zs Proofs.Tryz.prog false ZOB Proofs.Tryz.f227=some ZC5:=by kernel_rfl
def ZOD:List Hint:=[H [0,1,2],H [1,2,3],H [2,3,9,10,11],H [2,3,9,10,11,12],H [2,3,5,9,10,11],⟨[2,3,9,10,11],[],[],[],[(11,.imm)],[]⟩,H [2,3,9,10,11],H [2]]
def ZJB:PC :=
 (.reg [0,1,2] [I 2 (.box (.v ZN))])
def ZJC:PC :=
 (.reg [1,2,3] [I 6 (.fadr 1 (.s 0)),I 7 (.ld false 1 (.s 6)),I 8 (.build [(.int .i64 0),(.str []),.nils] [(0,1,(.s 7))]),I 3 (.box (.v ZN)),J (.st 3 (.s 3) (.s 8))])
def ZJD:PC :=
 (.reg [2,3,9,10,11] [I 9 (.ld false 1 (.s 1)),I 10 (.len 1 (.s 9)),I 11 (.mv (V 0))])
def ZJE:PC :=
 (.reg [2,3,9,10,11,12] [I 12 (.bin .lss (.s 11) (.s 10))])
def ZJF:PC :=
 (.reg [2,3,5,9,10,11] [I 13 (.ixS 1 (.s 9) (.s 11)),I 14 (.ld false 1 (.s 13)),I 5 (.mv (.s 14))])
def ZJG:PC :=
 (.reg [2,3,9,10,11] [I 15 (.fadr 2 (.s 3)),I 16 (.ld false 1 (.s 15)),I 17 (.mv (.s 5)),I 18 (.nilck (.s 17)),I 19 (.fadr 0 (.s 18)),I 20 (.ld false 1 (.s 19)),I 21 (.mv (.s 5)),I 22 (.nilck (.s 21)),I 23 (.fadr 2 (.s 22)),I 24 (.ld true 3 (.s 23)),I 25 (.build [(.int .u64 0),(.int .i64 0),(.int .i64 0),(.int .i64 0)] [(0,1,(.s 20)),(1,3,(.s 24))]),I 26 (.w .imm (.bslice false 4 [ZK] [(0,(.s 25))])),I 27 (.app 4 32 (.s 16) (.s 26)),I 28 (.fadr 2 (.s 3)),J (.st 1 (.s 28) (.s 27))])
def ZJH:PC :=
 (.reg [2,3,9,10,11] [I 29 (.bin .add (.s 11) (V 1)),I 11 (.mv (.s 29))])
def ZJI:PC :=
 (.seq ZJE
 (.seq (.ite (.s 12)
 .skip
 (.exit 0))
 (.seq (.block 1
 (.seq ZJF
 ZJG))
 ZJH)))
def ZJJ:PC :=
 (.reg [2] [I 30 (.ld true 3 (.s 3)),J (.st 3 (.s 2) (.s 30))])
def ZC6:PF:=⟨false,
 (.seq ZJB
 (.seq ZJC
 (.seq (.seq ZJD
 (.block 0
 (.loop ZJI)))
 (.seq ZJJ
 .ret)))),
 [.c 2 true 3]⟩
theorem ZOE:Zs Proofs.Tryz.prog false ZOD Proofs.Tryz.f228=some ZC6:=by kernel_rfl
def ZcC:List Hint:=[H [0],H [2]]
def ZV2:PC :=
 (.reg [0] [I 2 (.mv (.v (.bool false)))])
def ZV3:PC :=
 (.reg [2] [I 3 (.mv (.s 0)),I 4 (.len 0 (.s 3)),I 5 (.bin .geq (.s 4) (V 1)),I 6 (.mv (.s 5)),G 7 6 true (.mv (.s 0)),G 8 6 true (.len 0 (.s 7)),G 9 6 true (.bin .leq (.s 8) (V 16)),I 10 (.pick (.s 6) (.s 9) (.v (.bool false))),I 2 (.mv (.s 10))])
def ZLq:PF:=⟨false,
 (.seq ZV2
 (.seq ZV3
 .ret)),
 [.s 2]⟩
theorem ZcD:Zs Proofs.Tryz.prog false ZcC Proofs.Tryz.f229=some ZLq:=by kernel_rfl
def ZY6:List Hint:=[H [1],H [1,9],H [2],H [1,50],H [2],H [1,3,4],H [3,4,59,60,61],H [3,4,59,60,61,62],H [3,4,6,59,60,61],H [3,4,59,60,61,112],H [2],H [3,4,59,60,61],H [2]]
def ZRZ:PC :=
 (.reg [1] [I 1 (.box (.s 0)),I 2 (.mv (.v (.bool false)))])
def ZRa:PC :=
 (.reg [1,9] [I 7 (.fadr 0 (.s 1)),I 8 (.ld false 1 (.s 7)),I 9 (.bin .eql (.s 8) (V 0))])
def ZRb:PC :=
 (.reg [2] [I 10 (.fadr 1 (.s 1)),I 11 (.ld false 1 (.s 10)),I 12 (.len 0 (.s 11)),I 13 (.bin .geq (.s 12) (V 1)),I 14 (.mv (.s 13)),G 15 14 true (.fadr 1 (.s 1)),G 16 14 true (.ld false 1 (.s 15)),G 17 14 true (.len 0 (.s 16)),G 18 14 true (.bin .leq (.s 17) (V 16)),I 19 (.pick (.s 14) (.s 18) (.v (.bool false))),I 20 (.mv (.s 19)),G 21 20 true (.fadr 2 (.s 1)),G 22 20 true (.ld false 1 (.s 21)),G 23 20 true (.len 1 (.s 22)),G 24 20 true (.bin .eql (.s 23) (V 0)),I 25 (.pick (.s 20) (.s 24) (.v (.bool false))),I 2 (.mv (.s 25))])
def ZRc:PC :=
 (.reg [1,50] [I 26 (.fadr 0 (.s 1)),I 27 (.ld false 1 (.s 26)),I 28 (.bin .lss (.s 27) (V 1)),I 29 (.mv (.s 28)),G 30 29 false (.fadr 0 (.s 1)),G 31 29 false (.ld false 1 (.s 30)),G 32 29 false (.bin .gtr (.s 31) (V 16)),I 33 (.pick (.s 29) (.v (.bool true)) (.s 32)),I 34 (.mv (.s 33)),G 35 34 false (.fadr 1 (.s 1)),G 36 34 false (.ld false 1 (.s 35)),G 37 34 false (.bin .neq (.s 36) (.v (.str []))),I 38 (.pick (.s 34) (.v (.bool true)) (.s 37)),I 39 (.mv (.s 38)),G 40 39 false (.fadr 2 (.s 1)),G 41 39 false (.ld false 1 (.s 40)),G 42 39 false (.len 1 (.s 41)),G 43 39 false (.bin .lss (.s 42) (V 2)),I 44 (.pick (.s 39) (.v (.bool true)) (.s 43)),I 45 (.mv (.s 44)),G 46 45 false (.fadr 2 (.s 1)),G 47 45 false (.ld false 1 (.s 46)),G 48 45 false (.len 1 (.s 47)),G 49 45 false (.bin .gtr (.s 48) (V 4)),I 50 (.pick (.s 45) (.v (.bool true)) (.s 49))])
def ZRd:PC :=
 (.reg [2] [I 2 (.mv (.v (.bool false)))])
def ZRe:PC :=
 (.reg [1,3,4] [I 52 (.fadr 0 (.s 1)),I 53 (.ld false 1 (.s 52)),I 54 (.bin .sub (.s 53) (V 1)),I 55 (C ZCc [(.s 54)]),I 51 (.mv (.s 55)),I 56 (.ext (.s 51) 0),I 57 (.ext (.s 51) 1),I 3 (.mv (.s 56)),I 4 (.mv (.s 57))])
def ZRf:PC :=
 (.reg [3,4,59,60,61] [I 58 (.fadr 2 (.s 1)),I 59 (.ld false 1 (.s 58)),I 60 (.len 1 (.s 59)),I 61 (.mv (V 0))])
def ZRg:PC :=
 (.reg [3,4,59,60,61,62] [I 62 (.bin .lss (.s 61) (.s 60))])
def ZRh:PC :=
 (.reg [3,4,6,59,60,61] [I 63 (.ixS 4 (.s 59) (.s 61)),I 64 (.ld true 4 (.s 63)),I 6 (.box (.v ZK)),J (.st 4 (.s 6) (.s 64))])
def ZRi:PC :=
 (.reg [3,4,59,60,61,112] [I 65 (.fadr 0 (.s 6)),I 66 (.ld false 1 (.s 65)),I 67 (C ZBc [(.s 66)]),I 68 (.bin .neq (.s 67) (V 0)),I 69 (.mv (.s 68)),G 70 69 false (.fadr 1 (.s 6)),G 71 69 false (.fadr 0 (.s 70)),G 72 69 false (.ld false 1 (.s 71)),G 73 69 false (.mv (.s 3)),G 74 69 false (.bin .lss (.s 72) (.s 73)),I 75 (.pick (.s 69) (.v (.bool true)) (.s 74)),I 76 (.mv (.s 75)),G 77 76 false (.fadr 1 (.s 6)),G 78 76 false (.fadr 0 (.s 77)),G 79 76 false (.ld false 1 (.s 78)),G 80 76 false (.mv (.s 4)),G 81 76 false (.bin .gtr (.s 79) (.s 80)),I 82 (.pick (.s 76) (.v (.bool true)) (.s 81)),I 83 (.mv (.s 82)),G 84 83 false (.fadr 1 (.s 6)),G 85 83 false (.fadr 1 (.s 84)),G 86 83 false (.ld false 1 (.s 85)),G 87 83 false (.bin .lss (.s 86) (V 0)),I 88 (.pick (.s 83) (.v (.bool true)) (.s 87)),I 89 (.mv (.s 88)),G 90 89 false (.fadr 1 (.s 6)),G 91 89 false (.fadr 1 (.s 90)),G 92 89 false (.ld false 1 (.s 91)),G 93 89 false (.fadr 1 (.s 6)),G 94 89 false (.fadr 0 (.s 93)),G 95 89 false (.ld false 1 (.s 94)),G 96 89 false (.bin .gtr (.s 92) (.s 95)),I 97 (.pick (.s 89) (.v (.bool true)) (.s 96)),I 98 (.mv (.s 97)),G 99 98 false (.fadr 1 (.s 6)),G 100 98 false (.fadr 2 (.s 99)),G 101 98 false (.ld false 1 (.s 100)),G 102 98 false (.bin .lss (.s 101) (V 0)),I 103 (.pick (.s 98) (.v (.bool true)) (.s 102)),I 104 (.mv (.s 103)),G 105 104 false (.fadr 1 (.s 6)),G 106 104 false (.fadr 2 (.s 105)),G 107 104 false (.ld false 1 (.s 106)),G 108 104 false (.fadr 1 (.s 6)),G 109 104 false (.fadr 1 (.s 108)),G 110 104 false (.ld false 1 (.s 109)),G 111 104 false (.bin .gtr (.s 107) (.s 110)),I 112 (.pick (.s 104) (.v (.bool true)) (.s 111))])
def ZOF:PC :=
 (.reg [2] [I 2 (.mv (.v (.bool false)))])
def ZOG:PC :=
 (.reg [3,4,59,60,61] [I 113 (.bin .add (.s 61) (V 1)),I 61 (.mv (.s 113))])
def ZOH:PC :=
 (.seq ZRg
 (.seq (.ite (.s 62)
 .skip
 (.exit 0))
 (.seq (.block 1
 (.seq ZRh
 (.seq ZRi
 (.ite (.s 112)
 (.seq ZOF
 .ret)
 .skip))))
 ZOG)))
def ZOI:PC :=
 (.reg [2] [I 2 (.mv (.v (.bool true)))])
def ZH7:PF:=⟨false,
 (.seq ZRZ
 (.seq (.seq ZRa
 (.ite (.s 9)
 (.seq ZRb
 .ret)
 .skip))
 (.seq (.seq ZRc
 (.ite (.s 50)
 (.seq ZRd
 .ret)
 .skip))
 (.seq ZRe
 (.seq (.seq ZRf
 (.block 0
 (.loop ZOH)))
 (.seq ZOI
 .ret)))))),
 [.s 2]⟩
theorem ZY7:Zs Proofs.Tryz.prog false ZY6 Proofs.Tryz.f240=some ZH7:=by kernel_rfl
def ZcE:List Hint:=[H [0,2],H [0,2,3],H [0,2,3,6,7],H [0,2,3,6,7,8],H [0,2,3,4,5,6,7],H [0,2,3,6,7],H [0,2,3,6,7],H [2]]
def ZV4:PC :=
 (.reg [0,2] [I 2 (.box (.v ZM))])
def ZV5:PC :=
 (.reg [0,2,3] [I 3 (.box (.v ZM))])
def ZV6:PC :=
 (.reg [0,2,3,6,7] [I 6 (.build [.nilfunc,.nilfunc,.nilfunc] [(0,1,(.v (.func (.func Y7) [] []))),(1,1,(.v (.func (.func Yh) [] []))),(2,1,(.v (.func (.func Y6) [] [])))]),I 7 (.mv (V 0))])
def ZV7:PC :=
 (.reg [0,2,3,6,7,8] [I 8 (.bin .lss (.s 7) (V 3))])
def ZV8:PC :=
 (.reg [0,2,3,4,5,6,7] [I 9 (.mv (.s 7)),I 10 (.ixArr false 3 1 (.s 6) (.s 7)),I 4 (.mv (.s 9)),I 5 (.mv (.s 10))])
def ZV9:PC :=
 (.reg [0,2,3,6,7] [I 11 (.mv (.s 4)),I 12 (.mv (.s 0)),I 13 (.mv (.s 5)),I 14 (C ZAY [(.s 12),(.s 13)]),I 15 (.ixA 3 1 (.s 3) (.s 11)),J (.st 1 (.s 15) (.s 14))])
def ZWA:PC :=
 (.reg [0,2,3,6,7] [I 16 (.bin .add (.s 7) (V 1)),I 7 (.mv (.s 16))])
def ZWB:PC :=
 (.seq ZV7
 (.seq (.ite (.s 8)
 .skip
 (.exit 0))
 (.seq (.block 1
 (.seq ZV8
 ZV9))
 ZWA)))
def ZWC:PC :=
 (.reg [2] [I 17 (.ld true 3 (.s 3)),I 18 (C J9 [(.s 17)]),J (.st 3 (.s 2) (.s 18))])
def ZLr:PF:=⟨false,
 (.seq ZV4
 (.seq ZV5
 (.seq (.seq ZV6
 (.block 0
 (.loop ZWB)))
 (.seq ZWC
 .ret)))),
 [.c 2 true 3]⟩
theorem ZcF:Zs Proofs.Tryz.prog false ZcE Proofs.Tryz.f241=some ZLr:=by kernel_rfl
def ZY8:List Hint:=[H [0,2],H [0,2,3],H [2,3,8,9,10],H [2,3,8,9,10,11],H [2,3,5,8,9,10],H [2,3,8,9,10,20,21],H [2,3,8,9,10,20,21,22],H [2,3,6,7,8,9,10,20,21],H [2,3,8,9,10,20,21],H [2,3,8,9,10,20,21],H [2,3,8,9,10],H [2]]
def ZRj:PC :=
 (.reg [0,2] [I 2 (.box (.v ZM))])
def ZRk:PC :=
 (.reg [0,2,3] [I 3 (.box (.v ZM))])
def ZRl:PC :=
 (.reg [2,3,8,9,10] [I 8 (.mv (.s 0)),I 9 (.len 1 (.s 8)),I 10 (.mv (V 0))])
def ZRm:PC :=
 (.reg [2,3,8,9,10,11] [I 11 (.bin .lss (.s 10) (.s 9))])
def ZRn:PC :=
 (.reg [2,3,5,8,9,10] [I 12 (.ixS 3 (.s 8) (.s 10)),I 13 (.ld true 3 (.s 12)),I 5 (.box (.v ZM)),J (.st 3 (.s 5) (.s 13))])
def ZRo:PC :=
 (.reg [2,3,8,9,10,20,21] [I 14 (.fadr 0 (.s 5)),I 15 (.ld false 1 (.s 14)),I 16 (.fadr 1 (.s 5)),I 17 (.ld false 1 (.s 16)),I 18 (.fadr 2 (.s 5)),I 19 (.ld false 1 (.s 18)),I 20 (.build [(.int .i64 0),(.int .i64 0),(.int .i64 0)] [(0,1,(.s 15)),(1,1,(.s 17)),(2,1,(.s 19))]),I 21 (.mv (V 0))])
def ZRp:PC :=
 (.reg [2,3,8,9,10,20,21,22] [I 22 (.bin .lss (.s 21) (V 3))])
def ZRq:PC :=
 (.reg [2,3,6,7,8,9,10,20,21] [I 23 (.mv (.s 21)),I 24 (.ixArr false 3 1 (.s 20) (.s 21)),I 6 (.mv (.s 23)),I 7 (.mv (.s 24))])
def ZRr:PC :=
 (.reg [2,3,8,9,10,20,21] [I 25 (.mv (.s 6)),I 26 (.ixA 3 1 (.s 3) (.s 25)),I 27 (.ld false 1 (.s 26)),I 28 (.mv (.s 7)),I 29 (.bin .add (.s 27) (.s 28)),I 30 (.ixA 3 1 (.s 3) (.s 25)),J (.st 1 (.s 30) (.s 29))])
def ZRs:PC :=
 (.reg [2,3,8,9,10,20,21] [I 31 (.bin .add (.s 21) (V 1)),I 21 (.mv (.s 31))])
def ZOJ:PC :=
 (.seq ZRp
 (.seq (.ite (.s 22)
 .skip
 (.exit 2))
 (.seq (.block 3
 (.seq ZRq
 ZRr))
 ZRs)))
def ZOK:PC :=
 (.reg [2,3,8,9,10] [I 32 (.bin .add (.s 10) (V 1)),I 10 (.mv (.s 32))])
def ZOL:PC :=
 (.seq ZRm
 (.seq (.ite (.s 11)
 .skip
 (.exit 0))
 (.seq (.block 1
 (.seq ZRn
 (.seq ZRo
 (.block 2
 (.loop ZOJ)))))
 ZOK)))
def ZOM:PC :=
 (.reg [2] [I 33 (.ld true 3 (.s 3)),I 34 (C J9 [(.s 33)]),J (.st 3 (.s 2) (.s 34))])
def ZH8:PF:=⟨false,
 (.seq ZRj
 (.seq ZRk
 (.seq (.seq ZRl
 (.block 0
 (.loop ZOL)))
 (.seq ZOM
 .ret)))),
 [.c 2 true 3]⟩
theorem ZY9:Zs Proofs.Tryz.prog false ZY8 Proofs.Tryz.f242=some ZH8:=by kernel_rfl
def ZRt:List Hint:=[H [0,1,2],H [1,2,9],H [4],H [4]]
def ZLs:PC :=
 (.reg [0,1,2] [I 4 (.mv (V 0))])
def ZLt:PC :=
 (.reg [1,2,9] [I 5 (.mv (.s 0)),I 6 (.ld false 1 (.s 1)),I 7 (.ld false 1 (.s 2)),I 8 (.bin .rem (.s 6) (.s 7)),I 9 (.bin .lss (.s 5) (.s 8))])
def ZLu:PC :=
 (.reg [4] [I 10 (.ld false 1 (.s 1)),I 11 (.ld false 1 (.s 2)),I 12 (.bin .quo (.s 10) (.s 11)),I 13 (.bin .add (.s 12) (V 1)),I 4 (.mv (.s 13))])
def ZLv:PC :=
 (.reg [4] [I 14 (.ld false 1 (.s 1)),I 15 (.ld false 1 (.s 2)),I 16 (.bin .quo (.s 14) (.s 15)),I 4 (.mv (.s 16))])
def ZEi:PF:=⟨false,
 (.seq ZLs
 (.seq (.seq ZLt
 (.ite (.s 9)
 (.seq ZLu
 .ret)
 .skip))
 (.seq ZLv
 .ret))),
 [.s 4]⟩
theorem ZRu:Zs Proofs.Tryz.prog false ZRt Proofs.Tryz.f243=some ZEi:=by kernel_rfl
def ZZA:List Hint:=[H [0,4,5],⟨[0,4,5,8,9],[],[(1,.pure)],[],[],[]⟩,H [0,4,5,32],H [6,7],H [0,5,10,11],H [0,5,10,11,43],H [6,7],H [10,11,12],H [10,11,12,52],H [6,7],H [11,13],H [11,13,61],H [6,7],⟨[13,14],[0],[],[],[],[]⟩,H [14,63,64,65],H [14,63,64,65,66],H [14,16,63,64,65],H [14,63,64,65],H [14,63,64,65],H [6,7]]
def ZRv:PC :=
 (.reg [0,4,5] [I 4 (.box (.s 1)),I 5 (.box (.s 2)),I 6 (.mv (.v .nils)),I 7 (.mv (V 0))])
def ZRw:PC :=
 (.reg [0,4,5,8,9] [I 17 (.ld true 7 (.s 4)),I 18 (.call .pure (.v (.func (.func Qi) [] [])) [(.s 17)]),I 19 (.ld true 7 (.s 5)),I 20 (C Qi [(.s 19)]),I 8 (.mv (.s 18)),I 9 (.mv (.s 20))])
def ZRx:PC :=
 (.reg [0,4,5,32] [I 21 (.mv (.s 8)),I 22 (.mv (.s 9)),I 23 (.bin .add (.s 21) (.s 22)),I 24 (.bin .gtr (.s 23) (V 16)),I 25 (.mv (.s 24)),G 26 25 true (.mv (.s 8)),G 27 25 true (.bin .geq (.s 26) (V 8)),I 28 (.pick (.s 25) (.s 27) (.v (.bool false))),I 29 (.mv (.s 28)),G 30 29 true (.mv (.s 9)),G 31 29 true (.bin .geq (.s 30) (V 8)),I 32 (.pick (.s 29) (.s 31) (.v (.bool false)))])
def ZRy:PC :=
 (.reg [6,7] [I 33 (.ld true 7 (.s 4)),I 34 (.ld true 7 (.s 5)),I 35 (.bslice false 7 [ZT,ZT] [(0,(.s 33)),(1,(.s 34))]),I 6 (.mv (.s 35)),I 7 (.mv (V 0))])
def ZRz:PC :=
 (.reg [0,5,10,11] [I 37 (.mv (.s 0)),I 38 (.ld true 7 (.s 4)),I 39 (C XL [(.s 37),(.s 38)]),I 36 (.mv (.s 39)),I 40 (.ext (.s 36) 0),I 41 (.ext (.s 36) 1),I 10 (.mv (.s 40)),I 11 (.mv (.s 41))])
def ZR0:PC :=
 (.reg [0,5,10,11,43] [I 42 (.mv (.s 11)),I 43 (.bin .neq (.s 42) (V 0))])
def ZR1:PC :=
 (.reg [6,7] [I 44 (.mv (.s 11)),I 6 (.mv (.v .nils)),I 7 (.mv (.s 44))])
def ZR2:PC :=
 (.reg [10,11,12] [I 46 (.mv (.s 0)),I 47 (.ld true 7 (.s 5)),I 48 (C XL [(.s 46),(.s 47)]),I 45 (.mv (.s 48)),I 49 (.ext (.s 45) 0),I 50 (.ext (.s 45) 1),I 12 (.mv (.s 49)),I 11 (.mv (.s 50))])
def ZR3:PC :=
 (.reg [10,11,12,52] [I 51 (.mv (.s 11)),I 52 (.bin .neq (.s 51) (V 0))])
def ZR4:PC :=
 (.reg [6,7] [I 53 (.mv (.s 11)),I 6 (.mv (.v .nils)),I 7 (.mv (.s 53))])
def ZON:PC :=
 (.reg [11,13] [I 55 (.mv (.s 10)),I 56 (.mv (.s 12)),I 57 (C ZDa [(.s 55),(.s 56)]),I 54 (.mv (.s 57)),I 58 (.ext (.s 54) 0),I 59 (.ext (.s 54) 1),I 13 (.mv (.s 58)),I 11 (.mv (.s 59))])
def ZOO:PC :=
 (.reg [11,13,61] [I 60 (.mv (.s 11)),I 61 (.bin .neq (.s 60) (V 0))])
def ZOP:PC :=
 (.reg [6,7] [I 62 (.mv (.s 11)),I 6 (.mv (.v .nils)),I 7 (.mv (.s 62))])
def ZOQ:PC :=
 (.reg [13,14] [I 14 (.onil 7)])
def ZOR:PC :=
 (.reg [14,63,64,65] [I 63 (.mv (.s 13)),I 64 (.len 1 (.s 63)),I 65 (.mv (V 0))])
def ZOS:PC :=
 (.reg [14,63,64,65,66] [I 66 (.bin .lss (.s 65) (.s 64))])
def ZOT:PC :=
 (.reg [14,16,63,64,65] [I 67 (.ixS 1 (.s 63) (.s 65)),I 68 (.ld false 1 (.s 67)),I 16 (.mv (.s 68))])
def ZOU:PC :=
 (.reg [14,63,64,65] [I 69 (.mv (.s 14)),I 70 (.mv (.s 16)),I 71 (.build [(.int .u64 0),(.int .i64 0),(.int .i64 0),(.int .i64 0),(.int .i64 0),(.str []),.nils] [(5,1,(.s 70))]),I 72 (.bslice false 7 [ZT] [(0,(.s 71))]),I 73 (.app 7 80 (.s 69) (.s 72)),I 14 (.mv (.s 73))])
def ZOV:PC :=
 (.reg [14,63,64,65] [I 74 (.bin .add (.s 65) (V 1)),I 65 (.mv (.s 74))])
def ZC7:PC :=
 (.seq ZOS
 (.seq (.ite (.s 66)
 .skip
 (.exit 0))
 (.seq (.block 1
 (.seq ZOT
 ZOU))
 ZOV)))
def ZOW:PC :=
 (.reg [6,7] [I 75 (.mv (.s 14)),I 6 (.mv (.s 75)),I 7 (.mv (V 0))])
def ZH9:PF:=⟨false,
 (.seq ZRv
 (.seq ZRw
 (.seq (.seq ZRx
 (.ite (.s 32)
 (.seq ZRy
 .ret)
 .skip))
 (.seq ZRz
 (.seq (.seq ZR0
 (.ite (.s 43)
 (.seq ZR1
 .ret)
 .skip))
 (.seq ZR2
 (.seq (.seq ZR3
 (.ite (.s 52)
 (.seq ZR4
 .ret)
 .skip))
 (.seq ZON
 (.seq (.seq ZOO
 (.ite (.s 61)
 (.seq ZOP
 .ret)
 .skip))
 (.seq ZOQ
 (.seq (.seq ZOR
 (.block 0
 (.loop ZC7)))
 (.seq ZOW
 .ret)))))))))))),
 [.s 6,.s 7]⟩
theorem ZZB:Zs Proofs.Tryz.prog false ZZA Proofs.Tryz.f245=some ZH9:=by kernel_rfl
def Zdx:List Hint:=[H [0],H [0,6],H [2],H [0,3],⟨[2],[],[(3,.pure)],[],[],[]⟩]
def ZZC:PC :=
 (.reg [0] [I 2 (.mv (.v .nils))])
def ZZD:PC :=
 (.reg [0,6] [I 4 (.mv (.s 0)),I 5 (.len 1 (.s 4)),I 6 (.bin .leq (.s 5) (V 4))])
def ZZE:PC :=
 (.reg [2] [I 7 (.mv (.s 0)),I 8 (C QG [(.s 7)]),I 9 (.bslice false 7 [ZT] [(0,(.s 8))]),I 2 (.mv (.s 9))])
def ZZF:PC :=
 (.reg [0,3] [I 10 (.mv (.s 0)),I 11 (.len 1 (.s 10)),I 12 (.bin .add (.s 11) (V 1)),I 13 (.bin .quo (.s 12) (V 2)),I 3 (.mv (.s 13))])
def ZZG:PC :=
 (.reg [2] [I 14 (.mv (.s 0)),I 15 (.mv (.s 3)),I 16 (.slc 7 (.s 14) none (some (.s 15))),I 17 (.call .pure (.v (.func (.func QG) [] [])) [(.s 16)]),I 18 (.mv (.s 0)),I 19 (.mv (.s 3)),I 20 (.slc 7 (.s 18) (some (.s 19)) none),I 21 (C QG [(.s 20)]),I 22 (.bslice false 7 [ZT,ZT] [(0,(.s 17)),(1,(.s 21))]),I 2 (.mv (.s 22))])
def ZPJ:PF:=⟨false,
 (.seq ZZC
 (.seq (.seq ZZD
 (.ite (.s 6)
 (.seq ZZE
 .ret)
 .skip))
 (.seq ZZF
 (.seq ZZG
 .ret)))),
 [.s 2]⟩
theorem Zdy:Zs Proofs.Tryz.prog false Zdx Proofs.Tryz.f246=some ZPJ:=by kernel_rfl
def ZOX:List Hint:=[H [0,1,2],⟨[2,5,6],[],[(5,.pure)],[],[],[]⟩,H [2,5,6,18],H [5,6],H [3,4]]
def ZJK:PC :=
 (.reg [0,1,2] [I 3 (.mv (.v (.int .u64 0))),I 4 (.mv (V 0))])
def ZJL:PC :=
 (.reg [2,5,6] [I 8 (.ld false 1 (.s 0)),I 9 (.nilck (.s 8)),I 10 (.fadr 0 (.s 9)),I 11 (.ld false 1 (.s 10)),I 12 (.ld false 1 (.s 1)),I 13 (.call .pure (.s 12) []),I 14 (C JQ [(.s 11),(.s 13)]),I 7 (.mv (.s 14)),I 15 (.ext (.s 7) 0),I 16 (.ext (.s 7) 1),I 5 (.mv (.s 15)),I 6 (.mv (.s 16))])
def ZJM:PC :=
 (.reg [2,5,6,18] [I 17 (.mv (.s 6)),I 18 (.bin .eql (.s 17) (V 0))])
def ZJN:PC :=
 (.reg [5,6] [I 19 (.ld false 1 (.s 2)),I 20 (.mv (.s 5)),I 21 (.nilck (.s 19)),I 22 (.fadr 0 (.s 21)),J (.st 1 (.s 22) (.s 20))])
def ZJO:PC :=
 (.reg [3,4] [I 23 (.mv (.s 5)),I 24 (.mv (.s 6)),I 3 (.mv (.s 23)),I 4 (.mv (.s 24))])
def ZC8:PF:=⟨false,
 (.seq ZJK
 (.seq ZJL
 (.seq (.seq ZJM
 (.ite (.s 18)
 ZJN
 .skip))
 (.seq ZJO
 .ret)))),
 [.s 3,.s 4]⟩
theorem ZOY:Zs Proofs.Tryz.prog false ZOX Proofs.Tryz.f247=some ZC8:=by kernel_rfl
def ZHr:List Hint:=[H [0,3],H [0,3,16],H [4,5],H [0,3,6],H [0,3,6,20],H [4,5],H [0,3,23,24,25],H [0,3,23,24,25,26],H [0,3,8,23,24,25],H [0,3,8,9,10,23,24,25],H [0,3,8,9,23,24,25,40],H [4,5],H [0,3,8,9,11,12,23,24,25],H [0,3,23,24,25,61],H [4,5],H [0,3,23,24,25],H [0,3,13,14],H [0,3,13,14,72],H [4,5],H [0,3,13],H [0,13],H [13],H [4,5]]
def ZFX:PC :=
 (.reg [0,3] [I 3 (.box (.s 1)),I 4 (.mv (.v (.int .u64 0))),I 5 (.mv (V 0))])
def ZFY:PC :=
 (.reg [0,3,16] [I 15 (.mv (.s 0)),I 16 (.eqs false 3 [] (.s 15) (.v .nilptr))])
def ZFZ:PC :=
 (.reg [4,5] [I 4 (.mv (.v (.int .u64 0))),I 5 (.mv (V 1))])
def ZFa:PC :=
 (.reg [0,3,6] [I 17 (.ld true 3 (.s 3)),I 18 (C XU [(.s 17)]),I 6 (.mv (.s 18))])
def ZFb:PC :=
 (.reg [0,3,6,20] [I 19 (.mv (.s 6)),I 20 (.bin .neq (.s 19) (V 0))])
def ZFc:PC :=
 (.reg [4,5] [I 21 (.mv (.s 6)),I 4 (.mv (.v (.int .u64 0))),I 5 (.mv (.s 21))])
def ZFd:PC :=
 (.reg [0,3,23,24,25] [I 22 (.fadr 2 (.s 3)),I 23 (.ld false 1 (.s 22)),I 24 (.len 1 (.s 23)),I 25 (.mv (V 0))])
def ZFe:PC :=
 (.reg [0,3,23,24,25,26] [I 26 (.bin .lss (.s 25) (.s 24))])
def ZFf:PC :=
 (.reg [0,3,8,23,24,25] [I 27 (.ixS 4 (.s 23) (.s 25)),I 28 (.ld true 4 (.s 27)),I 8 (.box (.v ZK)),J (.st 4 (.s 8) (.s 28))])
def ZFg:PC :=
 (.reg [0,3,8,9,10,23,24,25] [I 30 (.mv (.s 0)),I 31 (.nilck (.s 30)),I 32 (.fadr 2 (.s 31)),I 33 (.ld false 1 (.s 32)),I 34 (.fadr 0 (.s 8)),I 35 (.ld false 1 (.s 34)),I 36 (.look 0 ZN true (.s 33) (.s 35)),I 29 (.mv (.s 36)),I 37 (.ext (.s 29) 0),I 38 (.ext (.s 29) 1),I 9 (.box (.v ZN)),J (.st 3 (.s 9) (.s 37)),I 10 (.mv (.s 38))])
def ZDz:PC :=
 (.reg [0,3,8,9,23,24,25,40] [I 39 (.mv (.s 10)),I 40 (.un .not (.s 39))])
def ZD0:PC :=
 (.reg [4,5] [I 4 (.mv (.v (.int .u64 0))),I 5 (.mv (V 10))])
def ZD1:PC :=
 (.reg [0,3,8,9,11,12,23,24,25] [I 42 (.ld true 3 (.s 9)),I 43 (C Jz [(.s 42)]),I 41 (.mv (.s 43)),I 44 (.ext (.s 41) 0),I 45 (.ext (.s 41) 1),I 11 (.box (.v ZM)),J (.st 3 (.s 11) (.s 44)),I 12 (.mv (.s 45))])
def ZD2:PC :=
 (.reg [0,3,23,24,25,61] [I 46 (.mv (.s 12)),I 47 (.bin .neq (.s 46) (V 0)),I 48 (.mv (.s 47)),G 49 48 false (.fadr 0 (.s 9)),G 50 48 false (.ld false 1 (.s 49)),G 51 48 false (.fadr 0 (.s 3)),G 52 48 false (.ld false 1 (.s 51)),G 53 48 false (.bin .sub (.s 52) (V 1)),G 54 48 false (.bin .neq (.s 50) (.s 53)),I 55 (.pick (.s 48) (.v (.bool true)) (.s 54)),I 56 (.mv (.s 55)),G 57 56 false (.ld true 3 (.s 11)),G 58 56 false (.fadr 1 (.s 8)),G 59 56 false (.ld true 3 (.s 58)),G 60 56 false (.eqs true 0 [(0,0),(1,0),(2,0)] (.s 57) (.s 59)),I 61 (.pick (.s 56) (.v (.bool true)) (.s 60))])
def ZD3:PC :=
 (.reg [4,5] [I 4 (.mv (.v (.int .u64 0))),I 5 (.mv (V 23))])
def ZD4:PC :=
 (.reg [0,3,23,24,25] [I 62 (.bin .add (.s 25) (V 1)),I 25 (.mv (.s 62))])
def ZD5:PC :=
 (.seq ZFe
 (.seq (.ite (.s 26)
 .skip
 (.exit 0))
 (.seq (.block 1
 (.seq ZFf
 (.seq ZFg
 (.seq (.seq ZDz
 (.ite (.s 40)
 (.seq ZD0
 .ret)
 .skip))
 (.seq ZD1
 (.seq ZD2
 (.ite (.s 61)
 (.seq ZD3
 .ret)
 .skip)))))))
 ZD4)))
def ZD6:PC :=
 (.reg [0,3,13,14] [I 64 (.mv (.s 0)),I 65 (.nilck (.s 64)),I 66 (.fadr 1 (.s 65)),I 67 (.ld false 1 (.s 66)),I 68 (C YY [(.s 67)]),I 63 (.mv (.s 68)),I 69 (.ext (.s 63) 0),I 70 (.ext (.s 63) 1),I 13 (.mv (.s 69)),I 14 (.mv (.s 70))])
def ZD7:PC :=
 (.reg [0,3,13,14,72] [I 71 (.mv (.s 14)),I 72 (.bin .neq (.s 71) (V 0))])
def ZD8:PC :=
 (.reg [4,5] [I 73 (.mv (.s 14)),I 4 (.mv (.v (.int .u64 0))),I 5 (.mv (.s 73))])
def Xb:PC :=
 (.reg [0,3,13] [I 74 (.fadr 2 (.s 3)),I 75 (.ld false 1 (.s 74)),I 76 (C Z3 [(.s 75)]),I 77 (.fadr 2 (.s 3)),J (.st 1 (.s 77) (.s 76))])
def Xc:PC :=
 (.reg [0,13] [I 78 (.mv (.s 0)),I 79 (.nilck (.s 78)),I 80 (.fadr 2 (.s 79)),I 81 (.ld false 1 (.s 80)),I 82 (.mv (.s 13)),I 83 (.ld true 3 (.s 3)),J (.mupd 0 (.s 81) (.s 82) (.s 83))])
def Xd:PC :=
 (.reg [13] [I 84 (.mv (.s 0)),I 85 (.nilck (.s 84)),I 86 (.fadr 3 (.s 85)),I 87 (.ld false 1 (.s 86)),I 88 (.bin .add (.s 87) (V 1)),I 89 (.nilck (.s 84)),I 90 (.fadr 3 (.s 89)),J (.st 1 (.s 90) (.s 88))])
def Xe:PC :=
 (.reg [4,5] [I 91 (.mv (.s 13)),I 4 (.mv (.s 91)),I 5 (.mv (V 0))])
def ZAe:PF:=⟨false,
 (.seq ZFX
 (.seq (.seq ZFY
 (.ite (.s 16)
 (.seq ZFZ
 .ret)
 .skip))
 (.seq (.seq ZFa
 (.seq ZFb
 (.ite (.s 20)
 (.seq ZFc
 .ret)
 .skip)))
 (.seq (.seq ZFd
 (.block 0
 (.loop ZD5)))
 (.seq ZD6
 (.seq (.seq ZD7
 (.ite (.s 72)
 (.seq ZD8
 .ret)
 .skip))
 (.seq Xb
 (.seq Xc
 (.seq Xd
 (.seq Xe
 .ret)))))))))),
 [.s 4,.s 5]⟩
theorem ZHs:Zs Proofs.Tryz.prog false ZHr Proofs.Tryz.f248=some ZAe:=by kernel_rfl
def ZZH:List Hint:=[H [0],H [0,2,3],H [2,3,4,5],H [2,3,4,5,6],H [2,3,4,5],H [2,3,4,5],H [2,3,4,5],H [2,3]]
def ZR5:PC :=
 (.reg [0] [I 2 (.mv (V 0)),I 3 (.mv (V 0))])
def ZR6:PC :=
 (.reg [0,2,3] [I 2 (.mv (V 8)),I 3 (.mv (V 16))])
def ZR7:PC :=
 (.reg [2,3,4,5] [I 4 (.mv (.s 0)),I 5 (.mv (V 0))])
def ZR8:PC :=
 (.reg [2,3,4,5,6] [I 6 (.bin .lss (.s 5) (.s 4))])
def ZR9:PC :=
 (.reg [2,3,4,5] [I 7 (.mv (.s 2)),I 8 (.bin .mul (.s 7) (V 2)),I 2 (.mv (.s 8))])
def ZSA:PC :=
 (.reg [2,3,4,5] [I 9 (.mv (.s 3)),I 10 (.bin .mul (.s 9) (V 4)),I 11 (.mnx false (.s 10) (V 65536)),I 3 (.mv (.s 11))])
def ZSB:PC :=
 (.reg [2,3,4,5] [I 12 (.bin .add (.s 5) (V 1)),I 5 (.mv (.s 12))])
def ZSC:PC :=
 (.seq ZR8
 (.seq (.ite (.s 6)
 .skip
 (.exit 0))
 (.seq (.block 1
 (.seq ZR9
 ZSA))
 ZSB)))
def ZSD:PC :=
 (.reg [2,3] [I 13 (.mv (.s 2)),I 14 (.mv (.s 3)),I 15 (.mnx false (.s 14) (V 65536)),I 2 (.mv (.s 13)),I 3 (.mv (.s 15))])
def ZIA:PF:=⟨false,
 (.seq ZR5
 (.seq ZR6
 (.seq (.seq ZR7
 (.block 0
 (.loop ZSC)))
 (.seq ZSD
 .ret)))),
 [.s 2,.s 3]⟩
theorem ZZI:Zs Proofs.Tryz.prog false ZZH Proofs.Tryz.f254=some ZIA:=by kernel_rfl
def ZWD:List Hint:=[H [0],H [3,4],H [19],H [2],H [2]]
def ZOZ:PC :=
 (.reg [0] [I 2 (.mv (V 0))])
def ZOa:PC :=
 (.reg [3,4] [I 6 (.mv (.s 0)),I 7 (C ZBd [(.s 6)]),I 5 (.mv (.s 7)),I 8 (.ext (.s 5) 0),I 9 (.ext (.s 5) 1),I 3 (.mv (.s 8)),I 4 (.mv (.s 9))])
def ZOb:PC :=
 (.reg [19] [I 10 (.mv (.s 3)),I 11 (.bin .geq (.s 10) (V 16384)),I 12 (.mv (.s 11)),G 13 12 false (.mv (.s 4)),G 14 12 false (.bin .lss (.s 13) (.v (.int .u64 1))),I 15 (.pick (.s 12) (.v (.bool true)) (.s 14)),I 16 (.mv (.s 15)),G 17 16 false (.mv (.s 4)),G 18 16 false (.bin .gtr (.s 17) (.v (.int .u64 4294967295))),I 19 (.pick (.s 16) (.v (.bool true)) (.s 18))])
def ZOc:PC :=
 (.reg [2] [I 2 (.mv (V 2))])
def ZOd:PC :=
 (.reg [2] [I 2 (.mv (V 0))])
def ZGp:PF:=⟨false,
 (.seq ZOZ
 (.seq (.seq ZOa
 (.seq ZOb
 (.ite (.s 19)
 (.seq ZOc
 .ret)
 .skip)))
 (.seq ZOd
 .ret))),
 [.s 2]⟩
theorem ZWE:Zs Proofs.Tryz.prog false ZWD Proofs.Tryz.f255=some ZGp:=by kernel_rfl
def ZSE:List Hint:=[H [],H [2]]
def ZLw:PC :=
 (.reg [] [I 2 (.mv (.v (.bool false)))])
def ZLx:PC :=
 (.reg [2] [I 2 (.mv (.v (.bool true)))])
def ZEj:PF:=⟨false,
 (.seq ZLw
 (.seq ZLx
 .ret)),
 [.s 2]⟩
theorem ZSF:Zs Proofs.Tryz.prog false ZSE Proofs.Tryz.f256=some ZEj:=by kernel_rfl
def ZJP:List Hint:=[H [1,2],H [1,2,5],H [2],H [2]]
def ZGq:PC :=
 (.reg [1,2] [I 1 (.box (.s 0)),I 2 (.box (.v ZM))])
def ZGr:PC :=
 (.reg [1,2,5] [I 3 (.ld true 3 (.s 1)),I 4 (.build [(.int .i64 0),(.int .i64 0),(.int .i64 0)] []),I 5 (.eqs false 0 [(0,0),(1,0),(2,0)] (.s 3) (.s 4))])
def ZGs:PC :=
 (.reg [2] [I 6 (.build [(.int .i64 0),(.int .i64 0),(.int .i64 0)] []),J (.st 3 (.s 2) (.s 6))])
def ZGt:PC :=
 (.reg [2] [I 7 (.ixA 3 1 (.s 1) (V 0)),I 8 (.ld false 1 (.s 7)),I 9 (.ixA 3 1 (.s 1) (V 1)),I 10 (.ld false 1 (.s 9)),I 11 (.ixA 3 1 (.s 1) (V 2)),I 12 (.ld false 1 (.s 11)),I 13 (.build [(.int .i64 0),(.int .i64 0),(.int .i64 0)] [(0,1,(.s 8)),(1,1,(.s 10)),(2,1,(.s 12))]),J (.st 3 (.s 2) (.s 13))])
def ZBu:PF:=⟨false,
 (.seq ZGq
 (.seq (.seq ZGr
 (.ite (.s 5)
 (.seq ZGs
 .ret)
 .skip))
 (.seq ZGt
 .ret))),
 [.c 2 true 3]⟩
theorem ZJQ:Zs Proofs.Tryz.prog false ZJP Proofs.Tryz.f257=some ZBu:=by kernel_rfl
def ZcG:List Hint:=[H [0,1],H [0,1,15],H [4,5],H [0,1,6],H [0,1,6,21],H [4,5],H [0,1,6,31],H [4,5],H [6,7],H [4,5]]
def ZWF:PC :=
 (.reg [0,1] [I 4 (.mv (.v .nils)),I 5 (.mv (V 0))])
def ZWG:PC :=
 (.reg [0,1,15] [I 8 (.mv (.s 0)),I 9 (C XY [(.s 8)]),I 10 (.un .not (.s 9)),I 11 (.mv (.s 10)),G 12 11 false (.mv (.s 1)),G 13 11 false (C XY [(.s 12)]),G 14 11 false (.un .not (.s 13)),I 15 (.pick (.s 11) (.v (.bool true)) (.s 14))])
def ZWH:PC :=
 (.reg [4,5] [I 4 (.mv (.v .nils)),I 5 (.mv (V 2))])
def ZWI:PC :=
 (.reg [0,1,6] [I 16 (.mv (.s 0)),I 17 (.mv (.s 1)),I 18 (.bin .add (.s 16) (.s 17)),I 6 (.mv (.s 18))])
def ZWJ:PC :=
 (.reg [0,1,6,21] [I 19 (.mv (.s 6)),I 20 (.len 0 (.s 19)),I 21 (.bin .leq (.s 20) (V 16))])
def ZWK:PC :=
 (.reg [4,5] [I 22 (.mv (.s 6)),I 23 (.bslice false 1 [(.str [])] [(0,(.s 22))]),I 4 (.mv (.s 23)),I 5 (.mv (V 0))])
def ZWL:PC :=
 (.reg [0,1,6,31] [I 24 (.mv (.s 0)),I 25 (.len 0 (.s 24)),I 26 (.bin .geq (.s 25) (V 8)),I 27 (.mv (.s 26)),G 28 27 true (.mv (.s 1)),G 29 27 true (.len 0 (.s 28)),G 30 27 true (.bin .geq (.s 29) (V 8)),I 31 (.pick (.s 27) (.s 30) (.v (.bool false)))])
def ZWM:PC :=
 (.reg [4,5] [I 32 (.mv (.s 0)),I 33 (.mv (.s 1)),I 34 (.bslice false 1 [(.str []),(.str [])] [(0,(.s 32)),(1,(.s 33))]),I 4 (.mv (.s 34)),I 5 (.mv (V 0))])
def ZWN:PC :=
 (.reg [6,7] [I 35 (.mv (.s 6)),I 36 (.len 0 (.s 35)),I 37 (.bin .add (.s 36) (V 1)),I 38 (.bin .quo (.s 37) (V 2)),I 7 (.mv (.s 38))])
def ZWO:PC :=
 (.reg [4,5] [I 39 (.mv (.s 6)),I 40 (.mv (.s 7)),I 41 (.slcS (.s 39) none (some (.s 40))),I 42 (.mv (.s 6)),I 43 (.mv (.s 7)),I 44 (.slcS (.s 42) (some (.s 43)) none),I 45 (.bslice false 1 [(.str []),(.str [])] [(0,(.s 41)),(1,(.s 44))]),I 4 (.mv (.s 45)),I 5 (.mv (V 0))])
def ZLy:PF:=⟨false,
 (.seq ZWF
 (.seq (.seq ZWG
 (.ite (.s 15)
 (.seq ZWH
 .ret)
 .skip))
 (.seq ZWI
 (.seq (.seq ZWJ
 (.ite (.s 21)
 (.seq ZWK
 .ret)
 .skip))
 (.seq (.seq ZWL
 (.ite (.s 31)
 (.seq ZWM
 .ret)
 .skip))
 (.seq ZWN
 (.seq ZWO
 .ret))))))),
 [.s 4,.s 5]⟩
theorem ZcH:Zs Proofs.Tryz.prog false ZcG Proofs.Tryz.f260=some ZLy:=by kernel_rfl
def ZGu:List Hint:=[H [0],H [0,6],H [2,3],H [0,12],H [2,3],H [0,4],H [0,4],H [0,4],H [2,3]]
def ZD9:PC :=
 (.reg [0] [I 2 (.mv (.v (.int .u64 0))),I 3 (.mv (V 0))])
def ZEA:PC :=
 (.reg [0,6] [I 5 (.mv (.s 0)),I 6 (.eqs false 3 [] (.s 5) (.v .nilptr))])
def ZEB:PC :=
 (.reg [2,3] [I 2 (.mv (.v (.int .u64 0))),I 3 (.mv (V 1))])
def ZEC:PC :=
 (.reg [0,12] [I 7 (.mv (.s 0)),I 8 (.nilck (.s 7)),I 9 (.fadr 0 (.s 8)),I 10 (.ld false 1 (.s 9)),I 11 (.len 1 (.s 10)),I 12 (.bin .eql (.s 11) (V 0))])
def ZED:PC :=
 (.reg [2,3] [I 2 (.mv (.v (.int .u64 0))),I 3 (.mv (V 6))])
def ZEE:PC :=
 (.reg [0,4] [I 13 (.mv (.s 0)),I 14 (.nilck (.s 13)),I 15 (.fadr 0 (.s 14)),I 16 (.ld false 1 (.s 15)),I 17 (.mv (.s 0)),I 18 (.nilck (.s 17)),I 19 (.fadr 0 (.s 18)),I 20 (.ld false 1 (.s 19)),I 21 (.len 1 (.s 20)),I 22 (.bin .sub (.s 21) (V 1)),I 23 (.ixS 1 (.s 16) (.s 22)),I 24 (.ld false 1 (.s 23)),I 4 (.mv (.s 24))])
def ZEF:PC :=
 (.reg [0,4] [I 25 (.mv (.s 0)),I 26 (.mv (.s 0)),I 27 (.nilck (.s 26)),I 28 (.fadr 0 (.s 27)),I 29 (.ld false 1 (.s 28)),I 30 (.mv (.s 0)),I 31 (.nilck (.s 30)),I 32 (.fadr 0 (.s 31)),I 33 (.ld false 1 (.s 32)),I 34 (.len 1 (.s 33)),I 35 (.bin .sub (.s 34) (V 1)),I 36 (.slc 1 (.s 29) none (some (.s 35))),I 37 (.nilck (.s 25)),I 38 (.fadr 0 (.s 37)),J (.st 1 (.s 38) (.s 36))])
def ZEG:PC :=
 (.reg [0,4] [I 39 (.mv (.s 0)),I 40 (.nilck (.s 39)),I 41 (.fadr 1 (.s 40)),I 42 (.ld false 1 (.s 41)),I 43 (.mv (.s 4)),I 44 (.ixS 1 (.s 42) (.s 43)),J (.st 1 (.s 44) (.v (.int .u8 1)))])
def ZEH:PC :=
 (.reg [2,3] [I 45 (.mv (.s 4)),I 46 (.mv (.s 0)),I 47 (.nilck (.s 46)),I 48 (.fadr 2 (.s 47)),I 49 (.ld false 1 (.s 48)),I 50 (.mv (.s 4)),I 51 (.ixS 1 (.s 49) (.s 50)),I 52 (.ld false 1 (.s 51)),I 53 (C ZCZ [(.s 45),(.s 52)]),I 54 (.ext (.s 53) 0),I 55 (.ext (.s 53) 1),I 2 (.mv (.s 54)),I 3 (.mv (.s 55))])
def ZAO:PF:=⟨false,
 (.seq ZD9
 (.seq (.seq ZEA
 (.ite (.s 6)
 (.seq ZEB
 .ret)
 .skip))
 (.seq (.seq ZEC
 (.ite (.s 12)
 (.seq ZED
 .ret)
 .skip))
 (.seq ZEE
 (.seq ZEF
 (.seq ZEG
 (.seq ZEH
 .ret))))))),
 [.s 2,.s 3]⟩
theorem ZGv:Zs Proofs.Tryz.prog false ZGu Proofs.Tryz.f261=some ZAO:=by kernel_rfl
def ZWP:List Hint:=[H [0],H [2,3]]
def ZOe:PC :=
 (.reg [0] [I 2 (.mv (V 0)),I 3 (.mv (.v (.int .u64 0)))])
def ZOf:PC :=
 (.reg [2,3] [I 4 (.mv (.s 0)),I 5 (.bin .and (.s 4) (.v (.int .u64 65535))),I 6 (.cint .i64 (.s 5)),I 7 (.mv (.s 0)),I 8 (.bin .shr (.s 7) (.v (.int .u64 16))),I 2 (.mv (.s 6)),I 3 (.mv (.s 8))])
def ZGw:PF:=⟨false,
 (.seq ZOe
 (.seq ZOf
 .ret)),
 [.s 2,.s 3]⟩
theorem ZWQ:Zs Proofs.Tryz.prog false ZWP Proofs.Tryz.f263=some ZGw:=by kernel_rfl
def Zna:List (FuncId × Ent):=[(Jt,.pf Yx),(YV,.pf ZAM),(Qy,.pf ZAa),(J6,.pf XF),(Jd,.pf ZBo),(Yf,.pf ZJ7),(Y3,.pf ZEX),(YL,.pf ZCI),(ZAm,.pf ZKN),(Y4,.pf ZEY),(Yq,.pf ZAb),(ZCE,.pf ZPA),(ZBV,.pf ZTg),(XD,.pf ZBp),(XE,.pf ZBq),(Yr,.pf ZAc),(J7,.pf ZBr),(Ys,.pf ZAd),(ZFs,.pf ZPB),(XS,.pf ZKQ),(JA,.pf ZBs),(ZAD,.pf ZHw),(ZCX,.pf ZHx),(J2,.pf ZPC),(Zp,.pf QS),(ZAo,.pf ZKS),(YW,.pf ZAN),(Jj,.pf Yn),(Qa,.pf ZCJ),(ZDX,.pf ZKV),(ZBW,.pf ZGh),(XT,.pf ZKY),(ZBX,.pf ZGi),(J8,.pf ZKo),(YF,.pf ZHz),(XL,.pf ZPD),(Jl,.pf ZEb),(Qb,.pf ZPE),(Yg,.pf ZKz),(Y5,.pf ZEc),(ZAX,.pf ZEd),(Jm,.pf ZEe),(ZFt,.pf ZPF),(ZCF,.pf ZPG),(ZFu,.pf ZGj),(Xz,.pf ZCs),(Qi,.pf ZLQ),(X3,.pf ZU0),(ZBY,.pf ZU1),(YJ,.pf Xo),(ZFw,.pf ZPH),(ZAp,.pf ZLR),(Y6,.pf ZEf),(Jz,.pf ZGk),(ZCY,.pf ZH2),(ZBZ,.pf ZGl),(ZDY,.pf ZLU),(QG,.pf ZLV),(ZCZ,.pf ZH3),(YG,.pf ZH4),(ZAq,.pf ZLW),(X4,.pf ZVe),(Qe,.pf ZGm),(ZAE,.pf ZH5),(Yh,.pf ZC3),(ZFx,.pf ZPI),(ZBa,.pf ZGn),(ZAY,.pf ZEh),(XU,.pf ZLo),(ZBb,.pf ZVp),(ZAF,.pf ZH6),(XV,.pf ZLp),(XW,.pf ZGo),(JZ,.pf ZC5),(JB,.pf ZC6),(XY,.pf ZLq),(ZAG,.pf ZH7),(ZDZ,.pf ZLr),(ZCa,.pf ZH8),(Jn,.pf ZEi),(ZCb,.pf ZH9),(ZCH,.pf ZPJ),(Yi,.pf ZC8),(JQ,.pf ZAe),(ZCc,.pf ZIA),(ZBc,.pf ZGp),(Y7,.pf ZEj),(J9,.pf ZBu),(ZDa,.pf ZLy),(YY,.pf ZAO),(ZBd,.pf ZGw)]
def T0:Tab:=Yv Zna
theorem Zl9:ZJv Proofs.Tryz.prog Zna:=⟨⟨Proofs.Tryz.call4,_,_,_,Proofs.Tryz.func4,ZCe⟩,⟨⟨Proofs.Tryz.call14,_,_,_,Proofs.Tryz.func14,ZF0⟩,⟨⟨Proofs.Tryz.call15,_,_,_,Proofs.Tryz.func15,ZHX⟩,⟨⟨Proofs.Tryz.call16,_,_,_,Proofs.Tryz.func16,ZIb⟩,⟨⟨Proofs.Tryz.call17,_,_,_,Proofs.Tryz.func17,ZId⟩,⟨⟨Proofs.Tryz.call18,_,_,_,Proofs.Tryz.func18,Zat⟩,⟨⟨Proofs.Tryz.call23,_,_,_,Proofs.Tryz.func23,ZPX⟩,⟨⟨Proofs.Tryz.call24,_,_,_,Proofs.Tryz.func24,ZKM⟩,⟨⟨Proofs.Tryz.call25,_,_,_,Proofs.Tryz.func25,Zav⟩,⟨⟨Proofs.Tryz.call26,_,_,_,Proofs.Tryz.func26,ZPa⟩,⟨⟨Proofs.Tryz.call35,_,_,_,Proofs.Tryz.func35,ZHb⟩,⟨⟨Proofs.Tryz.call57,_,_,_,Proofs.Tryz.func57,Zdg⟩,⟨⟨Proofs.Tryz.call58,_,_,_,Proofs.Tryz.func58,ZfO⟩,⟨⟨Proofs.Tryz.call68,_,_,_,Proofs.Tryz.func68,ZIl⟩,⟨⟨Proofs.Tryz.call69,_,_,_,Proofs.Tryz.func69,ZIn⟩,⟨⟨Proofs.Tryz.call70,_,_,_,Proofs.Tryz.func70,ZHd⟩,⟨⟨Proofs.Tryz.call71,_,_,_,Proofs.Tryz.func71,ZIp⟩,⟨⟨Proofs.Tryz.call72,_,_,_,Proofs.Tryz.func72,ZHf⟩,⟨⟨Proofs.Tryz.call73,_,_,_,Proofs.Tryz.func73,Zdi⟩,⟨⟨Proofs.Tryz.call74,_,_,_,Proofs.Tryz.func74,Za7⟩,⟨⟨Proofs.Tryz.call75,_,_,_,Proofs.Tryz.func75,ZIr⟩,⟨⟨Proofs.Tryz.call76,_,_,_,Proofs.Tryz.func76,ZXV⟩,⟨⟨Proofs.Tryz.call77,_,_,_,Proofs.Tryz.func77,ZXX⟩,⟨⟨Proofs.Tryz.call82,_,_,_,Proofs.Tryz.func82,Zdk⟩,⟨⟨Proofs.Tryz.call83,_,_,_,Proofs.Tryz.func83,Xa⟩,⟨⟨Proofs.Tryz.call86,_,_,_,Proofs.Tryz.func86,ZbB⟩,⟨⟨Proofs.Tryz.call94,_,_,_,Proofs.Tryz.func94,ZGg⟩,⟨⟨Proofs.Tryz.call95,_,_,_,Proofs.Tryz.func95,ZB3⟩,⟨⟨Proofs.Tryz.call111,_,_,_,Proofs.Tryz.func111,ZKU⟩,⟨⟨Proofs.Tryz.call116,_,_,_,Proofs.Tryz.func116,ZbD⟩,⟨⟨Proofs.Tryz.call126,_,_,_,Proofs.Tryz.func126,ZUI⟩,⟨⟨Proofs.Tryz.call127,_,_,_,Proofs.Tryz.func127,ZbF⟩,⟨⟨Proofs.Tryz.call134,_,_,_,Proofs.Tryz.func134,ZUU⟩,⟨⟨Proofs.Tryz.call135,_,_,_,Proofs.Tryz.func135,ZbH⟩,⟨⟨Proofs.Tryz.call136,_,_,_,Proofs.Tryz.func136,ZXl⟩,⟨⟨Proofs.Tryz.call137,_,_,_,Proofs.Tryz.func137,Zdm⟩,⟨⟨Proofs.Tryz.call138,_,_,_,Proofs.Tryz.func138,ZQR⟩,⟨⟨Proofs.Tryz.call139,_,_,_,Proofs.Tryz.func139,Zdo⟩,⟨⟨Proofs.Tryz.call140,_,_,_,Proofs.Tryz.func140,ZbJ⟩,⟨⟨Proofs.Tryz.call141,_,_,_,Proofs.Tryz.func141,ZQT⟩,⟨⟨Proofs.Tryz.call142,_,_,_,Proofs.Tryz.func142,ZQV⟩,⟨⟨Proofs.Tryz.call143,_,_,_,Proofs.Tryz.func143,ZQX⟩,⟨⟨Proofs.Tryz.call144,_,_,_,Proofs.Tryz.func144,Zdq⟩,⟨⟨Proofs.Tryz.call149,_,_,_,Proofs.Tryz.func149,Zds⟩,⟨⟨Proofs.Tryz.call155,_,_,_,Proofs.Tryz.func155,ZUq⟩,⟨⟨Proofs.Tryz.call156,_,_,_,Proofs.Tryz.func156,ZNU⟩,⟨⟨Proofs.Tryz.call157,_,_,_,Proofs.Tryz.func157,ZbL⟩,⟨⟨Proofs.Tryz.call158,_,_,_,Proofs.Tryz.func158,ZfQ⟩,⟨⟨Proofs.Tryz.call159,_,_,_,Proofs.Tryz.func159,ZfS⟩,⟨⟨Proofs.Tryz.call164,_,_,_,Proofs.Tryz.func164,ZFW⟩,⟨⟨Proofs.Tryz.call181,_,_,_,Proofs.Tryz.func181,Zdu⟩,⟨⟨Proofs.Tryz.call182,_,_,_,Proofs.Tryz.func182,Zbh⟩,⟨⟨Proofs.Tryz.call185,_,_,_,Proofs.Tryz.func185,ZQZ⟩,⟨⟨Proofs.Tryz.call186,_,_,_,Proofs.Tryz.func186,ZVF⟩,⟨⟨Proofs.Tryz.call188,_,_,_,Proofs.Tryz.func188,ZYo⟩,⟨⟨Proofs.Tryz.call197,_,_,_,Proofs.Tryz.func197,ZVH⟩,⟨⟨Proofs.Tryz.call198,_,_,_,Proofs.Tryz.func198,Zbj⟩,⟨⟨Proofs.Tryz.call199,_,_,_,Proofs.Tryz.func199,Zbl⟩,⟨⟨Proofs.Tryz.call201,_,_,_,Proofs.Tryz.func201,ZYq⟩,⟨⟨Proofs.Tryz.call203,_,_,_,Proofs.Tryz.func203,ZYs⟩,⟨⟨Proofs.Tryz.call204,_,_,_,Proofs.Tryz.func204,Zbn⟩,⟨⟨Proofs.Tryz.call205,_,_,_,Proofs.Tryz.func205,ZfU⟩,⟨⟨Proofs.Tryz.call206,_,_,_,Proofs.Tryz.func206,ZVg⟩,⟨⟨Proofs.Tryz.call207,_,_,_,Proofs.Tryz.func207,ZYw⟩,⟨⟨Proofs.Tryz.call208,_,_,_,Proofs.Tryz.func208,ZN2⟩,⟨⟨Proofs.Tryz.call213,_,_,_,Proofs.Tryz.func213,Zdw⟩,⟨⟨Proofs.Tryz.call219,_,_,_,Proofs.Tryz.func219,ZVi⟩,⟨⟨Proofs.Tryz.call220,_,_,_,Proofs.Tryz.func220,ZQ7⟩,⟨⟨Proofs.Tryz.call221,_,_,_,Proofs.Tryz.func221,Zbz⟩,⟨⟨Proofs.Tryz.call222,_,_,_,Proofs.Tryz.func222,ZfW⟩,⟨⟨Proofs.Tryz.call223,_,_,_,Proofs.Tryz.func223,ZY5⟩,⟨⟨Proofs.Tryz.call225,_,_,_,Proofs.Tryz.func225,ZcB⟩,⟨⟨Proofs.Tryz.call226,_,_,_,Proofs.Tryz.func226,ZV1⟩,⟨⟨Proofs.Tryz.call227,_,_,_,Proofs.Tryz.func227,ZOC⟩,⟨⟨Proofs.Tryz.call228,_,_,_,Proofs.Tryz.func228,ZOE⟩,⟨⟨Proofs.Tryz.call229,_,_,_,Proofs.Tryz.func229,ZcD⟩,⟨⟨Proofs.Tryz.call240,_,_,_,Proofs.Tryz.func240,ZY7⟩,⟨⟨Proofs.Tryz.call241,_,_,_,Proofs.Tryz.func241,ZcF⟩,⟨⟨Proofs.Tryz.call242,_,_,_,Proofs.Tryz.func242,ZY9⟩,⟨⟨Proofs.Tryz.call243,_,_,_,Proofs.Tryz.func243,ZRu⟩,⟨⟨Proofs.Tryz.call245,_,_,_,Proofs.Tryz.func245,ZZB⟩,⟨⟨Proofs.Tryz.call246,_,_,_,Proofs.Tryz.func246,Zdy⟩,⟨⟨Proofs.Tryz.call247,_,_,_,Proofs.Tryz.func247,ZOY⟩,⟨⟨Proofs.Tryz.call248,_,_,_,Proofs.Tryz.func248,ZHs⟩,⟨⟨Proofs.Tryz.call254,_,_,_,Proofs.Tryz.func254,ZZI⟩,⟨⟨Proofs.Tryz.call255,_,_,_,Proofs.Tryz.func255,ZWE⟩,⟨⟨Proofs.Tryz.call256,_,_,_,Proofs.Tryz.func256,ZSF⟩,⟨⟨Proofs.Tryz.call257,_,_,_,Proofs.Tryz.func257,ZJQ⟩,⟨⟨Proofs.Tryz.call260,_,_,_,Proofs.Tryz.func260,ZcH⟩,⟨⟨Proofs.Tryz.call261,_,_,_,Proofs.Tryz.func261,ZGv⟩,⟨⟨Proofs.Tryz.call263,_,_,_,Proofs.Tryz.func263,ZWQ⟩,trivial⟩⟩⟩⟩⟩⟩⟩⟩⟩⟩⟩⟩⟩⟩⟩⟩⟩⟩⟩⟩⟩⟩⟩⟩⟩⟩⟩⟩⟩⟩⟩⟩⟩⟩⟩⟩⟩⟩⟩⟩⟩⟩⟩⟩⟩⟩⟩⟩⟩⟩⟩⟩⟩⟩⟩⟩⟩⟩⟩⟩⟩⟩⟩⟩⟩⟩⟩⟩⟩⟩⟩⟩⟩⟩⟩⟩⟩⟩⟩⟩⟩⟩⟩⟩⟩⟩⟩⟩⟩⟩⟩
end Go.Q15
