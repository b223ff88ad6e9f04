/- Resolved code, printed by program. No condition. -/
import Derived.Test.YtnbialakgbcbfaaGreatPlT5
set_option linter.unusedVariables false
set_option linter.unusedSimpArgs false
namespace Go.Q15
open Go Go.QAbs Go.Proofs
set_option maxRecDepth 100000
def ZKY:=R [1] [I 1 (.box (.s 0)),I 2 (.mv (.v (.bool false)))]
def ZKZ:=R [1,6] [F 4 0 1,L 5 4,W 6 .eql 5 0]
def ZKa:=R [2] [F 7 1 1,L 8 7,I 9 (.len 0 (.s 8)),W 10 .geq 9 1,M 11 10,G 12 11 true (.fadr 1 (.s 1)),G 13 11 true (.ld false 1 (.s 12)),G 14 11 true (.len 0 (.s 13)),G 15 11 true (.bin .leq (.s 14) (V 16)),I 16 (.pick (.s 11) (.s 15) (.v (.bool false))),M 17 16,G 18 17 true (.fadr 2 (.s 1)),G 19 17 true (.ld false 1 (.s 18)),G 20 17 true (.len 1 (.s 19)),G 21 17 true (.bin .eql (.s 20) (V 0)),I 22 (.pick (.s 17) (.s 21) (.v (.bool false))),M 2 22]
def ZKb:=R [1,47] [F 23 0 1,L 24 23,W 25 .lss 24 0,M 26 25,G 27 26 false (.fadr 0 (.s 1)),G 28 26 false (.ld false 1 (.s 27)),G 29 26 false (.bin .gtr (.s 28) (V 16)),I 30 (.pick (.s 26) (.v (.bool true)) (.s 29)),M 31 30,G 32 31 false (.fadr 1 (.s 1)),G 33 31 false (.ld false 1 (.s 32)),G 34 31 false (.bin .neq (.s 33) (.v (.str []))),I 35 (.pick (.s 31) (.v (.bool true)) (.s 34)),M 36 35,G 37 36 false (.fadr 2 (.s 1)),G 38 36 false (.ld false 1 (.s 37)),G 39 36 false (.len 1 (.s 38)),G 40 36 false (.bin .lss (.s 39) (V 2)),I 41 (.pick (.s 36) (.v (.bool true)) (.s 40)),M 42 41,G 43 42 false (.fadr 2 (.s 1)),G 44 42 false (.ld false 1 (.s 43)),G 45 42 false (.len 1 (.s 44)),G 46 42 false (.bin .gtr (.s 45) (V 4)),I 47 (.pick (.s 42) (.v (.bool true)) (.s 46))]
def ZKc:=R [2] [I 2 (.mv (.v (.bool false)))]
def ZKd:=R [1,3] [K 3 0]
def ZKe:=R [1,3,52] [M 48 3,F 49 2 1,L 50 49,I 51 (.len 1 (.s 50)),B 52 .lss 48 51]
def ZKf:=R [1,3,63] [F 55 0 1,L 56 55,F 57 2 1,L 58 57,M 59 3,I 60 (.ixS 4 (.s 58) (.s 59)),T 61 4 60,I 62 (C ZAk [(.s 56),(.s 61)]),I 63 (.un .not (.s 62))]
def ZKg:=R [2] [I 2 (.mv (.v (.bool false)))]
def ZKh:=R [1,3] [M 53 3,W 54 .add 53 1,M 3 54]
def ZH9:PC:=(D (D ZKe
 (E 52
 .skip
 (.exit 0)))
 (D (.block 1
 (D ZKf
 (E 63
 (D ZKg
 .ret)
 .skip)))
 ZKh))
def ZIA:=R [2] [I 2 (.mv (.v (.bool true)))]
def ZBk:PF:=⟨false,
 (D ZKY
 (D (D ZKZ
 (E 6
 (D ZKa
 .ret)
 .skip))
 (D (D ZKb
 (E 47
 (D ZKc
 .ret)
 .skip))
 (D (D ZKd
 (.block 0
 (.loop ZH9)))
 (D ZIA
 .ret))))),
 [.s 2]⟩
theorem ZQN:ck0 false [] ZBk Tryz.f241=some ZBk:=by kernel_rfl
def ZSq:=R [1,2,4] [I 2 (.box (.s 0)),I 4 (.box (.v ZM))]
def ZSr:=R [1,2,4,5] [I 8 (.build [(.int .i64 0),(.int .i64 0),(.int .i64 0)] []),I 5 (.box (.v ZM)),N 3 5 8]
def ZSs:=R [1,2,4,5,6] [K 6 0]
def ZSt:=R [1,2,4,5,6,11] [M 9 6,M 10 1,B 11 .lss 9 10]
def ZSu:=R [1,2,4,5,6,7] [F 14 2 2,L 15 14,M 16 6,I 17 (.ixS 4 (.s 15) (.s 16)),F 18 1 17,T 19 3 18,I 7 (.box (.v ZM)),N 3 7 19]
def ZSv:=R [1,2,4,5,6] [F 20 0 5,L 21 20,F 22 0 7,L 23 22,B 24 .add 21 23,F 25 1 5,L 26 25,F 27 1 7,L 28 27,B 29 .add 26 28,F 30 2 5,L 31 30,F 32 2 7,L 33 32,B 34 .add 31 33,I 35 (.build [(.int .i64 0),(.int .i64 0),(.int .i64 0)] [(0,1,(.s 24)),(1,1,(.s 29)),(2,1,(.s 34))]),N 3 5 35]
def ZSw:=R [1,2,4,5,6] [M 12 6,W 13 .add 12 1,M 6 13]
def ZSx:PC:=(D (D ZSt
 (E 11
 .skip
 (.exit 0)))
 (D (.block 1
 (D ZSu
 ZSv))
 ZSw))
def ZSy:=R [4] [T 36 3 5,N 3 4 36]
def ZGE:PF:=⟨false,
 (D ZSq
 (D ZSr
 (D (D ZSs
 (.block 0
 (.loop ZSx)))
 (D ZSy
 .ret)))),
 [.c 4 true 3]⟩
theorem ZWc:ck0 false [] ZGE Tryz.f242=some ZGE:=by kernel_rfl
def ZEy:=R [0,1] [K 4 0]
def ZEz:=R [0,1,5] [K 5 0]
def ZE0:=R [0,1,5,12] [M 6 5,M 7 0,I 8 (.nilck (.s 7)),F 9 1 8,L 10 9,I 11 (.len 1 (.s 10)),B 12 .lss 6 11]
def ZE1:=R [0,1,5,24] [M 15 0,I 16 (.nilck (.s 15)),F 17 1 16,L 18 17,M 19 5,I 20 (.ixS 4 (.s 18) (.s 19)),F 21 0 20,L 22 21,M 23 1,B 24 .eql 22 23]
def ZE2:=R [4] [M 25 5,M 4 25]
def ZE3:=R [0,1,5] [M 13 5,W 14 .add 13 1,M 5 14]
def ZE4:PC:=(D (D ZE0
 (E 12
 .skip
 (.exit 0)))
 (D (.block 1
 (D ZE1
 (E 24
 (D ZE2
 .ret)
 .skip)))
 ZE3))
def ZE5:=R [4] [I 4 (.mv (.v (.int .i64 (-1))))]
def X0:PF:=⟨false,
 (D ZEy
 (D (D ZEz
 (.block 0
 (.loop ZE4)))
 (D ZE5
 .ret))),
 [.s 4]⟩
theorem ZGl:ck0 false [] X0 Tryz.f243=some X0:=by kernel_rfl
def ZIB:=R [1,2] [I 1 (.box (.s 0)),I 2 (.box (.v ZM)),K 3 0]
def ZIC:=R [1,2,4] [T 5 3 1,I 6 (C Jl [(.s 5)]),M 4 6]
def ZID:=R [1,2,4,8] [M 7 4,W 8 .neq 7 0]
def ZIE:=R [2,3] [I 9 (.build [(.int .i64 0),(.int .i64 0),(.int .i64 0)] []),M 10 4,N 3 2 9,M 3 10]
def ZIF:=R [1,2,13] [F 11 0 1,L 12 11,W 13 .eql 12 0]
def ZIG:=R [2,3] [F 14 1 1,L 15 14,I 16 (C ZBI [(.s 15)]),N 3 2 16,K 3 0]
def ZIH:=R [2,3] [T 17 3 1,F 18 2 1,L 19 18,I 20 (.len 1 (.s 19)),I 21 (C Jc [(.s 17),(.s 20)]),N 3 2 21,K 3 0]
def ZA5:PF:=⟨false,
 (D ZIB
 (D (D ZIC
 (D ZID
 (E 8
 (D ZIE
 .ret)
 .skip)))
 (D (D ZIF
 (E 13
 (D ZIG
 .ret)
 .skip))
 (D ZIH
 .ret)))),
 [.c 2 true 3,.s 3]⟩
theorem ZNz:ck0 false [] ZA5 Tryz.f244=some ZA5:=by kernel_rfl
def ZQO:=R [0,1] [I 4 (.mv (.v (.int .u64 0))),K 5 0]
def ZQP:=R [0,1,11] [M 6 0,W 7 .lss 6 0,M 8 7,U 9 8 false 0,G 10 8 false (.bin .geq (.s 9) (V 16384)),I 11 (.pick (.s 8) (.v (.bool true)) (.s 10))]
def ZQQ:=R [4,5] [I 4 (.mv (.v (.int .u64 0))),K 5 3]
def ZQR:=R [0,1,17] [M 12 1,I 13 (.bin .lss (.s 12) (.v (.int .u64 1))),M 14 13,U 15 14 false 1,G 16 14 false (.bin .gtr (.s 15) (.v (.int .u64 4294967295))),I 17 (.pick (.s 14) (.v (.bool true)) (.s 16))]
def ZQS:=R [4,5] [I 4 (.mv (.v (.int .u64 0))),K 5 3]
def ZQT:=R [4,5] [M 18 1,I 19 (.bin .mul (.s 18) (.v (.int .u64 65536))),M 20 0,I 21 (.cint .u64 (.s 20)),B 22 .add 19 21,M 4 22,K 5 0]
def ZE6:PF:=⟨false,
 (D ZQO
 (D (D ZQP
 (E 11
 (D ZQQ
 .ret)
 .skip))
 (D (D ZQR
 (E 17
 (D ZQS
 .ret)
 .skip))
 (D ZQT
 .ret)))),
 [.s 4,.s 5]⟩
theorem ZUj:ck0 false [] ZE6 Tryz.f245=some ZE6:=by kernel_rfl
def ZKi:=R [0] [I 2 (.mv (.v .nils))]
def ZKj:=R [0,3] [I 3 (.onil 4)]
def ZKk:=R [0,3,4] [K 4 0]
def ZKl:=R [0,3,4,8] [M 5 4,M 6 0,I 7 (.len 1 (.s 6)),B 8 .lss 5 7]
def ZKm:=R [0,3,4] [M 11 3,M 12 0,M 13 4,I 14 (.ixS 4 (.s 12) (.s 13)),T 15 4 14,I 16 (.bslice false 4 [ZK] [(0,(.s 15))]),I 17 (.app 4 32 (.s 11) (.s 16)),M 3 17]
def ZKn:=R [0,3,4] [M 9 4,W 10 .add 9 1,M 4 10]
def ZKo:PC:=(D (D ZKl
 (E 8
 .skip
 (.exit 0)))
 (D (.block 1
 ZKm)
 ZKn))
def ZKp:=R [2] [M 18 3,M 2 18]
def ZBl:PF:=⟨false,
 (D ZKi
 (D ZKj
 (D (D ZKk
 (.block 0
 (.loop ZKo)))
 (D ZKp
 .ret)))),
 [.s 2]⟩
theorem ZQV:ck0 false [(1,⟨[0,3],[0],[],[],[],[]⟩)] ZBl Tryz.f246=some ZBl:=by kernel_rfl
def ZbP:=R [0,4,5] [I 4 (.box (.s 1)),I 5 (.box (.s 2)),I 6 (.mv (.v .nils)),K 7 0]
def ZbQ:=R [0,4,5,8,9] [T 17 7 4,I 18 (.call .pure (.v (.func (.func QU) [] [])) [(.s 17)]),T 19 7 5,I 20 (C QU [(.s 19)]),M 8 18,M 9 20]
def ZbR:=R [0,4,5,32] [M 21 8,M 22 9,B 23 .add 21 22,W 24 .gtr 23 16,M 25 24,U 26 25 true 8,G 27 25 true (.bin .geq (.s 26) (V 8)),I 28 (.pick (.s 25) (.s 27) (.v (.bool false))),M 29 28,U 30 29 true 9,G 31 29 true (.bin .geq (.s 30) (V 8)),I 32 (.pick (.s 29) (.s 31) (.v (.bool false)))]
def ZbS:=R [6,7] [T 33 7 4,T 34 7 5,I 35 (.bslice false 7 [ZT,ZT] [(0,(.s 33)),(1,(.s 34))]),M 6 35,K 7 0]
def ZbT:=R [0,5,10,11] [M 37 0,T 38 7 4,I 39 (C ZAT [(.s 37),(.s 38)]),M 36 39,X 40 36 0,X 41 36 1,M 10 40,M 11 41]
def ZbU:=R [0,5,10,11,43] [M 42 11,W 43 .neq 42 0]
def ZbV:=R [6,7] [M 44 11,I 6 (.mv (.v .nils)),M 7 44]
def ZbW:=R [10,11,12] [M 46 0,T 47 7 5,I 48 (C ZAT [(.s 46),(.s 47)]),M 45 48,X 49 45 0,X 50 45 1,M 12 49,M 11 50]
def ZbX:=R [10,11,12,52] [M 51 11,W 52 .neq 51 0]
def ZbY:=R [6,7] [M 53 11,I 6 (.mv (.v .nils)),M 7 53]
def ZYY:=R [11,13] [M 55 10,M 56 12,I 57 (C ZIm [(.s 55),(.s 56)]),M 54 57,X 58 54 0,X 59 54 1,M 13 58,M 11 59]
def ZYZ:=R [11,13,61] [M 60 11,W 61 .neq 60 0]
def ZYa:=R [6,7] [M 62 11,I 6 (.mv (.v .nils)),M 7 62]
def ZYb:=R [13,14] [I 14 (.onil 7)]
def ZYc:=R [14,63,64,65] [M 63 13,I 64 (.len 1 (.s 63)),K 65 0]
def ZYd:=R [14,63,64,65,66] [B 66 .lss 65 64]
def ZYe:=R [14,16,63,64,65] [I 67 (.ixS 1 (.s 63) (.s 65)),L 68 67,M 16 68]
def ZYf:=R [14,63,64,65] [M 69 14,M 70 16,I 71 (.build [(.int .u64 0),(.int .i64 0),(.int .i64 0),(.int .i64 0),(.int .i64 0),(.str []),.nils] [(5,1,(.s 70))]),I 72 (.bslice false 7 [ZT] [(0,(.s 71))]),I 73 (.app 7 80 (.s 69) (.s 72)),M 14 73]
def ZYg:=R [14,63,64,65] [W 74 .add 65 1,M 65 74]
def ZII:PC:=(D ZYd
 (D (E 66
 .skip
 (.exit 0))
 (D (.block 1
 (D ZYe
 ZYf))
 ZYg)))
def ZYh:=R [6,7] [M 75 14,M 6 75,K 7 0]
def ZTO:PF:=⟨false,
 (D ZbP
 (D ZbQ
 (D (D ZbR
 (E 32
 (D ZbS
 .ret)
 .skip))
 (D ZbT
 (D (D ZbU
 (E 43
 (D ZbV
 .ret)
 .skip))
 (D ZbW
 (D (D ZbX
 (E 52
 (D ZbY
 .ret)
 .skip))
 (D ZYY
 (D (D ZYZ
 (E 61
 (D ZYa
 .ret)
 .skip))
 (D ZYb
 (D (D ZYc
 (.block 0
 (.loop ZII)))
 (D ZYh
 .ret)))))))))))),
 [.s 6,.s 7]⟩
theorem Zht:ck0 false [(1,⟨[0,4,5,8,9],[],[(1,.pure)],[],[],[]⟩),(13,⟨[13,14],[0],[],[],[],[]⟩)] ZTO Tryz.f247=some ZTO:=by kernel_rfl
def Zhu:=R [0] [I 2 (.mv (.v .nils))]
def Zhv:=R [0,6] [M 4 0,I 5 (.len 1 (.s 4)),W 6 .leq 5 4]
def Zhw:=R [2] [M 7 0,I 8 (C QJ [(.s 7)]),I 9 (.bslice false 7 [ZT] [(0,(.s 8))]),M 2 9]
def Zhx:=R [0,3] [M 10 0,I 11 (.len 1 (.s 10)),W 12 .add 11 1,W 13 .quo 12 2,M 3 13]
def Zhy:=R [2] [M 14 0,M 15 3,I 16 (.slc 7 (.s 14) none (some (.s 15))),I 17 (.call .pure (.v (.func (.func QJ) [] [])) [(.s 16)]),M 18 0,M 19 3,I 20 (.slc 7 (.s 18) (some (.s 19)) none),I 21 (C QJ [(.s 20)]),I 22 (.bslice false 7 [ZT,ZT] [(0,(.s 17)),(1,(.s 21))]),M 2 22]
def ZZR:PF:=⟨false,
 (D Zhu
 (D (D Zhv
 (E 6
 (D Zhw
 .ret)
 .skip))
 (D Zhx
 (D Zhy
 .ret)))),
 [.s 2]⟩
theorem Zm8:ck0 false [(4,⟨[2],[],[(3,.pure)],[],[],[]⟩)] ZZR Tryz.f248=some ZZR:=by kernel_rfl
def ZQW:=R [0,1] [I 4 (.mv (.v .nils)),K 5 0]
def ZQX:=R [0,1,15] [M 8 0,I 9 (C J1 [(.s 8)]),I 10 (.un .not (.s 9)),M 11 10,U 12 11 false 1,G 13 11 false (C J1 [(.s 12)]),G 14 11 false (.un .not (.s 13)),I 15 (.pick (.s 11) (.v (.bool true)) (.s 14))]
def ZQY:=R [4,5] [I 4 (.mv (.v .nils)),K 5 2]
def ZQZ:=R [0,1,6] [M 16 0,M 17 1,B 18 .add 16 17,M 6 18]
def ZQa:=R [0,1,6,21] [M 19 6,I 20 (.len 0 (.s 19)),W 21 .leq 20 16]
def ZQb:=R [4,5] [M 22 6,I 23 (.bslice false 1 [(.str [])] [(0,(.s 22))]),M 4 23,K 5 0]
def ZQc:=R [0,1,6,31] [M 24 0,I 25 (.len 0 (.s 24)),W 26 .geq 25 8,M 27 26,U 28 27 true 1,G 29 27 true (.len 0 (.s 28)),G 30 27 true (.bin .geq (.s 29) (V 8)),I 31 (.pick (.s 27) (.s 30) (.v (.bool false)))]
def ZQd:=R [4,5] [M 32 0,M 33 1,I 34 (.bslice false 1 [(.str []),(.str [])] [(0,(.s 32)),(1,(.s 33))]),M 4 34,K 5 0]
def ZQe:=R [6,7] [M 35 6,I 36 (.len 0 (.s 35)),W 37 .add 36 1,W 38 .quo 37 2,M 7 38]
def ZQf:=R [4,5] [M 39 6,M 40 7,I 41 (.slcS (.s 39) none (some (.s 40))),M 42 6,M 43 7,I 44 (.slcS (.s 42) (some (.s 43)) none),I 45 (.bslice false 1 [(.str []),(.str [])] [(0,(.s 41)),(1,(.s 44))]),M 4 45,K 5 0]
def ZE7:PF:=⟨false,
 (D ZQW
 (D (D ZQX
 (E 15
 (D ZQY
 .ret)
 .skip))
 (D ZQZ
 (D (D ZQa
 (E 21
 (D ZQb
 .ret)
 .skip))
 (D (D ZQc
 (E 31
 (D ZQd
 .ret)
 .skip))
 (D ZQe
 (D ZQf
 .ret))))))),
 [.s 4,.s 5]⟩
theorem ZUl:ck0 false [] ZE7 Tryz.f249=some ZE7:=by kernel_rfl
def ZN0:=R [0] [I 2 (.mv (.v .nils))]
def ZN1:=R [0,6] [M 4 0,I 5 (.len 1 (.s 4)),W 6 .leq 5 4]
def ZN2:=R [2] [M 7 0,I 8 (C Qd [(.s 7)]),I 9 (.bslice true 7 [ZT] [(0,(.s 8))]),M 2 9]
def ZN3:=R [0,3] [M 10 0,I 11 (.len 1 (.s 10)),W 12 .add 11 1,W 13 .quo 12 2,M 3 13]
def ZN4:=R [2] [M 14 0,M 15 3,I 16 (.slc 7 (.s 14) none (some (.s 15))),I 17 (.call .pure (.v (.func (.func Qd) [] [])) [(.s 16)]),M 18 0,M 19 3,I 20 (.slc 7 (.s 18) (some (.s 19)) none),I 21 (C Qd [(.s 20)]),I 22 (.bslice true 7 [ZT,ZT] [(0,(.s 17)),(1,(.s 21))]),M 2 22]
def ZCF:PF:=⟨true,
 (D ZN0
 (D (D ZN1
 (E 6
 (D ZN2
 .ret)
 .skip))
 (D ZN3
 (D ZN4
 .ret)))),
 [.s 2]⟩
theorem ZS0:ck0 true [(2,⟨[2],[2],[],[],[],[]⟩),(4,⟨[2],[8],[(3,.pure)],[],[],[]⟩)] ZCF Tryz.f250=some ZCF:=by kernel_rfl
def Zhz:=R [0,1] [I 4 (.mv (.v (.str []))),I 5 (.mv (.v (.str []))),K 6 0]
def Zh0:=R [0,1,9] [M 7 0,I 8 (C ZAl [(.s 7)]),I 9 (.un .not (.s 8))]
def Zh1:=R [4,5,6] [I 4 (.mv (.v (.str []))),I 5 (.mv (.v (.str []))),K 6 2]
def Zh2:=R [0,1,17] [M 10 1,W 11 .lss 10 0,M 12 11,U 13 12 false 1,U 14 12 false 0,G 15 12 false (.len 0 (.s 14)),G 16 12 false (.bin .gtr (.s 13) (.s 15)),I 17 (.pick (.s 12) (.v (.bool true)) (.s 16))]
def Zh3:=R [4,5,6] [I 4 (.mv (.v (.str []))),I 5 (.mv (.v (.str []))),K 6 3]
def Zh4:=R [4,5,6] [M 18 0,M 19 1,I 20 (.slcS (.s 18) none (some (.s 19))),M 21 0,M 22 1,I 23 (.slcS (.s 21) (some (.s 22)) none),M 4 20,M 5 23,K 6 0]
def ZZS:PF:=⟨false,
 (D Zhz
 (D (D Zh0
 (E 9
 (D Zh1
 .ret)
 .skip))
 (D (D Zh2
 (E 17
 (D Zh3
 .ret)
 .skip))
 (D Zh4
 .ret)))),
 [.s 4,.s 5,.s 6]⟩
theorem ZnA:ck0 false [] ZZS Tryz.f251=some ZZS:=by kernel_rfl
def ZKq:=R [1] [I 1 (.box (.s 0)),I 2 (.mv (.v (.bool false)))]
def ZKr:=R [1,5] [F 3 0 1,L 4 3,I 5 (.bin .neq (.s 4) (.v (.int .u64 0)))]
def ZKs:=R [2] [F 6 5 1,L 7 6,I 8 (.bin .eql (.s 7) (.v (.str []))),M 9 8,G 10 9 true (.fadr 6 (.s 1)),G 11 9 true (.ld false 1 (.s 10)),G 12 9 true (.len 1 (.s 11)),G 13 9 true (.bin .eql (.s 12) (V 0)),I 14 (.pick (.s 9) (.s 13) (.v (.bool false))),M 2 14]
def ZKt:=R [1,18] [F 15 2 1,T 16 3 15,I 17 (.build [(.int .i64 0),(.int .i64 0),(.int .i64 0)] []),I 18 (.eqs true 0 [(0,0),(1,0),(2,0)] (.s 16) (.s 17))]
def ZKu:=R [2] [I 2 (.mv (.v (.bool false)))]
def ZKv:=R [1,21] [F 19 1 1,L 20 19,W 21 .eql 20 0]
def ZKw:=R [2] [F 22 6 1,L 23 22,I 24 (.len 1 (.s 23)),W 25 .eql 24 0,M 26 25,G 27 26 true (.fadr 5 (.s 1)),G 28 26 true (.ld false 1 (.s 27)),G 29 26 true (C J1 [(.s 28)]),I 30 (.pick (.s 26) (.s 29) (.v (.bool false))),M 2 30]
def ZKx:=R [2] [F 31 1 1,L 32 31,W 33 .geq 32 1,M 34 33,G 35 34 true (.fadr 1 (.s 1)),G 36 34 true (.ld false 1 (.s 35)),G 37 34 true (.bin .leq (.s 36) (V 16)),I 38 (.pick (.s 34) (.s 37) (.v (.bool false))),M 39 38,G 40 39 true (.fadr 5 (.s 1)),G 41 39 true (.ld false 1 (.s 40)),G 42 39 true (.bin .eql (.s 41) (.v (.str []))),I 43 (.pick (.s 39) (.s 42) (.v (.bool false))),M 44 43,G 45 44 true (.fadr 6 (.s 1)),G 46 44 true (.ld false 1 (.s 45)),G 47 44 true (.len 1 (.s 46)),G 48 44 true (.bin .geq (.s 47) (V 2)),I 49 (.pick (.s 44) (.s 48) (.v (.bool false))),M 50 49,G 51 50 true (.fadr 6 (.s 1)),G 52 50 true (.ld false 1 (.s 51)),G 53 50 true (.len 1 (.s 52)),G 54 50 true (.bin .leq (.s 53) (V 4)),I 55 (.pick (.s 50) (.s 54) (.v (.bool false))),M 2 55]
def ZBm:PF:=⟨false,
 (D ZKq
 (D (D ZKr
 (E 5
 (D ZKs
 .ret)
 .skip))
 (D (D ZKt
 (E 18
 (D ZKu
 .ret)
 .skip))
 (D (D ZKv
 (E 21
 (D ZKw
 .ret)
 .skip))
 (D ZKx
 .ret))))),
 [.s 2]⟩
theorem ZQh:ck0 false [] ZBm Tryz.f252=some ZBm:=by kernel_rfl
def ZWd:=R [0,1,2] [K 4 0]
def ZWe:=R [1,2,9] [M 5 0,L 6 1,L 7 2,B 8 .rem 6 7,B 9 .lss 5 8]
def ZWf:=R [4] [L 10 1,L 11 2,B 12 .quo 10 11,W 13 .add 12 1,M 4 13]
def ZWg:=R [4] [L 14 1,L 15 2,B 16 .quo 14 15,M 4 16]
def ZLM:PF:=⟨false,
 (D ZWd
 (D (D ZWe
 (E 9
 (D ZWf
 .ret)
 .skip))
 (D ZWg
 .ret))),
 [.s 4]⟩
theorem Zba:ck0 false [] ZLM Tryz.f270=some ZLM:=by kernel_rfl
def Zbb:=R [0] [K 2 0,K 3 0]
def Zbc:=R [0,2,3] [K 2 8,K 3 16]
def Zbd:=R [2,3,4,5] [M 4 0,K 5 0]
def Zbe:=R [2,3,4,5,6] [B 6 .lss 5 4]
def Zbf:=R [2,3,4,5] [M 7 2,W 8 .mul 7 2,M 2 8]
def Zbg:=R [2,3,4,5] [M 9 3,W 10 .mul 9 4,I 11 (.mnx false (.s 10) (V 65536)),M 3 11]
def Zbh:=R [2,3,4,5] [W 12 .add 5 1,M 5 12]
def Zbi:PC:=(D Zbe
 (D (E 6
 .skip
 (.exit 0))
 (D (.block 1
 (D Zbf
 Zbg))
 Zbh)))
def Zbj:=R [2,3] [M 13 2,M 14 3,I 15 (.mnx false (.s 14) (V 65536)),M 2 13,M 3 15]
def ZTP:PF:=⟨false,
 (D Zbb
 (D Zbc
 (D (D Zbd
 (.block 0
 (.loop Zbi)))
 (D Zbj
 .ret)))),
 [.s 2,.s 3]⟩
theorem Zh6:ck0 false [] ZTP Tryz.f271=some ZTP:=by kernel_rfl
def ZYi:=R [0] [K 2 0]
def ZYj:=R [3,4] [M 6 0,I 7 (C ZDN [(.s 6)]),M 5 7,X 8 5 0,X 9 5 1,M 3 8,M 4 9]
def ZYk:=R [19] [M 10 3,W 11 .geq 10 16384,M 12 11,U 13 12 false 4,G 14 12 false (.bin .lss (.s 13) (.v (.int .u64 1))),I 15 (.pick (.s 12) (.v (.bool true)) (.s 14)),M 16 15,U 17 16 false 4,G 18 16 false (.bin .gtr (.s 17) (.v (.int .u64 4294967295))),I 19 (.pick (.s 16) (.v (.bool true)) (.s 18))]
def ZYl:=R [2] [K 2 2]
def ZYm:=R [2] [K 2 0]
def ZQi:PF:=⟨false,
 (D ZYi
 (D (D ZYj
 (D ZYk
 (E 19
 (D ZYl
 .ret)
 .skip)))
 (D ZYm
 .ret))),
 [.s 2]⟩
theorem Ze5:ck0 false [] ZQi Tryz.f272=some ZQi:=by kernel_rfl
def Ze6:=R [0,2] [I 2 (.box (.v ZM))]
def Ze7:=R [0,2,3] [I 3 (.box (.v ZM))]
def Ze8:=R [0,2,3,6,7] [I 6 (.build [.nilfunc,.nilfunc,.nilfunc] [(0,1,(.v (.func (.func X7) [] []))),(1,1,(.v (.func (.func Xh) [] []))),(2,1,(.v (.func (.func X6) [] [])))]),K 7 0]
def Ze9:=R [0,2,3,6,7,8] [W 8 .lss 7 3]
def ZfA:=R [0,2,3,4,5,6,7] [M 9 7,I 10 (.ixArr false 3 1 (.s 6) (.s 7)),M 4 9,M 5 10]
def ZfB:=R [0,2,3,6,7] [M 11 4,M 12 0,M 13 5,I 14 (C ZBt [(.s 12),(.s 13)]),I 15 (.ixA 3 1 (.s 3) (.s 11)),N 1 15 14]
def ZfC:=R [0,2,3,6,7] [W 16 .add 7 1,M 7 16]
def ZfD:PC:=(D Ze9
 (D (E 8
 .skip
 (.exit 0))
 (D (.block 1
 (D ZfA
 ZfB))
 ZfC)))
def ZfE:=R [2] [T 17 3 3,I 18 (C Yr [(.s 17)]),N 3 2 18]
def ZWh:PF:=⟨false,
 (D Ze6
 (D Ze7
 (D (D Ze8
 (.block 0
 (.loop ZfD)))
 (D ZfE
 .ret)))),
 [.c 2 true 3]⟩
theorem ZlG:ck0 false [] ZWh Tryz.f273=some ZWh:=by kernel_rfl
def Zbk:=R [0,2] [I 2 (.box (.v ZM))]
def Zbl:=R [0,2,3] [I 3 (.box (.v ZM))]
def Zbm:=R [2,3,8,9,10] [M 8 0,I 9 (.len 1 (.s 8)),K 10 0]
def Zbn:=R [2,3,8,9,10,11] [B 11 .lss 10 9]
def Zbo:=R [2,3,5,8,9,10] [I 12 (.ixS 3 (.s 8) (.s 10)),T 13 3 12,I 5 (.box (.v ZM)),N 3 5 13]
def Zbp:=R [2,3,8,9,10,20,21] [F 14 0 5,L 15 14,F 16 1 5,L 17 16,F 18 2 5,L 19 18,I 20 (.build [(.int .i64 0),(.int .i64 0),(.int .i64 0)] [(0,1,(.s 15)),(1,1,(.s 17)),(2,1,(.s 19))]),K 21 0]
def Zbq:=R [2,3,8,9,10,20,21,22] [W 22 .lss 21 3]
def Zbr:=R [2,3,6,7,8,9,10,20,21] [M 23 21,I 24 (.ixArr false 3 1 (.s 20) (.s 21)),M 6 23,M 7 24]
def Zbs:=R [2,3,8,9,10,20,21] [M 25 6,I 26 (.ixA 3 1 (.s 3) (.s 25)),L 27 26,M 28 7,B 29 .add 27 28,I 30 (.ixA 3 1 (.s 3) (.s 25)),N 1 30 29]
def Zbt:=R [2,3,8,9,10,20,21] [W 31 .add 21 1,M 21 31]
def ZYn:PC:=(D Zbq
 (D (E 22
 .skip
 (.exit 2))
 (D (.block 3
 (D Zbr
 Zbs))
 Zbt)))
def ZYo:=R [2,3,8,9,10] [W 32 .add 10 1,M 10 32]
def ZYp:PC:=(D Zbn
 (D (E 11
 .skip
 (.exit 0))
 (D (.block 1
 (D Zbo
 (D Zbp
 (.block 2
 (.loop ZYn)))))
 ZYo)))
def ZYq:=R [2] [T 33 3 3,I 34 (C Yr [(.s 33)]),N 3 2 34]
def ZTQ:PF:=⟨false,
 (D Zbk
 (D Zbl
 (D (D Zbm
 (.block 0
 (.loop ZYp)))
 (D ZYq
 .ret)))),
 [.c 2 true 3]⟩
theorem Zh8:ck0 false [] ZTQ Tryz.f274=some ZTQ:=by kernel_rfl
def ZS1:=R [0,3] [I 3 (.box (.s 1)),I 4 (.mv (.v (.bool false)))]
def ZS2:=R [0,3,5,6] [K 5 8,K 6 16]
def ZS3:=R [0,3,5,6,7] [K 7 1]
def ZS4:=R [0,3,5,6,7,11] [M 9 7,M 10 0,B 11 .lss 9 10]
def ZS5:=R [0,3,5,6,7] [M 14 5,W 15 .mul 14 2,M 5 15]
def ZS6:=R [0,3,5,6,7] [M 16 6,W 17 .mul 16 4,I 18 (.mnx false (.s 17) (V 65536)),M 6 18]
def ZS7:=R [0,3,5,6,7] [M 12 7,W 13 .add 12 1,M 7 13]
def ZS8:PC:=(D (D ZS4
 (E 11
 .skip
 (.exit 0)))
 (D (.block 1
 (D ZS5
 ZS6))
 ZS7))
def ZS9:=R [3,5,6,8] [F 19 1 3,T 20 3 19,I 8 (.box (.v ZM)),N 3 8 20]
def ZTA:=R [4] [F 21 0 3,L 22 21,I 23 (C Xs [(.s 22)]),W 24 .eql 23 0,M 25 24,G 26 25 true (.fadr 0 (.s 8)),G 27 25 true (.ld false 1 (.s 26)),U 28 25 true 5,G 29 25 true (.bin .geq (.s 27) (.s 28)),I 30 (.pick (.s 25) (.s 29) (.v (.bool false))),M 31 30,G 32 31 true (.fadr 0 (.s 8)),G 33 31 true (.ld false 1 (.s 32)),U 34 31 true 6,G 35 31 true (.bin .leq (.s 33) (.s 34)),I 36 (.pick (.s 31) (.s 35) (.v (.bool false))),M 37 36,G 38 37 true (.fadr 1 (.s 8)),G 39 37 true (.ld false 1 (.s 38)),G 40 37 true (.bin .geq (.s 39) (V 0)),I 41 (.pick (.s 37) (.s 40) (.v (.bool false))),M 42 41,G 43 42 true (.fadr 1 (.s 8)),G 44 42 true (.ld false 1 (.s 43)),G 45 42 true (.fadr 0 (.s 8)),G 46 42 true (.ld false 1 (.s 45)),G 47 42 true (.bin .leq (.s 44) (.s 46)),I 48 (.pick (.s 42) (.s 47) (.v (.bool false))),M 49 48,G 50 49 true (.fadr 2 (.s 8)),G 51 49 true (.ld false 1 (.s 50)),G 52 49 true (.bin .geq (.s 51) (V 0)),I 53 (.pick (.s 49) (.s 52) (.v (.bool false))),M 54 53,G 55 54 true (.fadr 2 (.s 8)),G 56 54 true (.ld false 1 (.s 55)),G 57 54 true (.fadr 1 (.s 8)),G 58 54 true (.ld false 1 (.s 57)),G 59 54 true (.bin .leq (.s 56) (.s 58)),I 60 (.pick (.s 54) (.s 59) (.v (.bool false))),M 4 60]
def ZGF:PF:=⟨false,
 (D ZS1
 (D ZS2
 (D (D ZS3
 (.block 0
 (.loop ZS8)))
 (D ZS9
 (D ZTA
 .ret))))),
 [.s 4]⟩
theorem ZWj:ck0 false [] ZGF Tryz.f275=some ZGF:=by kernel_rfl
def ZfF:=R [0,1] [I 4 (.mv (.v .nils)),K 5 0]
def ZfG:=R [0,1,15] [M 8 0,I 9 (C ZAl [(.s 8)]),I 10 (.un .not (.s 9)),M 11 10,U 12 11 false 1,G 13 11 false (C ZAl [(.s 12)]),G 14 11 false (.un .not (.s 13)),I 15 (.pick (.s 11) (.v (.bool true)) (.s 14))]
def ZfH:=R [4,5] [I 4 (.mv (.v .nils)),K 5 2]
def ZfI:=R [0,1,6] [M 16 0,M 17 1,B 18 .add 16 17,M 6 18]
def ZfJ:=R [0,1,6,21] [M 19 6,I 20 (.len 0 (.s 19)),W 21 .leq 20 16]
def ZfK:=R [4,5] [M 22 6,I 23 (.bslice false 1 [(.str [])] [(0,(.s 22))]),M 4 23,K 5 0]
def ZfL:=R [0,1,6,31] [M 24 0,I 25 (.len 0 (.s 24)),W 26 .geq 25 8,M 27 26,U 28 27 true 1,G 29 27 true (.len 0 (.s 28)),G 30 27 true (.bin .geq (.s 29) (V 8)),I 31 (.pick (.s 27) (.s 30) (.v (.bool false)))]
def ZfM:=R [4,5] [M 32 0,M 33 1,I 34 (.bslice false 1 [(.str []),(.str [])] [(0,(.s 32)),(1,(.s 33))]),M 4 34,K 5 0]
def ZfN:=R [6,7] [M 35 6,I 36 (.len 0 (.s 35)),W 37 .add 36 1,W 38 .quo 37 2,M 7 38]
def ZfO:=R [4,5] [M 39 6,M 40 7,I 41 (.slcS (.s 39) none (some (.s 40))),M 42 6,M 43 7,I 44 (.slcS (.s 42) (some (.s 43)) none),I 45 (.bslice false 1 [(.str []),(.str [])] [(0,(.s 41)),(1,(.s 44))]),M 4 45,K 5 0]
def ZWk:PF:=⟨false,
 (D ZfF
 (D (D ZfG
 (E 15
 (D ZfH
 .ret)
 .skip))
 (D ZfI
 (D (D ZfJ
 (E 21
 (D ZfK
 .ret)
 .skip))
 (D (D ZfL
 (E 31
 (D ZfM
 .ret)
 .skip))
 (D ZfN
 (D ZfO
 .ret))))))),
 [.s 4,.s 5]⟩
theorem ZlI:ck0 false [] ZWk Tryz.f276=some ZWk:=by kernel_rfl
def ZQj:=R [0] [I 2 (.mv (.v (.bool false)))]
def ZQk:=R [2] [M 3 0,I 4 (.len 0 (.s 3)),W 5 .geq 4 1,M 6 5,U 7 6 true 0,G 8 6 true (.len 0 (.s 7)),G 9 6 true (.bin .leq (.s 8) (V 16)),I 10 (.pick (.s 6) (.s 9) (.v (.bool false))),M 2 10]
def ZE8:PF:=⟨false,
 (D ZQj
 (D ZQk
 .ret)),
 [.s 2]⟩
theorem ZUn:ck0 false [] ZE8 Tryz.f277=some ZE8:=by kernel_rfl
def ZfP:=R [0] [I 2 (.mv (.v (.bool false)))]
def ZfQ:=R [2] [M 3 0,I 4 (.len 0 (.s 3)),W 5 .geq 4 1,M 6 5,U 7 6 true 0,G 8 6 true (.len 0 (.s 7)),G 9 6 true (.bin .leq (.s 8) (V 16)),I 10 (.pick (.s 6) (.s 9) (.v (.bool false))),M 2 10]
def ZWl:PF:=⟨false,
 (D ZfP
 (D ZfQ
 .ret)),
 [.s 2]⟩
theorem ZlK:ck0 false [] ZWl Tryz.f278=some ZWl:=by kernel_rfl
def ZYr:=R [0] [K 2 0,I 3 (.mv (.v (.int .u64 0)))]
def ZYs:=R [2,3] [M 4 0,I 5 (.bin .and (.s 4) (.v (.int .u64 65535))),I 6 (.cint .i64 (.s 5)),M 7 0,I 8 (.bin .shr (.s 7) (.v (.int .u64 16))),M 2 6,M 3 8]
def ZQl:PF:=⟨false,
 (D ZYr
 (D ZYs
 .ret)),
 [.s 2,.s 3]⟩
theorem ZfS:ck0 false [] ZQl Tryz.f288=some ZQl:=by kernel_rfl
def ZWm:=R [] [I 2 (.mv (.v (.bool false)))]
def ZWn:=R [2] [I 2 (.mv (.v (.bool true)))]
def ZLN:PF:=⟨false,
 (D ZWm
 (D ZWn
 .ret)),
 [.s 2]⟩
theorem Zbv:ck0 false [] ZLN Tryz.f289=some ZLN:=by kernel_rfl
def ZQm:=R [1,2] [I 1 (.box (.s 0)),I 2 (.box (.v ZM))]
def ZQn:=R [1,2,5] [T 3 3 1,I 4 (.build [(.int .i64 0),(.int .i64 0),(.int .i64 0)] []),I 5 (.eqs false 0 [(0,0),(1,0),(2,0)] (.s 3) (.s 4))]
def ZQo:=R [2] [I 6 (.build [(.int .i64 0),(.int .i64 0),(.int .i64 0)] []),N 3 2 6]
def ZQp:=R [2] [I 7 (.ixA 3 1 (.s 1) (V 0)),L 8 7,I 9 (.ixA 3 1 (.s 1) (V 1)),L 10 9,I 11 (.ixA 3 1 (.s 1) (V 2)),L 12 11,I 13 (.build [(.int .i64 0),(.int .i64 0),(.int .i64 0)] [(0,1,(.s 8)),(1,1,(.s 10)),(2,1,(.s 12))]),N 3 2 13]
def ZE9:PF:=⟨false,
 (D ZQm
 (D (D ZQn
 (E 5
 (D ZQo
 .ret)
 .skip))
 (D ZQp
 .ret))),
 [.c 2 true 3]⟩
theorem ZUp:ck0 false [] ZE9 Tryz.f290=some ZE9:=by kernel_rfl
def ZN5:=R [0] [K 2 0]
def ZN6:=R [0,3] [M 4 0,I 5 (.bin .quo (.s 4) (.v (.int .u64 65536))),M 3 5]
def ZN7:=R [16] [M 6 0,I 7 (.bin .rem (.s 6) (.v (.int .u64 65536))),I 8 (.bin .geq (.s 7) (.v (.int .u64 16384))),M 9 8,U 10 9 false 3,G 11 9 false (.bin .lss (.s 10) (.v (.int .u64 1))),I 12 (.pick (.s 9) (.v (.bool true)) (.s 11)),M 13 12,U 14 13 false 3,G 15 13 false (.bin .gtr (.s 14) (.v (.int .u64 4294967295))),I 16 (.pick (.s 13) (.v (.bool true)) (.s 15))]
def ZN8:=R [2] [K 2 2]
def ZN9:=R [2] [K 2 0]
def ZCG:PF:=⟨false,
 (D ZN5
 (D ZN6
 (D (D ZN7
 (E 16
 (D ZN8
 .ret)
 .skip))
 (D ZN9
 .ret)))),
 [.s 2]⟩
theorem ZTC:ck0 false [] ZCG Tryz.f291=some ZCG:=by kernel_rfl
def tabL:List (FuncId × Ent):=[(YV,.pf ZAU),(ZAG,.pf ZDb),(ZAH,.pf ZDc),(YL,.pf ZBw),(XE,.pf ZF8),(YW,.pf ZAV),(ZOQ,.pf ZZJ),(Qc,.pf ZBx),(ZAI,.pf ZdN),(YB,.pf ZF9),(JQ,.pf Xy),(ZF4,.pf ZZK),(Yk,.pf ZEa),(ZAf,.pf ZOr),(J2,.pf ZA1),(YM,.pf ZBy),(JJ,.pf Xk),(ZF5,.pf ZZL),(QH,.pf ZEb),(ZAg,.pf ZVg),(XF,.pf ZGA),(Ji,.pf ZBz),(Z2,.pf ZB0),(Jj,.pf ZB1),(QE,.pf Xl),(Q2,.pf ZEc),(XQ,.pf ZZM),(ZAJ,.pf ZEd),(Zl,.pf ZB2),(ZGQ,.pf ZTG),(XR,.pf ZBc),(ZCO,.pf ZVj),(JE,.pf ZB3),(YN,.pf ZB4),(ZTl,.pf Zdh),(Qq,.pf ZB5),(ZDJ,.pf ZPC),(Yl,.pf ZAt),(Ym,.pf ZEe),(Js,.pf ZVz),(Y2,.pf ZTH),(ZAT,.pf ZZN),(J7,.pf ZLH),(QQ,.pf ZZO),(Yn,.pf ZEg),(QA,.pf ZEh),(Zy,.pf ZEi),(Y3,.pf ZTI),(J0,.pf ZEj),(JF,.pf ZB6),(JR,.pf ZWA),(YX,.pf ZHC),(YY,.pf ZHD),(Yo,.pf ZEk),(Jk,.pf ZB7),(Y7,.pf ZA2),(JG,.pf ZB8),(YO,.pf ZB9),(XS,.pf ZBe),(J6,.pf Xm),(ZDK,.pf ZPw),(ZBI,.pf ZHO),(ZDL,.pf ZPx),(ZIk,.pf ZWD),(QJ,.pf ZWE),(ZAh,.pf ZGB),(XT,.pf ZBf),(JM,.pf ZEl),(YP,.pf ZCA),(Qd,.pf ZCB),(Z3,.pf ZCC),(Y8,.pf ZA3),(ZAi,.pf ZWH),(ZAj,.pf ZP6),(XU,.pf ZBg),(Jl,.pf ZCD),(JS,.pf Xz),(YZ,.pf ZAW),(QT,.pf ZAu),(ZF6,.pf ZZP),(ZBb,.pf ZZQ),(YI,.pf ZTJ),(Yp,.pf ZeX),(Yq,.pf ZEw),(Qh,.pf ZBh),(Xf,.pf ZWI),(ZTm,.pf Zei),(Qi,.pf ZBi),(QU,.pf ZWJ),(ZAK,.pf Zes),(ZCP,.pf ZWK),(Jb,.pf ZGC),(YC,.pf ZGD),(Xg,.pf ZHo),(Qj,.pf ZBj),(Y9,.pf ZA4),(Xh,.pf ZH5),(ZBt,.pf ZLK),(Xr,.pf ZCE),(ZAL,.pf ZEx),(X6,.pf ZLL),(Ya,.pf ZAX),(ZBT,.pf ZTL),(Xx,.pf ZTM),(ZBJ,.pf Ze3),(ZGR,.pf ZTN),(JW,.pf ZBk),(Jc,.pf ZGE),(JT,.pf X0),(J3,.pf ZA5),(ZAM,.pf ZE6),(JX,.pf ZBl),(ZGS,.pf ZTO),(ZF7,.pf ZZR),(ZAN,.pf ZE7),(Jm,.pf ZCF),(ZOR,.pf ZZS),(XV,.pf ZBm),(J8,.pf ZLM),(ZGT,.pf ZTP),(ZDM,.pf ZQi),(ZIl,.pf ZWh),(ZGU,.pf ZTQ),(ZAk,.pf ZGF),(ZIm,.pf ZWk),(J1,.pf ZE8),(ZAl,.pf ZWl),(ZDN,.pf ZQl),(X7,.pf ZLN),(Yr,.pf ZE9),(Xs,.pf ZCG)]
theorem Zv1:Zmc Proofs.Tryz.prog tabL:=⟨⟨Proofs.Tryz.call3,_,_,_,Proofs.Tryz.func3,ZGz⟩,⟨⟨Proofs.Tryz.call9,_,_,_,Proofs.Tryz.func9,ZTp⟩,⟨⟨Proofs.Tryz.call10,_,_,_,Proofs.Tryz.func10,ZTr⟩,⟨⟨Proofs.Tryz.call11,_,_,_,Proofs.Tryz.func11,ZRP⟩,⟨⟨Proofs.Tryz.call12,_,_,_,Proofs.Tryz.func12,ZVQ⟩,⟨⟨Proofs.Tryz.call13,_,_,_,Proofs.Tryz.func13,ZG1⟩,⟨⟨Proofs.Tryz.call14,_,_,_,Proofs.Tryz.func14,Zms⟩,⟨⟨Proofs.Tryz.call15,_,_,_,Proofs.Tryz.func15,ZRb⟩,⟨⟨Proofs.Tryz.call16,_,_,_,Proofs.Tryz.func16,ZpB⟩,⟨⟨Proofs.Tryz.call17,_,_,_,Proofs.Tryz.func17,ZVS⟩,⟨⟨Proofs.Tryz.call18,_,_,_,Proofs.Tryz.func18,ZGW⟩,⟨⟨Proofs.Tryz.call19,_,_,_,Proofs.Tryz.func19,Zmu⟩,⟨⟨Proofs.Tryz.call20,_,_,_,Proofs.Tryz.func20,ZTt⟩,⟨⟨Proofs.Tryz.call21,_,_,_,Proofs.Tryz.func21,ZdP⟩,⟨⟨Proofs.Tryz.call22,_,_,_,Proofs.Tryz.func22,ZLd⟩,⟨⟨Proofs.Tryz.call23,_,_,_,Proofs.Tryz.func23,ZRn⟩,⟨⟨Proofs.Tryz.call24,_,_,_,Proofs.Tryz.func24,ZFc⟩,⟨⟨Proofs.Tryz.call46,_,_,_,Proofs.Tryz.func46,Zmw⟩,⟨⟨Proofs.Tryz.call69,_,_,_,Proofs.Tryz.func69,ZTv⟩,⟨⟨Proofs.Tryz.call78,_,_,_,Proofs.Tryz.func78,ZkB⟩,⟨⟨Proofs.Tryz.call79,_,_,_,Proofs.Tryz.func79,ZVi⟩,⟨⟨Proofs.Tryz.call80,_,_,_,Proofs.Tryz.func80,ZRu⟩,⟨⟨Proofs.Tryz.call81,_,_,_,Proofs.Tryz.func81,ZRw⟩,⟨⟨Proofs.Tryz.call82,_,_,_,Proofs.Tryz.func82,ZRy⟩,⟨⟨Proofs.Tryz.call83,_,_,_,Proofs.Tryz.func83,ZFe⟩,⟨⟨Proofs.Tryz.call84,_,_,_,Proofs.Tryz.func84,ZTx⟩,⟨⟨Proofs.Tryz.call85,_,_,_,Proofs.Tryz.func85,Zmy⟩,⟨⟨Proofs.Tryz.call86,_,_,_,Proofs.Tryz.func86,ZTz⟩,⟨⟨Proofs.Tryz.call87,_,_,_,Proofs.Tryz.func87,ZR0⟩,⟨⟨Proofs.Tryz.call88,_,_,_,Proofs.Tryz.func88,Zgk⟩,⟨⟨Proofs.Tryz.call89,_,_,_,Proofs.Tryz.func89,ZPB⟩,⟨⟨Proofs.Tryz.call90,_,_,_,Proofs.Tryz.func90,ZkD⟩,⟨⟨Proofs.Tryz.call91,_,_,_,Proofs.Tryz.func91,ZR2⟩,⟨⟨Proofs.Tryz.call92,_,_,_,Proofs.Tryz.func92,ZR4⟩,⟨⟨Proofs.Tryz.call93,_,_,_,Proofs.Tryz.func93,ZpD⟩,⟨⟨Proofs.Tryz.call94,_,_,_,Proofs.Tryz.func94,ZR6⟩,⟨⟨Proofs.Tryz.call95,_,_,_,Proofs.Tryz.func95,Zdj⟩,⟨⟨Proofs.Tryz.call96,_,_,_,Proofs.Tryz.func96,ZJW⟩,⟨⟨Proofs.Tryz.call97,_,_,_,Proofs.Tryz.func97,ZT1⟩,⟨⟨Proofs.Tryz.call98,_,_,_,Proofs.Tryz.func98,ZkN⟩,⟨⟨Proofs.Tryz.call99,_,_,_,Proofs.Tryz.func99,Zgm⟩,⟨⟨Proofs.Tryz.call100,_,_,_,Proofs.Tryz.func100,Zm0⟩,⟨⟨Proofs.Tryz.call101,_,_,_,Proofs.Tryz.func101,ZZ9⟩,⟨⟨Proofs.Tryz.call102,_,_,_,Proofs.Tryz.func102,Zm2⟩,⟨⟨Proofs.Tryz.call103,_,_,_,Proofs.Tryz.func103,ZT8⟩,⟨⟨Proofs.Tryz.call104,_,_,_,Proofs.Tryz.func104,ZUA⟩,⟨⟨Proofs.Tryz.call105,_,_,_,Proofs.Tryz.func105,ZUC⟩,⟨⟨Proofs.Tryz.call106,_,_,_,Proofs.Tryz.func106,Zg3⟩,⟨⟨Proofs.Tryz.call107,_,_,_,Proofs.Tryz.func107,ZUE⟩,⟨⟨Proofs.Tryz.call108,_,_,_,Proofs.Tryz.func108,ZR8⟩,⟨⟨Proofs.Tryz.call109,_,_,_,Proofs.Tryz.func109,ZkP⟩,⟨⟨Proofs.Tryz.call110,_,_,_,Proofs.Tryz.func110,ZXs⟩,⟨⟨Proofs.Tryz.call111,_,_,_,Proofs.Tryz.func111,ZXu⟩,⟨⟨Proofs.Tryz.call112,_,_,_,Proofs.Tryz.func112,ZUI⟩,⟨⟨Proofs.Tryz.call113,_,_,_,Proofs.Tryz.func113,ZSA⟩,⟨⟨Proofs.Tryz.call114,_,_,_,Proofs.Tryz.func114,ZNA⟩,⟨⟨Proofs.Tryz.call115,_,_,_,Proofs.Tryz.func115,ZSC⟩,⟨⟨Proofs.Tryz.call116,_,_,_,Proofs.Tryz.func116,ZSE⟩,⟨⟨Proofs.Tryz.call117,_,_,_,Proofs.Tryz.func117,ZPv⟩,⟨⟨Proofs.Tryz.call118,_,_,_,Proofs.Tryz.func118,ZFg⟩,⟨⟨Proofs.Tryz.call147,_,_,_,Proofs.Tryz.func147,Zd6⟩,⟨⟨Proofs.Tryz.call157,_,_,_,Proofs.Tryz.func157,ZX6⟩,⟨⟨Proofs.Tryz.call166,_,_,_,Proofs.Tryz.func166,Zd8⟩,⟨⟨Proofs.Tryz.call167,_,_,_,Proofs.Tryz.func167,ZkR⟩,⟨⟨Proofs.Tryz.call168,_,_,_,Proofs.Tryz.func168,ZkT⟩,⟨⟨Proofs.Tryz.call169,_,_,_,Proofs.Tryz.func169,ZWG⟩,⟨⟨Proofs.Tryz.call170,_,_,_,Proofs.Tryz.func170,ZP3⟩,⟨⟨Proofs.Tryz.call171,_,_,_,Proofs.Tryz.func171,ZUT⟩,⟨⟨Proofs.Tryz.call172,_,_,_,Proofs.Tryz.func172,ZSQ⟩,⟨⟨Proofs.Tryz.call173,_,_,_,Proofs.Tryz.func173,ZSS⟩,⟨⟨Proofs.Tryz.call174,_,_,_,Proofs.Tryz.func174,ZSU⟩,⟨⟨Proofs.Tryz.call175,_,_,_,Proofs.Tryz.func175,ZNg⟩,⟨⟨Proofs.Tryz.call176,_,_,_,Proofs.Tryz.func176,ZkV⟩,⟨⟨Proofs.Tryz.call177,_,_,_,Proofs.Tryz.func177,ZeS⟩,⟨⟨Proofs.Tryz.call178,_,_,_,Proofs.Tryz.func178,ZP8⟩,⟨⟨Proofs.Tryz.call180,_,_,_,Proofs.Tryz.func180,ZSW⟩,⟨⟨Proofs.Tryz.call181,_,_,_,Proofs.Tryz.func181,ZGf⟩,⟨⟨Proofs.Tryz.call182,_,_,_,Proofs.Tryz.func182,ZHa⟩,⟨⟨Proofs.Tryz.call183,_,_,_,Proofs.Tryz.func183,ZJ7⟩,⟨⟨Proofs.Tryz.call184,_,_,_,Proofs.Tryz.func184,Zm4⟩,⟨⟨Proofs.Tryz.call185,_,_,_,Proofs.Tryz.func185,Zm6⟩,⟨⟨Proofs.Tryz.call186,_,_,_,Proofs.Tryz.func186,ZhN⟩,⟨⟨Proofs.Tryz.call187,_,_,_,Proofs.Tryz.func187,ZpF⟩,⟨⟨Proofs.Tryz.call188,_,_,_,Proofs.Tryz.func188,ZUV⟩,⟨⟨Proofs.Tryz.call189,_,_,_,Proofs.Tryz.func189,ZQF⟩,⟨⟨Proofs.Tryz.call190,_,_,_,Proofs.Tryz.func190,Zkh⟩,⟨⟨Proofs.Tryz.call191,_,_,_,Proofs.Tryz.func191,ZpH⟩,⟨⟨Proofs.Tryz.call192,_,_,_,Proofs.Tryz.func192,ZQH⟩,⟨⟨Proofs.Tryz.call193,_,_,_,Proofs.Tryz.func193,Zks⟩,⟨⟨Proofs.Tryz.call194,_,_,_,Proofs.Tryz.func194,ZpJ⟩,⟨⟨Proofs.Tryz.call195,_,_,_,Proofs.Tryz.func195,Zk4⟩,⟨⟨Proofs.Tryz.call196,_,_,_,Proofs.Tryz.func196,ZWM⟩,⟨⟨Proofs.Tryz.call197,_,_,_,Proofs.Tryz.func197,ZWO⟩,⟨⟨Proofs.Tryz.call198,_,_,_,Proofs.Tryz.func198,ZYN⟩,⟨⟨Proofs.Tryz.call199,_,_,_,Proofs.Tryz.func199,ZQJ⟩,⟨⟨Proofs.Tryz.call200,_,_,_,Proofs.Tryz.func200,ZNo⟩,⟨⟨Proofs.Tryz.call213,_,_,_,Proofs.Tryz.func213,ZYP⟩,⟨⟨Proofs.Tryz.call214,_,_,_,Proofs.Tryz.func214,Zay⟩,⟨⟨Proofs.Tryz.call215,_,_,_,Proofs.Tryz.func215,ZSp⟩,⟨⟨Proofs.Tryz.call216,_,_,_,Proofs.Tryz.func216,ZUh⟩,⟨⟨Proofs.Tryz.call221,_,_,_,Proofs.Tryz.func221,Za0⟩,⟨⟨Proofs.Tryz.call234,_,_,_,Proofs.Tryz.func234,ZH7⟩,⟨⟨Proofs.Tryz.call237,_,_,_,Proofs.Tryz.func237,Zhm⟩,⟨⟨Proofs.Tryz.call238,_,_,_,Proofs.Tryz.func238,Zho⟩,⟨⟨Proofs.Tryz.call239,_,_,_,Proofs.Tryz.func239,ZpL⟩,⟨⟨Proofs.Tryz.call240,_,_,_,Proofs.Tryz.func240,Zhr⟩,⟨⟨Proofs.Tryz.call241,_,_,_,Proofs.Tryz.func241,ZQN⟩,⟨⟨Proofs.Tryz.call242,_,_,_,Proofs.Tryz.func242,ZWc⟩,⟨⟨Proofs.Tryz.call243,_,_,_,Proofs.Tryz.func243,ZGl⟩,⟨⟨Proofs.Tryz.call244,_,_,_,Proofs.Tryz.func244,ZNz⟩,⟨⟨Proofs.Tryz.call245,_,_,_,Proofs.Tryz.func245,ZUj⟩,⟨⟨Proofs.Tryz.call246,_,_,_,Proofs.Tryz.func246,ZQV⟩,⟨⟨Proofs.Tryz.call247,_,_,_,Proofs.Tryz.func247,Zht⟩,⟨⟨Proofs.Tryz.call248,_,_,_,Proofs.Tryz.func248,Zm8⟩,⟨⟨Proofs.Tryz.call249,_,_,_,Proofs.Tryz.func249,ZUl⟩,⟨⟨Proofs.Tryz.call250,_,_,_,Proofs.Tryz.func250,ZS0⟩,⟨⟨Proofs.Tryz.call251,_,_,_,Proofs.Tryz.func251,ZnA⟩,⟨⟨Proofs.Tryz.call252,_,_,_,Proofs.Tryz.func252,ZQh⟩,⟨⟨Proofs.Tryz.call270,_,_,_,Proofs.Tryz.func270,Zba⟩,⟨⟨Proofs.Tryz.call271,_,_,_,Proofs.Tryz.func271,Zh6⟩,⟨⟨Proofs.Tryz.call272,_,_,_,Proofs.Tryz.func272,Ze5⟩,⟨⟨Proofs.Tryz.call273,_,_,_,Proofs.Tryz.func273,ZlG⟩,⟨⟨Proofs.Tryz.call274,_,_,_,Proofs.Tryz.func274,Zh8⟩,⟨⟨Proofs.Tryz.call275,_,_,_,Proofs.Tryz.func275,ZWj⟩,⟨⟨Proofs.Tryz.call276,_,_,_,Proofs.Tryz.func276,ZlI⟩,⟨⟨Proofs.Tryz.call277,_,_,_,Proofs.Tryz.func277,ZUn⟩,⟨⟨Proofs.Tryz.call278,_,_,_,Proofs.Tryz.func278,ZlK⟩,⟨⟨Proofs.Tryz.call288,_,_,_,Proofs.Tryz.func288,ZfS⟩,⟨⟨Proofs.Tryz.call289,_,_,_,Proofs.Tryz.func289,Zbv⟩,⟨⟨Proofs.Tryz.call290,_,_,_,Proofs.Tryz.func290,ZUp⟩,⟨⟨Proofs.Tryz.call291,_,_,_,Proofs.Tryz.func291,ZTC⟩,trivial⟩⟩⟩⟩⟩⟩⟩⟩⟩⟩⟩⟩⟩⟩⟩⟩⟩⟩⟩⟩⟩⟩⟩⟩⟩⟩⟩⟩⟩⟩⟩⟩⟩⟩⟩⟩⟩⟩⟩⟩⟩⟩⟩⟩⟩⟩⟩⟩⟩⟩⟩⟩⟩⟩⟩⟩⟩⟩⟩⟩⟩⟩⟩⟩⟩⟩⟩⟩⟩⟩⟩⟩⟩⟩⟩⟩⟩⟩⟩⟩⟩⟩⟩⟩⟩⟩⟩⟩⟩⟩⟩⟩⟩⟩⟩⟩⟩⟩⟩⟩⟩⟩⟩⟩⟩⟩⟩⟩⟩⟩⟩⟩⟩⟩⟩⟩⟩⟩⟩⟩⟩⟩⟩⟩⟩⟩⟩⟩⟩⟩⟩
end Go.Q15
