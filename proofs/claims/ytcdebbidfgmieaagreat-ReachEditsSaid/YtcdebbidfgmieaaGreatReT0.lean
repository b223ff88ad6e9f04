/- A part of the proof: handle.Sort. No condition. -/
import Derived.Lib.OwnBridge
import Derived.Shelf.SlSortCmp.NoneTotal
import Derived.Shelf.SlicesE.Compact
import Derived.Shelf.SlicesE.Clone
import Derived.WalkKit
import Derived.Test.YtcdebbidfgmieaaGreatProg
import Derived.Laws.Bits64b
namespace Go.Proofs
open Go.Shelf
def Tryz.sortL_ren : Go.Shelf.Ren := ⟨fun | 6 => 76 | 15 => 108 | 14 => 107 | 28 => 130 | 29 => 131 | 20 => 122 | 21 => 123 | 22 => 124 | 23 => 125 | 24 => 126 | 25 => 127 | 26 => 128 | 27 => 129 | 46 => 142 | 47 => 143 | 48 => 144 | 49 => 145 | 50 => 146 | 57 => 152 | n => n, fun | 22 => 37 | 24 => 32 | 25 => 155 | 3 => 3 | 39 => 153 | 0 => 0 | 53 => 224 | 55 => 31 | 4 => 4 | 46 => 218 | 45 => 217 | 50 => 176 | 5 => 5 | 9 => 9 | 66 => 234 | 70 => 238 | 76 => 245 | 77 => 182 | n => n, fun | n => n⟩
theorem Tryz.sortL : Go.Proofs.SlLaysF.n6 Tryz.prog Tryz.sortL_ren := {
  mixed := by kernel_rfl
  f6 := ⟨Tryz.f76.name, by decide, Tryz.func76.trans (congrArg some (by kernel_rfl))⟩
  f14 := ⟨Tryz.f107.name, by decide, Tryz.func107.trans (congrArg some (by kernel_rfl))⟩
  f15 := Tryz.func108.trans (congrArg some (by kernel_rfl))
  f20 := ⟨Tryz.f122.name, by decide, Tryz.func122.trans (congrArg some (by kernel_rfl))⟩
  f21 := ⟨Tryz.f123.name, by decide, Tryz.func123.trans (congrArg some (by kernel_rfl))⟩
  f22 := ⟨Tryz.f124.name, by decide, Tryz.func124.trans (congrArg some (by kernel_rfl))⟩
  f23 := ⟨Tryz.f125.name, by decide, Tryz.func125.trans (congrArg some (by kernel_rfl))⟩
  f24 := ⟨Tryz.f126.name, by decide, Tryz.func126.trans (congrArg some (by kernel_rfl))⟩
  f25 := ⟨Tryz.f127.name, by decide, Tryz.func127.trans (congrArg some (by kernel_rfl))⟩
  f26 := ⟨Tryz.f128.name, by decide, Tryz.func128.trans (congrArg some (by kernel_rfl))⟩
  f27 := ⟨Tryz.f129.name, by decide, Tryz.func129.trans (congrArg some (by kernel_rfl))⟩
  f28 := Tryz.func130.trans (congrArg some (by kernel_rfl))
  f29 := Tryz.func131.trans (congrArg some (by kernel_rfl))
  f46 := ⟨Tryz.f142.name, by decide, Tryz.func142.trans (congrArg some (by kernel_rfl))⟩
  f47 := Tryz.func143.trans (congrArg some (by kernel_rfl))
  f48 := Tryz.func144.trans (congrArg some (by kernel_rfl))
  f49 := ⟨Tryz.f145.name, by decide, Tryz.func145.trans (congrArg some (by kernel_rfl))⟩
  f50 := ⟨Tryz.f146.name, by decide, Tryz.func146.trans (congrArg some (by kernel_rfl))⟩
  f57 := ⟨Tryz.f152.name, by decide, Tryz.func152.trans (congrArg some (by kernel_rfl))⟩
  t0 := Tryz.underlying0
  a0 := Tryz.isAgg0
  z0 := Tryz.sizeOf0
  v0 := Tryz.zeroValue0
  t3 := Tryz.underlying3
  a3 := Tryz.isAgg3
  z3 := Tryz.sizeOf3
  v3 := Tryz.zeroValue3
  t4 := Tryz.underlying4
  a4 := Tryz.isAgg4
  z4 := Tryz.sizeOf4
  v4 := Tryz.zeroValue4
  t5 := Tryz.underlying5
  a5 := Tryz.isAgg5
  z5 := Tryz.sizeOf5
  v5 := Tryz.zeroValue5
  t9 := Tryz.underlying9
  a9 := Tryz.isAgg9
  z9 := Tryz.sizeOf9
  v9 := Tryz.zeroValue9
  t22 := Tryz.underlying37
  a22 := Tryz.isAgg37
  z22 := Tryz.sizeOf37
  v22 := Tryz.zeroValue37
  a24 := Tryz.isAgg32
  z24 := Tryz.sizeOf32
  t25 := Tryz.underlying155
  a25 := Tryz.isAgg155
  z25 := Tryz.sizeOf155
  v25 := Tryz.zeroValue155
  t39 := Tryz.underlying153
  a39 := Tryz.isAgg153
  z39 := Tryz.sizeOf153
  v39 := Tryz.zeroValue153
  t45 := Tryz.underlying217
  a45 := Tryz.isAgg217
  z45 := Tryz.sizeOf217
  v45 := Tryz.zeroValue217
  t46 := Tryz.underlying218
  a46 := Tryz.isAgg218
  z46 := Tryz.sizeOf218
  v46 := Tryz.zeroValue218
  t50 := Tryz.underlying176
  a50 := Tryz.isAgg176
  z50 := Tryz.sizeOf176
  v50 := Tryz.zeroValue176
  t53 := Tryz.underlying224
  a53 := Tryz.isAgg224
  z53 := Tryz.sizeOf224
  v53 := Tryz.zeroValue224
  t55 := Tryz.underlying31
  a55 := Tryz.isAgg31
  z55 := Tryz.sizeOf31
  v55 := Tryz.zeroValue31
  t66 := Tryz.underlying234
  a66 := Tryz.isAgg234
  z66 := Tryz.sizeOf234
  v66 := Tryz.zeroValue234
  t70 := Tryz.underlying238
  a70 := Tryz.isAgg238
  z70 := Tryz.sizeOf238
  v70 := Tryz.zeroValue238
  t76 := Tryz.underlying245
  a76 := Tryz.isAgg245
  z76 := Tryz.sizeOf245
  v76 := Tryz.zeroValue245
  t77 := Tryz.underlying182
  a77 := Tryz.isAgg182
  z77 := Tryz.sizeOf182
  v77 := Tryz.zeroValue182 }
def Tryz.compactL_ren : Go.Shelf.Ren := ⟨fun | 43 => 78 | n => n, fun | 22 => 37 | 23 => 32 | 3 => 3 | 4 => 4 | 0 => 0 | n => n, fun | n => n⟩
theorem Tryz.compactL : Go.Proofs.SlLaysE.n43 Tryz.prog Tryz.compactL_ren := {
  mixed := by kernel_rfl
  f43 := ⟨Tryz.f78.name, by decide, Tryz.func78.trans (congrArg some (by kernel_rfl))⟩
  t0 := Tryz.underlying0
  a0 := Tryz.isAgg0
  z0 := Tryz.sizeOf0
  v0 := Tryz.zeroValue0
  t3 := Tryz.underlying3
  a3 := Tryz.isAgg3
  z3 := Tryz.sizeOf3
  v3 := Tryz.zeroValue3
  t4 := Tryz.underlying4
  a4 := Tryz.isAgg4
  z4 := Tryz.sizeOf4
  v4 := Tryz.zeroValue4
  t22 := Tryz.underlying37
  a22 := Tryz.isAgg37
  z22 := Tryz.sizeOf37
  v22 := Tryz.zeroValue37
  a23 := Tryz.isAgg32
  z23 := Tryz.sizeOf32 }
def Tryz.cloneHL_ren : Go.Shelf.Ren := ⟨fun | 41 => 75 | n => n, fun | 22 => 37 | 23 => 32 | 4 => 4 | n => n, fun | n => n⟩
theorem Tryz.cloneHL : Go.Proofs.SlLaysE0.n41 Tryz.prog Tryz.cloneHL_ren := {
  mixed := by kernel_rfl
  f41 := ⟨Tryz.f75.name, by decide, Tryz.func75.trans (congrArg some (by kernel_rfl))⟩
  t4 := Tryz.underlying4
  a4 := Tryz.isAgg4
  z4 := Tryz.sizeOf4
  v4 := Tryz.zeroValue4
  t22 := Tryz.underlying37
  a22 := Tryz.isAgg37
  z22 := Tryz.sizeOf37
  v22 := Tryz.zeroValue37 }
end Go.Proofs
namespace Go.Q15
open Go Go.Shelf Go.RowKit Go.Lib Go.Sort Go.Proofs
set_option maxRecDepth 100000

section
variable {P : Program} {ρ : Ren}
set_option maxHeartbeats 2000000 in
set_option maxRecDepth 100000 in
/-- slices.Clone of a slice with whatever address. -/
theorem clone_anyH (L : SlLaysE0.n41 P ρ) (i0 : TypeInfo) (z : Value) (size bytes : Nat) (hi : P.info? (ρ.t 23) = some i0) (hz0 : i0.zero = some z) (hz1 : i0.size = size) (hz2 : i0.bytes = bytes) (hzs : z.cells.size = size) (hsz : 0 < size)
    (z23 : ∀ w, (Go.sizeOf (ρ.t 23)).run P w = .ok size w) (ad : Addr) (n c : Nat) (news : List Value) (w : World) (hl : news.length = n * size) (hn : n ≤ maxLen) (hbig : n * bytes ≤ 140737488355328)
    (hc : ∀ j u, news[j]? = some u → w.cell? (ad.add j) = some u) (h1 : ∀ u ∈ news, u.oneCell' = true) :
    Calls P (ρ.f 41) #[.slice (some ad) n c] w fun e w' => ∃ v', e = .returned v' ∧ w'.ownsRow w.heap.size (ρ.t 23) size v' n news ∧ Below w.heap.size w w' := by
  have mixed := L.mixed; have t4 := L.t4; have a4 := L.a4; have z4 := L.z4; have v4 := L.v4; have t22 := L.t22; have a22 := L.a22; have z22 := L.z22; have v22 := L.v22
  have q22 : ∀ (w : World) (a : Option Addr) (n c n' c' : Nat), (binOp .eql (ρ.t 22) (.slice a n c) (.slice none n' c')).run P w = .ok (.bool a.isNone) w := fun w a n c n' c' => Lib.run_eql_slice_nil w _ _ a n c n' c' L.t22
  have u22 : ∀ w, Sem.run P (underlying (ρ.t 22)) w = .ok (TypeDesc.slice (ρ.t 23)) w := run_underlying t22
  have A : Aside (∀ j u, news[j]? = some u → w.cell? (ad.add j) = some u) := hc
  clear hc
  obtain ⟨_, _, FG⟩ := L.f41
  go_enter FG, SlBodyN.n41_ntmps ρ
  go_wp2_with (at_builtin; refine wpList_append_own _ rfl _ _ (ρ.t 22) rfl w.heap.size (ρ.t 23) i0 z size bytes t22 hi hz0 hz1 hz2 hzs hsz _ _ _ rfl (World.ownsRow_made w #[] 0 (Nat.le_refl _) (Nat.zero_le _) (by simp)) ad n c news rfl ?qc1 ?qc2 ?qc3 ?qc4 ?qc5 ?qc6 ?_)
  case qc1 => exact hl
  case qc2 =>
    intro j u hj
    exact Lib.cell?_alloc_some _ (A.out j u hj)
  case qc3 => exact h1
  case qc4 => rw [Nat.zero_add]; exact hn
  case qc5 => rw [Nat.zero_add]; exact hbig
  case qc6 => simp
  intro v' w1 hown hgrow hnil
  go_wp2
  go_ret
  refine ⟨v', rfl, by simpa using hown, ?_⟩
  exact ((Below.refl _ w).alloc (Nat.le_refl _) _).grown hgrow (by simp) (by intro k hk; simp [Value.ownBlock] at hk; omega)
end
abbrev H64 := Fin 18446744073709551616
def encH (h : H64) : Value := .int .u64 (h.val : Int)
/-- The comparison of handles. -/
def cfH (x y : H64) : Int := if x.val % 65536 ≠ y.val % 65536 then (if x.val % 65536 < y.val % 65536 then -1 else 1) else if x.val < y.val then -1 else if y.val < x.val then 1 else 0

theorem andH (x : Nat) (hx : x < 18446744073709551616) : bits BinOp.and IntKind.u64 (x : Int) 65535 = ((x % 65536 : Nat) : Int) := by
  have := bits_and_u64_nat x 65535 hx (by decide)
  rw [Nat.and_two_pow_sub_one_eq_mod x 16] at this
  exact this

set_option maxHeartbeats 2000000 in
theorem closureH (x y : H64) (W : World) : Calls Tryz.prog 77 #[encH x, encH y] W fun e w' => e = .returned (.int .i64 (cfH x y)) ∧ ∃ q, w' = W.drewN q := by
  have a1 := andH x.val x.isLt
  have a2 := andH y.val y.isLt
  unfold cfH encH
  generalize x.val = x at *
  generalize y.val = y at *
  generalize x % 65536 = m at *
  generalize y % 65536 = n at *
  go_enter Tryz.func77, Tryz.ntmps77
  go_wp2
  all_goals go_ret
  all_goals first | exact ⟨rfl, 0, rfl⟩ | (exfalso; simp at *; omega)
theorem cmpReadsH (blk off size : Nat) (w : World) : CmpReads Tryz.prog 77 #[] encH cfH blk off size w := fun _ _ _ _ x y => closureH x y _

def ltB (x y : H64) : Bool := decide (x.val % 65536 < y.val % 65536 ∨ x.val % 65536 = y.val % 65536 ∧ x.val < y.val)
theorem ltB_iff {x y : H64} : ltB x y = true ↔ (x.val % 65536 < y.val % 65536 ∨ x.val % 65536 = y.val % 65536 ∧ x.val < y.val) := by simp [ltB]
theorem ltB_no {x y : H64} : ltB x y = false ↔ ¬ (x.val % 65536 < y.val % 65536 ∨ x.val % 65536 = y.val % 65536 ∧ x.val < y.val) := by rw [← ltB_iff]; simp
theorem ltOfH (x y : H64) : ltOf cfH x y = ltB x y := by
  rw [Bool.eq_iff_iff, ltB_iff]
  unfold ltOf cfH
  simp only [decide_eq_true_eq]
  repeat' split
  all_goals omega
theorem swoH : SWO (ltOf cfH) where
  irrefl x := by rw [ltOfH, ltB_no]; omega
  trans x y z h1 h2 := by rw [ltOfH, ltB_iff] at *; omega
  ntrans x y z h1 h2 := by rw [ltOfH, ltB_no] at *; omega
theorem totH (x y : H64) (h1 : ltOf cfH x y = false) (h2 : ltOf cfH y x = false) : x = y := by
  rw [ltOfH, ltB_no] at *
  apply Fin.ext; omega
def leH (x y : H64) : Bool := !ltOf cfH y x

theorem grdH : GuardAt Tryz.prog 32 encH := fun op a b x y w => GuardAt.int Tryz.prog 32 .u64 op a b x.val y.val w
theorem decH (x y : H64) : decide (((x.val : Nat) : Int) = ((y.val : Nat) : Int)) = decide (x = y) := by
  rw [Bool.eq_iff_iff, decide_eq_true_eq, decide_eq_true_eq, Fin.ext_iff]; omega
theorem eqlH : EqlAt Tryz.prog 32 encH (fun x y => decide (x = y)) := ⟨fun x y w => by
  show _ = Result.ok (Value.bool (decide (x = y))) w
  rw [← decH]; exact (EqlAt.intD Tryz.prog 32 .u64).1 x.val y.val w, grdH⟩
theorem neqH : NeqAt Tryz.prog 32 encH (fun x y => decide (x = y)) := ⟨fun x y w => by
  show _ = Result.ok (Value.bool (!decide (x = y))) w
  rw [← decH]; exact (NeqAt.intD Tryz.prog 32 .u64).1 x.val y.val w, grdH⟩

set_option maxHeartbeats 2000000 in
theorem hCompact_nil (W : World) : Calls Tryz.prog 78 #[.slice none 0 0] W fun e w' => e = .returned (.slice none 0 0) ∧ w' = W := by
  go_enter Tryz.func78, Tryz.ntmps78
  go_wp2
  go_ret
  exact ⟨rfl, rfl⟩

theorem hSort_nil (W : World) : Calls Tryz.prog 45 #[.slice none 0 0] W fun e w' => e = .returned (.slice none 0 0) ∧ w' = W := by
  have h1 := fun w => AnyE.slices_Clone_nil Tryz.cloneHL 0 0 w
  have h2 := fun w => AnyF.slices_SortFunc_none (P := Tryz.prog) (ρ := Tryz.sortL_ren) { Tryz.sortL with } none 0 (.func (.func 77) #[] #[]) w
  have h3 := hCompact_nil
  change ∀ w, Calls Tryz.prog 75 _ _ _ at h1
  change ∀ w, Calls Tryz.prog 76 _ _ _ at h2
  go_enter Tryz.func45, Tryz.ntmps45
  go_wp2_with (first | (go_at_call 75; refine (h1 _).mono ?_; rintro e w' ⟨rfl, rfl⟩) | (go_at_call 76; refine (h2 _).mono ?_; rintro e w' ⟨rfl, rfl⟩) | (go_at_call 78; refine (h3 _).mono ?_; rintro e w' ⟨rfl, rfl⟩))
  go_ret
  exact ⟨rfl, rfl⟩

theorem below_growH {a w : World} (h : Below a.heap.size a w) (os : Array Obj) : Below a.heap.size a (grow w os) :=
  ⟨h.os, h.tape, h.output, by have := h.size; simp [grow]; omega, fun k hk => by
    have := h.size
    rw [← h.block k hk]
    show (w.heap ++ os)[k]? = _
    rw [Array.getElem?_append_left (by omega)]⟩
theorem hinfo : ∃ i z, Tryz.prog.info? 32 = some i ∧ i.zero = some z ∧ i.size = 1 ∧ i.bytes = 8 ∧ z.cells.size = 1 := ⟨_, _, rfl, rfl, rfl, rfl, rfl⟩
theorem zeroH (w : World) : (zeroValue 32).run Tryz.prog w = .ok (encH 0) w := Tryz.zeroValue32 w

/-- The handles in ascending order. -/
def srtH (l : List H64) : List H64 := l.mergeSort leH

set_option maxHeartbeats 4000000 in
theorem hSort (ad : Addr) (c : Nat) (l : List H64) (hn : l.Nodup) (h0 : 0 < l.length) (hb : l.length ≤ 1000000000) (W : World) (hc : ∀ j u, (l.map encH)[j]? = some u → W.cell? (ad.add j) = some u) :
    Calls Tryz.prog 45 #[.slice (some ad) l.length c] W fun e w' => ∃ g cap, e = .returned (.slice (some ⟨g, 0, none⟩) l.length cap) ∧ W.heap.size ≤ g ∧ l.length ≤ cap ∧ cap ≤ maxLen ∧ Below W.heap.size W w' ∧ Holds encH w' g 0 (srtH l).toArray := by
  obtain ⟨i0, z, k1, k2, k3, k4, k5⟩ := hinfo
  have h1 := clone_anyH Tryz.cloneHL i0 z 1 8 k1 k2 k3 k4 k5 (by decide) Tryz.sizeOf32 ad l.length c (l.map encH) W (by simp) (by unfold maxLen; omega) (by omega) hc (fun u hu => by obtain ⟨x, _, rfl⟩ := List.mem_map.1 hu; rfl)
  change Calls Tryz.prog 75 _ _ _ at h1
  clear hc
  go_enter Tryz.func45, Tryz.ntmps45
  go_wp2_with (go_at_call 75; refine h1.mono ?_; rintro e w1 ⟨v', rfl, hown, hbel⟩)
  have hv : v' ≠ .slice none 0 0 := by
    intro e
    rcases hown.2 with ⟨_, hz⟩ | ⟨g, cap, cur, e2, _⟩
    · omega
    · rw [e] at e2; simp at e2
  obtain ⟨g, cap, rfl, hg1, hg2, hnc, hcm, _, hH⟩ := holds_of_ownsRow hown hv
  have eg : ∀ args w, (callFunc 77 args).run Tryz.prog w = .ok (.enter 77 args) w := enters_of Tryz.func77 (by kernel_rfl) rfl
  have h2 := Any.slices_SortFunc_total Tryz.sortL encH (fun _ => rfl) cfH swoH 77 #[] g 0 cap l.toArray w1 eg (cmpReadsH g 0 l.toArray.size w1).lays hH hg2 (by simp; omega) totH
  change Calls Tryz.prog 76 _ _ _ at h2
  obtain ⟨d, hd⟩ : ∃ d, d = (srtH l).toArray := ⟨_, rfl⟩
  have hd2 : (l.toArray.toList.mergeSort fun x y => !(ltOf cfH) y x).toArray = d := hd.symm
  have hds : d.size = l.length := by rw [hd]; simp [srtH, List.length_mergeSort]
  rw [hd2] at h2
  have els : l.toArray.size = l.length := by simp
  rw [els] at h2
  have hnd : d.toList.Nodup := by rw [hd]; exact (List.mergeSort_perm l leH).nodup_iff.2 hn
  refine h2.mono ?_
  rintro e w2 ⟨rfl, n, os, rfl⟩
  have hH2 : Holds encH (sortWorld encH w1 g 0 n d os) g 0 d := holds_sortWorld encH w1 g 0 n l.toArray d os hg2 hH (by rw [hds, els])
  have hB2 : Below W.heap.size W (sortWorld encH w1 g 0 n d os) := by
    have := below_putRow (enc := encH) (q := n) (d := d) hbel hg1
    exact below_growH this os
  generalize sortWorld encH w1 g 0 n d os = w2 at *
  have h3 := AnyE.slices_Compact Tryz.compactL encH (fun _ => rfl) eqlH neqH 0 zeroH g 0 cap d w2 hH2 (by omega) (by omega)
  change Calls Tryz.prog 78 _ _ _ at h3
  have hcu : compactUpTo d d.size = d.toList := by
    rw [compactUpTo_all d d.size (fun j hj => ?_), range_map_get]
    unfold keeps
    rw [decide_eq_true_eq]
    by_cases hj0 : j = 0
    · exact .inl hj0
    · refine .inr fun e => ?_
      have e2 : d.toList[j]'(by simpa using hj) = d.toList[j - 1]'(by simp; omega) := by
        rw [getElem!_pos d j hj, getElem!_pos d (j - 1) (by omega)] at e
        simpa using e
      have := (List.getElem_inj hnd).1 e2
      omega
  rw [hcu] at h3
  simp only [Array.length_toList, Nat.sub_self, List.replicate_zero, List.append_nil, Array.toArray_toList, hds] at h3
  clear hd2 h2 h1
  go_wp2_with (go_at_call 78; refine h3.mono ?_; rintro e w3 ⟨rfl, q, rfl⟩)
  go_ret
  refine ⟨g, cap, rfl, hg1, by omega, hcm, below_putRow hB2 hg1, ?_⟩
  rw [← hd]
  exact holds_putRow encH (Sort.ahead w2 q) g 0 d d (holds_ahead encH w2 q g 0 d hH2) rfl
end Go.Q15
