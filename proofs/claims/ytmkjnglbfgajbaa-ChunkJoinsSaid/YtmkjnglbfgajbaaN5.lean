/- The laws ChunkParts and ChunkJoins give true. No condition. -/
import Derived.Test.YtmkjnglbfgajbaaN3
namespace Go.Q14
set_option linter.unusedVariables false
set_option linter.unusedSimpArgs false
open Go Go.QAbs
set_option maxRecDepth 100000
set_option linter.unusedVariables false
set_option maxHeartbeats 4000000

theorem intercalate_nil (l : List (List UInt8)) : ([] : List UInt8).intercalate l = l.flatten := by
  induction l with
  | nil => rfl
  | cons a l ih =>
    cases l with
    | nil => simp [List.intercalate]
    | cons b l =>
      simp only [List.intercalate, List.intersperse, List.flatten_cons, List.nil_append] at ih ⊢
      rw [ih]

theorem strsOf_map (l : List (List UInt8)) : strsOf (l.map .str) = some l := by
  induction l with
  | nil => rfl
  | cons a l ih => simp only [List.map_cons, strsOf, ih, Option.map_some]

theorem SJoin_c (l : List (List UInt8)) (st : St) (h : l.length ≤ 140737488355328 ∧ l.flatten.length ≤ 140737488355328) : S T F_strings_Join [strsV l, .str []] st = some (.str l.flatten, st) := by
  refine S_base (o := joinO) rfl ?_
  simp only [joinO, strsV, elemsS, elems, Option.bind_some, strsOf_map, intercalate_nil]
  rw [if_pos h]

theorem chunkG_length {s : List UInt8} {g : Int} (h : 1 ≤ g) {i : Nat} (hi : i < g.toNat) : (chunkG s g i).length = (sizeI s.length g i).toNat := by
  have hb := posI_bounds (n := s.length) (g := g) (by omega) (by omega) (i := i + 1) (by omega)
  have hb0 := posI_bounds (n := s.length) (g := g) (by omega) (by omega) (i := i) (by omega)
  have hs := sizeI_nonneg (n := s.length) (g := g) (by omega) (by omega) i
  rw [posI_succ] at hb
  unfold chunkG
  rw [List.length_take, List.length_drop]; omega

theorem chunkG_flatten {s : List UInt8} {g : Int} (h : 1 ≤ g) : ∀ (i : Nat), i ≤ g.toNat → ((List.range i).map (chunkG s g)).flatten = s.take (posI s.length g i).toNat
  | 0, _ => by rw [posI_zero _ _ (by omega)]; simp
  | i + 1, hi => by
    have hb0 := posI_bounds (n := s.length) (g := g) (by omega) (by omega) (i := i) (by omega)
    have hs := sizeI_nonneg (n := s.length) (g := g) (by omega) (by omega) i
    rw [List.range_succ, List.map_append, List.flatten_append, chunkG_flatten h i (by omega), posI_succ, Int.toNat_add hb0.1 hs, List.take_add]
    simp [chunkG]

theorem chunksL_flatten (s : List UInt8) : (chunksL s).flatten = s := by
  unfold chunksL
  split
  · rename_i h; rw [List.length_eq_zero_iff.1 h]; rfl
  · have hp := groupsI_pos (n := s.length) (most := 16) (by omega) (by omega)
    rw [chunkG_flatten hp.1 _ (Nat.le_refl _), posI_all _ _ (by omega)]
    simp

theorem parts (s : List UInt8) (st : St) : S T F_quartolaw14_ChunkParts [.str s] st = some (.bool true, st) := by
  refine s_of rfl (fun A hA => ?_)
  by_cases hb : 3000 < s.length
  · repeat' (first | refine ru_seq ?_ | refine ru_reg ?_ | refine is_mv rfl ?_ | refine is_nil rfl ?_ | refine rk_seq ?_ | refine is_fld rfl rfl ?_ | refine is_ldl rfl rfl ?_ | refine is_callE rfl rfl rfl (works_c _) ?_ | refine is_ixM rfl rfl (by omega) (fun _ => rfl) (fun _ _ => ?_) | refine is_fadr rfl rfl ?_ | refine is_ldc rfl rfl rfl rfl ?_ | refine is_ext rfl rfl ?_ | refine is_lenS rfl ?_ | refine is_lenM rfl ?_ | refine is_lenL rfl ?_ | refine is_lenR rfl ?_ | refine is_lenN rfl ?_ | (refine is_lss rfl rfl (fun _ => ?_) (fun _ => ?_) <;> try (exfalso; omega)) | (refine is_leq rfl rfl (fun _ => ?_) (fun _ => ?_) <;> try (exfalso; omega)) | (refine is_gtr rfl rfl (fun _ => ?_) (fun _ => ?_) <;> try (exfalso; omega)) | (refine is_geq rfl rfl (fun _ => ?_) (fun _ => ?_) <;> try (exfalso; omega)) | (refine is_eql rfl rfl (fun _ => ?_) (fun _ => ?_) <;> try (exfalso; omega)) | (refine is_neq rfl rfl (fun _ => ?_) (fun _ => ?_) <;> try (exfalso; omega)) | (refine is_eqlS rfl rfl (fun _ => ?_) (fun _ => ?_) <;> try contradiction) | (refine is_neqS rfl rfl (fun _ => ?_) (fun _ => ?_) <;> try contradiction) | refine is_pick rfl rfl rfl rfl ?_ | refine is_gT rfl ?_ | refine is_gF rfl rfl ?_ | refine is_gU rfl ?_ | refine is_gFn rfl rfl ?_ | refine is_gUn rfl ?_ | refine ru_iteT rfl ?_ | refine ru_iteF rfl ?_ | refine is_not rfl rfl ?_ | refine is_addS rfl rfl (by omega) ?_ | refine is_subS rfl rfl (by omega) ?_ | refine is_quoS rfl rfl (by omega) ?_ | refine is_remS rfl rfl (by omega) ?_ | refine is_mulS rfl rfl (by omega) ?_ | refine is_cat rfl rfl (by omega) ?_ | refine is_slcS_hi rfl rfl (by omega) ?_ | refine is_slcS_lo rfl rfl (by omega) ?_ | refine is_slcS_lh rfl rfl rfl (by omega) ?_ | refine is_fldA rfl (by decide) rfl ?_ | refine is_build rfl rfl rfl ?_ | refine is_eqs rfl rfl rfl rfl ?_ | refine is_mkf rfl rfl ?_ | refine is_box rfl rfl rfl ?_ | refine is_stb rfl rfl rfl rfl rfl rfl ?_ | refine is_nilck rfl rfl ?_ | refine is_nilckn rfl rfl ?_ | refine is_bslF rfl rfl rfl ?_ | refine is_onil rfl ?_ | refine is_boxnil rfl ?_ | refine is_mkslice rfl rfl (by omega) (by decide) rfl ?_ | refine is_mkmap rfl ?_ | refine is_bslT rfl rfl rfl rfl ?_ | refine is_app1 rfl rfl rfl (by first | rfl | simp) (by first | omega | (simp <;> omega)) (by decide) rfl rfl rfl ?_ | refine is_cstr rfl ?_ | refine ru_skip ?_ | refine ru_ret ?_ | refine ru_exit ?_ | refine ru_block ?_ | refine rk_nil ?_ | refine rk_seq_ret ?_ | refine rk_seq_ex ?_ | refine rk_blk ?_ | refine rk_blk_ret ?_ | refine rk_blk_eq rfl ?_ | refine rk_blk_ne rfl ?_ | refine rk_inv ?_ | refine rk_inv_ret ?_ | refine rk_inv_ex ?_)
    all_goals refine end_st hA (by first | exact .inl rfl | exact .inr rfl) rfl rfl rfl rfl ?_
    all_goals rfl
  have hch := Chunks_c s ⟨A, false, []⟩ (by omega)
  have he := Even_ok s.length 16 ⟨A, false, []⟩ (by omega)
  have hfl := chunksL_flatten s
  have hjo := fun h => SJoin_c (chunksL s) ⟨A, false, []⟩ h
  rw [hfl] at hjo
  by_cases hz : s.length = 0
  · have hs : s = [] := List.length_eq_zero_iff.1 hz
    subst hs
    have e1 : chunksL [] = [] := by unfold chunksL; exact if_pos rfl
    have e2 : sizesI (([] : List UInt8).length : Int) 16 = [] := sizesI_zero 16
    rw [e1] at hch hjo
    rw [e2] at he
    have e3 : ([] : List (List UInt8)).length = 0 := rfl
    have e4 : ([] : List Int).length = 0 := rfl
    have e5 : ([] : List UInt8).length = 0 := rfl
    have hjo := hjo ⟨by omega, by omega⟩
    repeat' (first | refine ru_seq ?_ | refine ru_reg ?_ | refine is_mv rfl ?_ | refine is_nil rfl ?_ | refine rk_seq ?_ | refine is_fld rfl rfl ?_ | refine is_ldl rfl rfl ?_ | refine is_callE rfl rfl rfl (works_c _) ?_ | refine is_callE rfl rfl rfl (hch) ?_ | refine is_callE rfl rfl rfl (he) ?_ | refine is_callE rfl rfl rfl (hjo) ?_ | refine is_ixM rfl rfl (by omega) (fun _ => rfl) (fun _ _ => ?_) | refine is_fadr rfl rfl ?_ | refine is_ldc rfl rfl rfl rfl ?_ | refine is_ext rfl rfl ?_ | refine is_lenS rfl ?_ | refine is_lenM rfl ?_ | refine is_lenL rfl ?_ | refine is_lenR rfl ?_ | refine is_lenN rfl ?_ | (refine is_lss rfl rfl (fun _ => ?_) (fun _ => ?_) <;> try (exfalso; omega)) | (refine is_leq rfl rfl (fun _ => ?_) (fun _ => ?_) <;> try (exfalso; omega)) | (refine is_gtr rfl rfl (fun _ => ?_) (fun _ => ?_) <;> try (exfalso; omega)) | (refine is_geq rfl rfl (fun _ => ?_) (fun _ => ?_) <;> try (exfalso; omega)) | (refine is_eql rfl rfl (fun _ => ?_) (fun _ => ?_) <;> try (exfalso; omega)) | (refine is_neq rfl rfl (fun _ => ?_) (fun _ => ?_) <;> try (exfalso; omega)) | (refine is_eqlS rfl rfl (fun _ => ?_) (fun _ => ?_) <;> try contradiction) | (refine is_neqS rfl rfl (fun _ => ?_) (fun _ => ?_) <;> try contradiction) | refine is_pick rfl rfl rfl rfl ?_ | refine is_gT rfl ?_ | refine is_gF rfl rfl ?_ | refine is_gU rfl ?_ | refine is_gFn rfl rfl ?_ | refine is_gUn rfl ?_ | refine ru_iteT rfl ?_ | refine ru_iteF rfl ?_ | refine is_not rfl rfl ?_ | refine is_addS rfl rfl (by omega) ?_ | refine is_subS rfl rfl (by omega) ?_ | refine is_quoS rfl rfl (by omega) ?_ | refine is_remS rfl rfl (by omega) ?_ | refine is_mulS rfl rfl (by omega) ?_ | refine is_cat rfl rfl (by omega) ?_ | refine is_slcS_hi rfl rfl (by omega) ?_ | refine is_slcS_lo rfl rfl (by omega) ?_ | refine is_slcS_lh rfl rfl rfl (by omega) ?_ | refine is_fldA rfl (by decide) rfl ?_ | refine is_build rfl rfl rfl ?_ | refine is_eqs rfl rfl rfl rfl ?_ | refine is_mkf rfl rfl ?_ | refine is_box rfl rfl rfl ?_ | refine is_stb rfl rfl rfl rfl rfl rfl ?_ | refine is_nilck rfl rfl ?_ | refine is_nilckn rfl rfl ?_ | refine is_bslF rfl rfl rfl ?_ | refine is_onil rfl ?_ | refine is_boxnil rfl ?_ | refine is_mkslice rfl rfl (by omega) (by decide) rfl ?_ | refine is_mkmap rfl ?_ | refine is_bslT rfl rfl rfl rfl ?_ | refine is_app1 rfl rfl rfl (by first | rfl | simp) (by first | omega | (simp <;> omega)) (by decide) rfl rfl rfl ?_ | refine is_cstr rfl ?_ | refine ru_skip ?_ | refine ru_ret ?_ | refine ru_exit ?_ | refine ru_block ?_ | refine rk_nil ?_ | refine rk_seq_ret ?_ | refine rk_seq_ex ?_ | refine rk_blk ?_ | refine rk_blk_ret ?_ | refine rk_blk_eq rfl ?_ | refine rk_blk_ne rfl ?_ | refine rk_inv ?_ | refine rk_inv_ret ?_ | refine rk_inv_ex ?_)
    refine ru_loop (fun _ e st => e = [(0, .str []), (3, strsV []), (4, intsV []), (6, .int .i64 0)] ∧ st = ⟨A, false, []⟩) 0 ⟨rfl, rfl⟩ ?_
    rintro n e st' ⟨rfl, rfl⟩
    repeat' (first | refine ru_seq ?_ | refine ru_reg ?_ | refine is_mv rfl ?_ | refine is_nil rfl ?_ | refine rk_seq ?_ | refine is_fld rfl rfl ?_ | refine is_ldl rfl rfl ?_ | refine is_callE rfl rfl rfl (works_c _) ?_ | refine is_ixM rfl rfl (by omega) (fun _ => rfl) (fun _ _ => ?_) | refine is_fadr rfl rfl ?_ | refine is_ldc rfl rfl rfl rfl ?_ | refine is_ext rfl rfl ?_ | refine is_lenS rfl ?_ | refine is_lenM rfl ?_ | refine is_lenL rfl ?_ | refine is_lenR rfl ?_ | refine is_lenN rfl ?_ | (refine is_lss rfl rfl (fun _ => ?_) (fun _ => ?_) <;> try (exfalso; omega)) | (refine is_leq rfl rfl (fun _ => ?_) (fun _ => ?_) <;> try (exfalso; omega)) | (refine is_gtr rfl rfl (fun _ => ?_) (fun _ => ?_) <;> try (exfalso; omega)) | (refine is_geq rfl rfl (fun _ => ?_) (fun _ => ?_) <;> try (exfalso; omega)) | (refine is_eql rfl rfl (fun _ => ?_) (fun _ => ?_) <;> try (exfalso; omega)) | (refine is_neq rfl rfl (fun _ => ?_) (fun _ => ?_) <;> try (exfalso; omega)) | (refine is_eqlS rfl rfl (fun _ => ?_) (fun _ => ?_) <;> try contradiction) | (refine is_neqS rfl rfl (fun _ => ?_) (fun _ => ?_) <;> try contradiction) | refine is_pick rfl rfl rfl rfl ?_ | refine is_gT rfl ?_ | refine is_gF rfl rfl ?_ | refine is_gU rfl ?_ | refine is_gFn rfl rfl ?_ | refine is_gUn rfl ?_ | refine ru_iteT rfl ?_ | refine ru_iteF rfl ?_ | refine is_not rfl rfl ?_ | refine is_addS rfl rfl (by omega) ?_ | refine is_subS rfl rfl (by omega) ?_ | refine is_quoS rfl rfl (by omega) ?_ | refine is_remS rfl rfl (by omega) ?_ | refine is_mulS rfl rfl (by omega) ?_ | refine is_cat rfl rfl (by omega) ?_ | refine is_slcS_hi rfl rfl (by omega) ?_ | refine is_slcS_lo rfl rfl (by omega) ?_ | refine is_slcS_lh rfl rfl rfl (by omega) ?_ | refine is_fldA rfl (by decide) rfl ?_ | refine is_build rfl rfl rfl ?_ | refine is_eqs rfl rfl rfl rfl ?_ | refine is_mkf rfl rfl ?_ | refine is_box rfl rfl rfl ?_ | refine is_stb rfl rfl rfl rfl rfl rfl ?_ | refine is_nilck rfl rfl ?_ | refine is_nilckn rfl rfl ?_ | refine is_bslF rfl rfl rfl ?_ | refine is_onil rfl ?_ | refine is_boxnil rfl ?_ | refine is_mkslice rfl rfl (by omega) (by decide) rfl ?_ | refine is_mkmap rfl ?_ | refine is_bslT rfl rfl rfl rfl ?_ | refine is_app1 rfl rfl rfl (by first | rfl | simp) (by first | omega | (simp <;> omega)) (by decide) rfl rfl rfl ?_ | refine is_cstr rfl ?_ | refine ru_skip ?_ | refine ru_ret ?_ | refine ru_exit ?_ | refine ru_block ?_ | refine rk_nil ?_ | refine rk_seq_ret ?_ | refine rk_seq_ex ?_ | refine rk_blk ?_ | refine rk_blk_ret ?_ | refine rk_blk_eq rfl ?_ | refine rk_blk_ne rfl ?_ | refine rk_inv ?_ | refine rk_inv_ret ?_ | refine rk_inv_ex ?_)
    all_goals refine end_st hA (by first | exact .inl rfl | exact .inr rfl) rfl rfl rfl rfl ?_
    all_goals rfl
  have hp := groupsI_pos (n := s.length) (most := 16) (by omega) (by omega)
  have hlen := sizesI_len (n := s.length) (m := 16) (by omega)
  have hget := fun i hi => sizesI_get (n := s.length) (m := 16) (by omega) (i := i) hi
  have hsf := size_facts (n := s.length) (most := 16) (by omega) (by omega)
  have hs1 : groupsI s.length 16 = 1 → sizeI s.length (groupsI s.length 16) 0 = s.length := by
    intro q; rw [q]; unfold sizeI; simp
  have hG : ((s.length : Int) + 16 - 1) / 16 = groupsI s.length 16 := by unfold groupsI; omega
  have hL : chunksL s = (List.range (groupsI s.length 16).toNat).map (chunkG s (groupsI s.length 16)) := by unfold chunksL; rw [if_neg hz]
  have hLl : (chunksL s).length = (groupsI s.length 16).toNat := by rw [hL]; simp
  have hLg : ∀ i, i < (chunksL s).length → (chunksL s)[i]? = some (chunkG s (groupsI s.length 16) i) := by
    intro i hi
    rw [hLl] at hi
    rw [hL, List.getElem?_map, List.getElem?_range hi]; rfl
  have hcl := fun (i : Nat) hi => chunkG_length (s := s) (g := groupsI s.length 16) hp.1 (i := i) hi
  have hjo := hjo ⟨by omega, by omega⟩
  clear hL hfl
  rw [← hlen] at hget
  generalize chunksL s = cl at *
  generalize sizesI (s.length : Int) 16 = l at *
  generalize groupsI (s.length : Int) 16 = g at *
  generalize sizeI (s.length : Int) g = F at *
  generalize chunkG s g = G at *
  repeat' (first | refine ru_seq ?_ | refine ru_reg ?_ | refine is_mv rfl ?_ | refine is_nil rfl ?_ | refine rk_seq ?_ | refine is_fld rfl rfl ?_ | refine is_ldl rfl rfl ?_ | refine is_callE rfl rfl rfl (works_c _) ?_ | refine is_callE rfl rfl rfl (hch) ?_ | refine is_callE rfl rfl rfl (he) ?_ | refine is_callE rfl rfl rfl (hjo) ?_ | refine is_ixM rfl rfl (by omega) (fun _ => rfl) (fun _ _ => ?_) | refine is_fadr rfl rfl ?_ | refine is_ldc rfl rfl rfl rfl ?_ | refine is_ext rfl rfl ?_ | refine is_lenS rfl ?_ | refine is_lenM rfl ?_ | refine is_lenL rfl ?_ | refine is_lenR rfl ?_ | refine is_lenN rfl ?_ | (refine is_lss rfl rfl (fun _ => ?_) (fun _ => ?_) <;> try (exfalso; omega)) | (refine is_leq rfl rfl (fun _ => ?_) (fun _ => ?_) <;> try (exfalso; omega)) | (refine is_gtr rfl rfl (fun _ => ?_) (fun _ => ?_) <;> try (exfalso; omega)) | (refine is_geq rfl rfl (fun _ => ?_) (fun _ => ?_) <;> try (exfalso; omega)) | (refine is_eql rfl rfl (fun _ => ?_) (fun _ => ?_) <;> try (exfalso; omega)) | (refine is_neq rfl rfl (fun _ => ?_) (fun _ => ?_) <;> try (exfalso; omega)) | (refine is_eqlS rfl rfl (fun _ => ?_) (fun _ => ?_) <;> try contradiction) | (refine is_neqS rfl rfl (fun _ => ?_) (fun _ => ?_) <;> try contradiction) | refine is_pick rfl rfl rfl rfl ?_ | refine is_gT rfl ?_ | refine is_gF rfl rfl ?_ | refine is_gU rfl ?_ | refine is_gFn rfl rfl ?_ | refine is_gUn rfl ?_ | refine ru_iteT rfl ?_ | refine ru_iteF rfl ?_ | refine is_not rfl rfl ?_ | refine is_addS rfl rfl (by omega) ?_ | refine is_subS rfl rfl (by omega) ?_ | refine is_quoS rfl rfl (by omega) ?_ | refine is_remS rfl rfl (by omega) ?_ | refine is_mulS rfl rfl (by omega) ?_ | refine is_cat rfl rfl (by omega) ?_ | refine is_slcS_hi rfl rfl (by omega) ?_ | refine is_slcS_lo rfl rfl (by omega) ?_ | refine is_slcS_lh rfl rfl rfl (by omega) ?_ | refine is_fldA rfl (by decide) rfl ?_ | refine is_build rfl rfl rfl ?_ | refine is_eqs rfl rfl rfl rfl ?_ | refine is_mkf rfl rfl ?_ | refine is_box rfl rfl rfl ?_ | refine is_stb rfl rfl rfl rfl rfl rfl ?_ | refine is_nilck rfl rfl ?_ | refine is_nilckn rfl rfl ?_ | refine is_bslF rfl rfl rfl ?_ | refine is_onil rfl ?_ | refine is_boxnil rfl ?_ | refine is_mkslice rfl rfl (by omega) (by decide) rfl ?_ | refine is_mkmap rfl ?_ | refine is_bslT rfl rfl rfl rfl ?_ | refine is_app1 rfl rfl rfl (by first | rfl | simp) (by first | omega | (simp <;> omega)) (by decide) rfl rfl rfl ?_ | refine is_cstr rfl ?_ | refine ru_skip ?_ | refine ru_ret ?_ | refine ru_exit ?_ | refine ru_block ?_ | refine rk_nil ?_ | refine rk_seq_ret ?_ | refine rk_seq_ex ?_ | refine rk_blk ?_ | refine rk_blk_ret ?_ | refine rk_blk_eq rfl ?_ | refine rk_blk_ne rfl ?_ | refine rk_inv ?_ | refine rk_inv_ret ?_ | refine rk_inv_ex ?_)
  refine ru_loopP (α := Nat) (fun i => [(0, .str s), (3, strsV cl), (4, intsV l), (6, .int .i64 i)]) (fun i => ⟨A, false, []⟩)
    (fun i => i ≤ g.toNat) (fun i => g.toNat - i) 0 rfl rfl (Nat.zero_le _) ?_
  intro i hi
  by_cases hi2 : i < g.toNat
  · have f1 := hsf i
    have f2 := hcl i hi2
    have f3 : G (i : Int).toNat = G i := rfl
    have f4 : F (i : Int).toNat = F i := rfl
    have f5 : (G (i : Int).toNat).length = (F i).toNat := f2
    have f6 : g = 1 → F i = s.length := by
      intro q
      rw [show i = 0 by omega]; exact hs1 q
    repeat' (first | refine ru_seq ?_ | refine ru_reg ?_ | refine is_mv rfl ?_ | refine is_nil rfl ?_ | refine rk_seq ?_ | refine is_fld rfl rfl ?_ | refine is_ldl rfl rfl ?_ | refine is_callE rfl rfl rfl (works_c _) ?_ | refine is_ixF hLg rfl rfl (by omega) (fun _ => rfl) ?_ | refine is_ixF hget rfl rfl (by omega) (fun _ => rfl) ?_ | refine is_ixM rfl rfl (by omega) (fun _ => rfl) (fun _ _ => ?_) | refine is_fadr rfl rfl ?_ | refine is_ldc rfl rfl rfl rfl ?_ | refine is_ext rfl rfl ?_ | refine is_lenS rfl ?_ | refine is_lenM rfl ?_ | refine is_lenL rfl ?_ | refine is_lenR rfl ?_ | refine is_lenN rfl ?_ | (refine is_lss rfl rfl (fun _ => ?_) (fun _ => ?_) <;> try (exfalso; omega)) | (refine is_leq rfl rfl (fun _ => ?_) (fun _ => ?_) <;> try (exfalso; omega)) | (refine is_gtr rfl rfl (fun _ => ?_) (fun _ => ?_) <;> try (exfalso; omega)) | (refine is_geq rfl rfl (fun _ => ?_) (fun _ => ?_) <;> try (exfalso; omega)) | (refine is_eql rfl rfl (fun _ => ?_) (fun _ => ?_) <;> try (exfalso; omega)) | (refine is_neq rfl rfl (fun _ => ?_) (fun _ => ?_) <;> try (exfalso; omega)) | (refine is_eqlS rfl rfl (fun _ => ?_) (fun _ => ?_) <;> try contradiction) | (refine is_neqS rfl rfl (fun _ => ?_) (fun _ => ?_) <;> try contradiction) | refine is_pick rfl rfl rfl rfl ?_ | refine is_gT rfl ?_ | refine is_gF rfl rfl ?_ | refine is_gU rfl ?_ | refine is_gFn rfl rfl ?_ | refine is_gUn rfl ?_ | refine ru_iteT rfl ?_ | refine ru_iteF rfl ?_ | refine is_not rfl rfl ?_ | refine is_addS rfl rfl (by omega) ?_ | refine is_subS rfl rfl (by omega) ?_ | refine is_quoS rfl rfl (by omega) ?_ | refine is_remS rfl rfl (by omega) ?_ | refine is_mulS rfl rfl (by omega) ?_ | refine is_cat rfl rfl (by omega) ?_ | refine is_slcS_hi rfl rfl (by omega) ?_ | refine is_slcS_lo rfl rfl (by omega) ?_ | refine is_slcS_lh rfl rfl rfl (by omega) ?_ | refine is_fldA rfl (by decide) rfl ?_ | refine is_build rfl rfl rfl ?_ | refine is_eqs rfl rfl rfl rfl ?_ | refine is_mkf rfl rfl ?_ | refine is_box rfl rfl rfl ?_ | refine is_stb rfl rfl rfl rfl rfl rfl ?_ | refine is_nilck rfl rfl ?_ | refine is_nilckn rfl rfl ?_ | refine is_bslF rfl rfl rfl ?_ | refine is_onil rfl ?_ | refine is_boxnil rfl ?_ | refine is_mkslice rfl rfl (by omega) (by decide) rfl ?_ | refine is_mkmap rfl ?_ | refine is_bslT rfl rfl rfl rfl ?_ | refine is_app1 rfl rfl rfl (by first | rfl | simp) (by first | omega | (simp <;> omega)) (by decide) rfl rfl rfl ?_ | refine is_cstr rfl ?_ | refine ru_skip ?_ | refine ru_ret ?_ | refine ru_exit ?_ | refine ru_block ?_ | refine rk_nil ?_ | refine rk_seq_ret ?_ | refine rk_seq_ex ?_ | refine rk_blk ?_ | refine rk_blk_ret ?_ | refine rk_blk_eq rfl ?_ | refine rk_blk_ne rfl ?_ | refine rk_inv ?_ | refine rk_inv_ret ?_ | refine rk_inv_ex ?_)
    all_goals
      exact ⟨i + 1, ⟨rfl, rfl⟩, by omega, by omega⟩
  · repeat' (first | refine ru_seq ?_ | refine ru_reg ?_ | refine is_mv rfl ?_ | refine is_nil rfl ?_ | refine rk_seq ?_ | refine is_fld rfl rfl ?_ | refine is_ldl rfl rfl ?_ | refine is_callE rfl rfl rfl (works_c _) ?_ | refine is_ixM rfl rfl (by omega) (fun _ => rfl) (fun _ _ => ?_) | refine is_fadr rfl rfl ?_ | refine is_ldc rfl rfl rfl rfl ?_ | refine is_ext rfl rfl ?_ | refine is_lenS rfl ?_ | refine is_lenM rfl ?_ | refine is_lenL rfl ?_ | refine is_lenR rfl ?_ | refine is_lenN rfl ?_ | (refine is_lss rfl rfl (fun _ => ?_) (fun _ => ?_) <;> try (exfalso; omega)) | (refine is_leq rfl rfl (fun _ => ?_) (fun _ => ?_) <;> try (exfalso; omega)) | (refine is_gtr rfl rfl (fun _ => ?_) (fun _ => ?_) <;> try (exfalso; omega)) | (refine is_geq rfl rfl (fun _ => ?_) (fun _ => ?_) <;> try (exfalso; omega)) | (refine is_eql rfl rfl (fun _ => ?_) (fun _ => ?_) <;> try (exfalso; omega)) | (refine is_neq rfl rfl (fun _ => ?_) (fun _ => ?_) <;> try (exfalso; omega)) | (refine is_eqlS rfl rfl (fun _ => ?_) (fun _ => ?_) <;> try contradiction) | (refine is_neqS rfl rfl (fun _ => ?_) (fun _ => ?_) <;> try contradiction) | refine is_pick rfl rfl rfl rfl ?_ | refine is_gT rfl ?_ | refine is_gF rfl rfl ?_ | refine is_gU rfl ?_ | refine is_gFn rfl rfl ?_ | refine is_gUn rfl ?_ | refine ru_iteT rfl ?_ | refine ru_iteF rfl ?_ | refine is_not rfl rfl ?_ | refine is_addS rfl rfl (by omega) ?_ | refine is_subS rfl rfl (by omega) ?_ | refine is_quoS rfl rfl (by omega) ?_ | refine is_remS rfl rfl (by omega) ?_ | refine is_mulS rfl rfl (by omega) ?_ | refine is_cat rfl rfl (by omega) ?_ | refine is_slcS_hi rfl rfl (by omega) ?_ | refine is_slcS_lo rfl rfl (by omega) ?_ | refine is_slcS_lh rfl rfl rfl (by omega) ?_ | refine is_fldA rfl (by decide) rfl ?_ | refine is_build rfl rfl rfl ?_ | refine is_eqs rfl rfl rfl rfl ?_ | refine is_mkf rfl rfl ?_ | refine is_box rfl rfl rfl ?_ | refine is_stb rfl rfl rfl rfl rfl rfl ?_ | refine is_nilck rfl rfl ?_ | refine is_nilckn rfl rfl ?_ | refine is_bslF rfl rfl rfl ?_ | refine is_onil rfl ?_ | refine is_boxnil rfl ?_ | refine is_mkslice rfl rfl (by omega) (by decide) rfl ?_ | refine is_mkmap rfl ?_ | refine is_bslT rfl rfl rfl rfl ?_ | refine is_app1 rfl rfl rfl (by first | rfl | simp) (by first | omega | (simp <;> omega)) (by decide) rfl rfl rfl ?_ | refine is_cstr rfl ?_ | refine ru_skip ?_ | refine ru_ret ?_ | refine ru_exit ?_ | refine ru_block ?_ | refine rk_nil ?_ | refine rk_seq_ret ?_ | refine rk_seq_ex ?_ | refine rk_blk ?_ | refine rk_blk_ret ?_ | refine rk_blk_eq rfl ?_ | refine rk_blk_ne rfl ?_ | refine rk_inv ?_ | refine rk_inv_ret ?_ | refine rk_inv_ex ?_)
    all_goals refine end_st hA (by first | exact .inl rfl | exact .inr rfl) rfl rfl rfl rfl ?_
    all_goals rfl

def pick2 (x y : List UInt8) : Nat → List UInt8
  | 0 => x
  | _ => y

theorem joinL_facts (a b : List UInt8) (ha : leafP a) (hb : leafP b) : (joinL a b).flatten = a ++ b ∧ ((joinL a b).length = 1 ∧ a.length + b.length ≤ 16 ∨ a.length + b.length > 16 ∧ ∃ x y, joinL a b = [x, y] ∧ 8 ≤ x.length ∧ x.length ≤ 16 ∧ 8 ≤ y.length ∧ y.length ≤ 16 ∧ x.length + y.length = a.length + b.length) := by
  by_cases h : a.length + b.length ≤ 16
  · rw [joinL_one h]; exact ⟨by simp, .inl ⟨rfl, h⟩⟩
  · by_cases h2 : 8 ≤ a.length ∧ 8 ≤ b.length
    · rw [joinL_two h h2]; exact ⟨by simp, .inr ⟨by omega, a, b, rfl, by omega, by omega, by omega, by omega, rfl⟩⟩
    · rw [joinL_half h h2]
      have e1 : ((a ++ b).take ((a.length + b.length + 1) / 2)).length = (a.length + b.length + 1) / 2 := by rw [List.length_take, List.length_append]; omega
      have e2 : ((a ++ b).drop ((a.length + b.length + 1) / 2)).length = a.length + b.length - (a.length + b.length + 1) / 2 := by rw [List.length_drop, List.length_append]
      exact ⟨by simp, .inr ⟨by omega, _, _, rfl, by omega, by omega, by omega, by omega, by omega⟩⟩

theorem joins (a b : List UInt8) (st : St) : S T F_quartolaw14_ChunkJoins [.str a, .str b] st = some (.bool true, st) := by
  refine s_of rfl (fun A hA => ?_)
  have e3 : ([] : List (List UInt8)).length = 0 := rfl
  have e4 : ([] : List AV).length = 0 := rfl
  have eab : (a ++ b).length = a.length + b.length := List.length_append
  by_cases h : leafP a ∧ leafP b
  · obtain ⟨hfl, hf⟩ := joinL_facts a b h.1 h.2
    have hj := Join_ok a b ⟨A, false, []⟩ h.1 h.2
    have hl : (joinL a b).length ≤ 140737488355328 := by have := joinL_length a b; omega
    have hjo := SJoin_c (joinL a b) ⟨A, false, []⟩ ⟨hl, by rw [hfl]; omega⟩
    rw [hfl] at hjo
    rcases hf with ⟨h1, h2⟩ | ⟨h1, x, y, hxy, hx1, hx2, hy1, hy2, hxl⟩
    · generalize joinL a b = l at *
      repeat' (first | refine ru_seq ?_ | refine ru_reg ?_ | refine is_mv rfl ?_ | refine is_nil rfl ?_ | refine rk_seq ?_ | refine is_fld rfl rfl ?_ | refine is_ldl rfl rfl ?_ | refine is_callE rfl rfl rfl (works_c _) ?_ | refine is_callE rfl rfl rfl (hj) ?_ | refine is_callE rfl rfl rfl (hjo) ?_ | refine is_ixM rfl rfl (by omega) (fun _ => rfl) (fun _ _ => ?_) | refine is_fadr rfl rfl ?_ | refine is_ldc rfl rfl rfl rfl ?_ | refine is_ext rfl rfl ?_ | refine is_lenS rfl ?_ | refine is_lenM rfl ?_ | refine is_lenL rfl ?_ | refine is_lenR rfl ?_ | refine is_lenN rfl ?_ | (refine is_lss rfl rfl (fun _ => ?_) (fun _ => ?_) <;> try (exfalso; omega)) | (refine is_leq rfl rfl (fun _ => ?_) (fun _ => ?_) <;> try (exfalso; omega)) | (refine is_gtr rfl rfl (fun _ => ?_) (fun _ => ?_) <;> try (exfalso; omega)) | (refine is_geq rfl rfl (fun _ => ?_) (fun _ => ?_) <;> try (exfalso; omega)) | (refine is_eql rfl rfl (fun _ => ?_) (fun _ => ?_) <;> try (exfalso; omega)) | (refine is_neq rfl rfl (fun _ => ?_) (fun _ => ?_) <;> try (exfalso; omega)) | (refine is_eqlS rfl rfl (fun _ => ?_) (fun _ => ?_) <;> try contradiction) | (refine is_neqS rfl rfl (fun _ => ?_) (fun _ => ?_) <;> try contradiction) | refine is_pick rfl rfl rfl rfl ?_ | refine is_gT rfl ?_ | refine is_gF rfl rfl ?_ | refine is_gU rfl ?_ | refine is_gFn rfl rfl ?_ | refine is_gUn rfl ?_ | refine ru_iteT rfl ?_ | refine ru_iteF rfl ?_ | refine is_not rfl rfl ?_ | refine is_addS rfl rfl (by omega) ?_ | refine is_subS rfl rfl (by omega) ?_ | refine is_quoS rfl rfl (by omega) ?_ | refine is_remS rfl rfl (by omega) ?_ | refine is_mulS rfl rfl (by omega) ?_ | refine is_cat rfl rfl (by omega) ?_ | refine is_slcS_hi rfl rfl (by omega) ?_ | refine is_slcS_lo rfl rfl (by omega) ?_ | refine is_slcS_lh rfl rfl rfl (by omega) ?_ | refine is_fldA rfl (by decide) rfl ?_ | refine is_build rfl rfl rfl ?_ | refine is_eqs rfl rfl rfl rfl ?_ | refine is_mkf rfl rfl ?_ | refine is_box rfl rfl rfl ?_ | refine is_stb rfl rfl rfl rfl rfl rfl ?_ | refine is_nilck rfl rfl ?_ | refine is_nilckn rfl rfl ?_ | refine is_bslF rfl rfl rfl ?_ | refine is_onil rfl ?_ | refine is_boxnil rfl ?_ | refine is_mkslice rfl rfl (by omega) (by decide) rfl ?_ | refine is_mkmap rfl ?_ | refine is_bslT rfl rfl rfl rfl ?_ | refine is_app1 rfl rfl rfl (by first | rfl | simp) (by first | omega | (simp <;> omega)) (by decide) rfl rfl rfl ?_ | refine is_cstr rfl ?_ | refine ru_skip ?_ | refine ru_ret ?_ | refine ru_exit ?_ | refine ru_block ?_ | refine rk_nil ?_ | refine rk_seq_ret ?_ | refine rk_seq_ex ?_ | refine rk_blk ?_ | refine rk_blk_ret ?_ | refine rk_blk_eq rfl ?_ | refine rk_blk_ne rfl ?_ | refine rk_inv ?_ | refine rk_inv_ret ?_ | refine rk_inv_ex ?_)
      all_goals refine end_st hA (by first | exact .inl rfl | exact .inr rfl) rfl rfl rfl rfl ?_
      all_goals rfl
    · rw [hxy] at hj hjo
      have hj2 := Join_ok x y ⟨A, false, []⟩ (by constructor <;> omega) (by constructor <;> omega)
      rw [joinL_two (by omega) (by omega)] at hj2
      have e5 : ([x, y] : List (List UInt8)).length = 2 := rfl
      have hg : ∀ i, i < ([x, y] : List (List UInt8)).length → ([x, y] : List (List UInt8))[i]? = some (pick2 x y i) := by
        intro i hi
        rw [e5] at hi
        match i, hi with
        | 0, _ => rfl
        | 1, _ => rfl
      have ht := Texts_c [x, y] [x, y] ⟨A, false, []⟩ (by rw [e5]; omega)
      have e6 : pick2 x y (Int.toNat 0) = x := rfl
      have e7 : pick2 x y (Int.toNat 1) = y := rfl
      have e8 : (pick2 x y (Int.toNat 0)).length = x.length := rfl
      have e9 : (pick2 x y (Int.toNat 1)).length = y.length := rfl
      repeat' (first | refine ru_seq ?_ | refine ru_reg ?_ | refine is_mv rfl ?_ | refine is_nil rfl ?_ | refine rk_seq ?_ | refine is_fld rfl rfl ?_ | refine is_ldl rfl rfl ?_ | refine is_callE rfl rfl rfl (works_c _) ?_ | refine is_callE rfl rfl rfl (hj) ?_ | refine is_callE rfl rfl rfl (hjo) ?_ | refine is_callE rfl rfl rfl (hj2) ?_ | (refine is_callB rfl rfl rfl ht (fun _ => ?_) (fun _ => ?_)) | refine is_ixF hg rfl rfl (by omega) (fun _ => rfl) ?_ | refine is_ixM rfl rfl (by omega) (fun _ => rfl) (fun _ _ => ?_) | refine is_fadr rfl rfl ?_ | refine is_ldc rfl rfl rfl rfl ?_ | refine is_ext rfl rfl ?_ | refine is_lenS rfl ?_ | refine is_lenM rfl ?_ | refine is_lenL rfl ?_ | refine is_lenR rfl ?_ | refine is_lenN rfl ?_ | (refine is_lss rfl rfl (fun _ => ?_) (fun _ => ?_) <;> try (exfalso; omega)) | (refine is_leq rfl rfl (fun _ => ?_) (fun _ => ?_) <;> try (exfalso; omega)) | (refine is_gtr rfl rfl (fun _ => ?_) (fun _ => ?_) <;> try (exfalso; omega)) | (refine is_geq rfl rfl (fun _ => ?_) (fun _ => ?_) <;> try (exfalso; omega)) | (refine is_eql rfl rfl (fun _ => ?_) (fun _ => ?_) <;> try (exfalso; omega)) | (refine is_neq rfl rfl (fun _ => ?_) (fun _ => ?_) <;> try (exfalso; omega)) | (refine is_eqlS rfl rfl (fun _ => ?_) (fun _ => ?_) <;> try contradiction) | (refine is_neqS rfl rfl (fun _ => ?_) (fun _ => ?_) <;> try contradiction) | refine is_pick rfl rfl rfl rfl ?_ | refine is_gT rfl ?_ | refine is_gF rfl rfl ?_ | refine is_gU rfl ?_ | refine is_gFn rfl rfl ?_ | refine is_gUn rfl ?_ | refine ru_iteT rfl ?_ | refine ru_iteF rfl ?_ | refine is_not rfl rfl ?_ | refine is_addS rfl rfl (by omega) ?_ | refine is_subS rfl rfl (by omega) ?_ | refine is_quoS rfl rfl (by omega) ?_ | refine is_remS rfl rfl (by omega) ?_ | refine is_mulS rfl rfl (by omega) ?_ | refine is_cat rfl rfl (by omega) ?_ | refine is_slcS_hi rfl rfl (by omega) ?_ | refine is_slcS_lo rfl rfl (by omega) ?_ | refine is_slcS_lh rfl rfl rfl (by omega) ?_ | refine is_fldA rfl (by decide) rfl ?_ | refine is_build rfl rfl rfl ?_ | refine is_eqs rfl rfl rfl rfl ?_ | refine is_mkf rfl rfl ?_ | refine is_box rfl rfl rfl ?_ | refine is_stb rfl rfl rfl rfl rfl rfl ?_ | refine is_nilck rfl rfl ?_ | refine is_nilckn rfl rfl ?_ | refine is_bslF rfl rfl rfl ?_ | refine is_onil rfl ?_ | refine is_boxnil rfl ?_ | refine is_mkslice rfl rfl (by omega) (by decide) rfl ?_ | refine is_mkmap rfl ?_ | refine is_bslT rfl rfl rfl rfl ?_ | refine is_app1 rfl rfl rfl (by first | rfl | simp) (by first | omega | (simp <;> omega)) (by decide) rfl rfl rfl ?_ | refine is_cstr rfl ?_ | refine ru_skip ?_ | refine ru_ret ?_ | refine ru_exit ?_ | refine ru_block ?_ | refine rk_nil ?_ | refine rk_seq_ret ?_ | refine rk_seq_ex ?_ | refine rk_blk ?_ | refine rk_blk_ret ?_ | refine rk_blk_eq rfl ?_ | refine rk_blk_ne rfl ?_ | refine rk_inv ?_ | refine rk_inv_ret ?_ | refine rk_inv_ex ?_)
      · refine end_st hA (by first | exact .inl rfl | exact .inr rfl) rfl rfl rfl rfl ?_
        rfl
      · contradiction
  · have hj := Join_arg a b ⟨A, false, []⟩ h
    repeat' (first | refine ru_seq ?_ | refine ru_reg ?_ | refine is_mv rfl ?_ | refine is_nil rfl ?_ | refine rk_seq ?_ | refine is_fld rfl rfl ?_ | refine is_ldl rfl rfl ?_ | refine is_callE rfl rfl rfl (works_c _) ?_ | refine is_callE rfl rfl rfl (hj) ?_ | refine is_ixM rfl rfl (by omega) (fun _ => rfl) (fun _ _ => ?_) | refine is_fadr rfl rfl ?_ | refine is_ldc rfl rfl rfl rfl ?_ | refine is_ext rfl rfl ?_ | refine is_lenS rfl ?_ | refine is_lenM rfl ?_ | refine is_lenL rfl ?_ | refine is_lenR rfl ?_ | refine is_lenN rfl ?_ | (refine is_lss rfl rfl (fun _ => ?_) (fun _ => ?_) <;> try (exfalso; omega)) | (refine is_leq rfl rfl (fun _ => ?_) (fun _ => ?_) <;> try (exfalso; omega)) | (refine is_gtr rfl rfl (fun _ => ?_) (fun _ => ?_) <;> try (exfalso; omega)) | (refine is_geq rfl rfl (fun _ => ?_) (fun _ => ?_) <;> try (exfalso; omega)) | (refine is_eql rfl rfl (fun _ => ?_) (fun _ => ?_) <;> try (exfalso; omega)) | (refine is_neq rfl rfl (fun _ => ?_) (fun _ => ?_) <;> try (exfalso; omega)) | (refine is_eqlS rfl rfl (fun _ => ?_) (fun _ => ?_) <;> try contradiction) | (refine is_neqS rfl rfl (fun _ => ?_) (fun _ => ?_) <;> try contradiction) | refine is_pick rfl rfl rfl rfl ?_ | refine is_gT rfl ?_ | refine is_gF rfl rfl ?_ | refine is_gU rfl ?_ | refine is_gFn rfl rfl ?_ | refine is_gUn rfl ?_ | refine ru_iteT rfl ?_ | refine ru_iteF rfl ?_ | refine is_not rfl rfl ?_ | refine is_addS rfl rfl (by omega) ?_ | refine is_subS rfl rfl (by omega) ?_ | refine is_quoS rfl rfl (by omega) ?_ | refine is_remS rfl rfl (by omega) ?_ | refine is_mulS rfl rfl (by omega) ?_ | refine is_cat rfl rfl (by omega) ?_ | refine is_slcS_hi rfl rfl (by omega) ?_ | refine is_slcS_lo rfl rfl (by omega) ?_ | refine is_slcS_lh rfl rfl rfl (by omega) ?_ | refine is_fldA rfl (by decide) rfl ?_ | refine is_build rfl rfl rfl ?_ | refine is_eqs rfl rfl rfl rfl ?_ | refine is_mkf rfl rfl ?_ | refine is_box rfl rfl rfl ?_ | refine is_stb rfl rfl rfl rfl rfl rfl ?_ | refine is_nilck rfl rfl ?_ | refine is_nilckn rfl rfl ?_ | refine is_bslF rfl rfl rfl ?_ | refine is_onil rfl ?_ | refine is_boxnil rfl ?_ | refine is_mkslice rfl rfl (by omega) (by decide) rfl ?_ | refine is_mkmap rfl ?_ | refine is_bslT rfl rfl rfl rfl ?_ | refine is_app1 rfl rfl rfl (by first | rfl | simp) (by first | omega | (simp <;> omega)) (by decide) rfl rfl rfl ?_ | refine is_cstr rfl ?_ | refine ru_skip ?_ | refine ru_ret ?_ | refine ru_exit ?_ | refine ru_block ?_ | refine rk_nil ?_ | refine rk_seq_ret ?_ | refine rk_seq_ex ?_ | refine rk_blk ?_ | refine rk_blk_ret ?_ | refine rk_blk_eq rfl ?_ | refine rk_blk_ne rfl ?_ | refine rk_inv ?_ | refine rk_inv_ret ?_ | refine rk_inv_ex ?_)
    all_goals first | (exfalso; omega) | refine end_st hA (by first | exact .inl rfl | exact .inr rfl) rfl rfl rfl rfl ?_
    all_goals rfl

theorem parts_run (s : List UInt8) (hs : s.length ≤ maxLen) : ∃ st', S T F_quartolaw14_ChunkParts [.str s] .empty = some (.bool true, st') := ⟨_, parts s _⟩
theorem joins_run (a b : List UInt8) (ha : a.length ≤ maxLen) (hb : b.length ≤ maxLen) : ∃ st', S T F_quartolaw14_ChunkJoins [.str a, .str b] .empty = some (.bool true, st') := ⟨_, joins a b _⟩
end Go.Q14
