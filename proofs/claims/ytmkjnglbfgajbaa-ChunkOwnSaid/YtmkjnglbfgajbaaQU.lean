/- Literals of slices, make, append, len, string of bytes, maps. No condition. -/
import Derived.Test.YtmkjnglbfgajbaaQQ
import Derived.Laws.BytesString
namespace Go.QAbs
set_option linter.unusedVariables false
set_option linter.unusedSimpArgs false
open Go.RowKit (Below)

section
variable {P : Program} {W0 : World} {B0 : Nat} {st st' : St} {ρ : Rho} {W : World} {e : Env} {a : Act}

theorem mulLit {b n : Nat} (hb : b ≤ 4096) (hn : n ≤ 10000000000) : n * b ≤ 40960000000000 := by
  have := Nat.mul_le_mul hn hb; omega

theorem wrap_small {n : Int} (h0 : 0 ≤ n) (h1 : n < 4294967296) : IntKind.i64.wrap n = n := by
  unfold IntKind.wrap IntKind.bits IntKind.signed
  simp only [Bool.true_and, decide_eq_true_eq]
  have h2 : n % (2 ^ 64 : Int) = n := Int.emod_eq_of_lt h0 (by omega)
  rw [h2, if_neg (by omega)]

/-- A slice literal: the new block, the values of its elements. -/
theorem bslice_run {t el : TypeId} {w n : Nat} {z : AV} {es : List AV} {parts : Array (Nat × Operand)} {l : List (Nat × Opd)} (ht : P.underlying t = some (.slice el)) (hs : sz P el = some w)
    (hw0 : w ≠ 0) (hsm : n * w ≤ 16777216) (hz : zeroC P el = some z) (hzw : z.wide = some w) {C : Cx} (ok : C.Ok) (he : EnvR C e a.tmps) (hf : fillE w (List.replicate n z) (partsE e l) = some es)
    (hpl : l.length = parts.toList.length ∧ ∀ (i : Nat) (q : Nat × Opd) (p : Nat × Operand), l[i]? = some q → parts.toList[i]? = some p → p.1 = q.1 ∧ opd p.2 = some q.2) :
    ∃ cs xs, (Instr.buildSlice t n (parts.map fun (i, x) => (i, a.eval x))).run P W = .ok (.slice (some ⟨W.heap.size, 0, none⟩) n n) (W.alloc (.cells cs el)) ∧ RL C es xs ∧ Laid cs w xs ∧ cs.size = n * w ∧ es.length = n := by
  obtain ⟨zv, hzr, hzc, _⟩ := run_zero (W := W) hz
  have hzs := ((hzc C).wide ok hzw).1
  obtain ⟨cs', xs', h1, h2, h3, h4, h5⟩ := fillE_ok ok (w := w) (ps := (parts.map fun (i, x) => (i, a.eval x)).toList) (cs := (Array.range (n * w)).map (fun i => zv.cells[i % zv.cells.size]!)) hf (RL_replicate (hzc C) n)
    (zero_laid hzs hw0 (Nat.le_refl _)) (by simp) (by rw [partsE_len, hpl.1]; simp) (by
      intro i p q hp hq
      obtain ⟨o, ho, rfl⟩ := partsE_get e hp
      rw [Array.toList_map, List.getElem?_map] at hq
      cases hpp : parts.toList[i]? with
      | none => rw [hpp] at hq; simp at hq
      | some pp =>
        rw [hpp] at hq
        simp only [Option.map_some, Option.some.injEq] at hq
        subst hq
        obtain ⟨k1, k2⟩ := hpl.2 i o pp ho hpp
        exact ⟨k1, opd_ok k2 he⟩)
  refine ⟨cs', xs', ?_, h2, h3, by rw [h4]; simp, by rw [h5]; simp⟩
  have hmap0 : n * w = 0 → (Array.range (n * w)).map (fun i => (#[] : Array Value)[i % (#[] : Array Value).size]!) = (Array.range (n * w)).map (fun i => zv.cells[i % zv.cells.size]!) := by
    intro h0; rw [h0]; simp
  have h1' : Instr.fill (fun i => some (i * w, w)) ((Array.range (n * w)).map (fun i => zv.cells[i % zv.cells.size]!)) (parts.map fun x => (x.fst, a.eval x.snd)).toList = some cs' := h1
  simp only [Instr.buildSlice, Sem.run_bind, run_und ht, Result.andThen_ok, run_sz hs]
  rw [if_neg (by omega)]
  split
  · rename_i h0
    simp only [Sem.run_bind, Sem.run_pure, Result.andThen_ok, hmap0 h0, h1']
    simp [newRow]
  · simp only [Sem.run_bind, Sem.run_pure, Result.andThen_ok, hzr, h1']
    simp [newRow]

theorem bslK_ok (hr : Rel W0 B0 st ρ W) {own : Bool} {w n : Nat} {es : List AV} {xs : List Value} {cs : Array Value} {el : TypeId} {v : AV} (hx : RL (cx st ρ W st.A.length) es xs) (hla : Laid cs w xs)
    (hcs : cs.size = n * w) (hn : es.length = n) (h : bslK own w st es = some (v, st')) :
    ∃ ρ', Goes W0 B0 st ρ W st' ρ' (W.alloc (.cells cs el)) ∧ R (cx st' ρ' (W.alloc (.cells cs el)) st'.A.length) v (.slice (some ⟨W.heap.size, 0, none⟩) n n) := by
  unfold bslK at h
  split at h
  · simp only [Option.bind_eq_some_iff, newRefK, Option.some.injEq, Prod.mk.injEq] at h
    obtain ⟨⟨i, st1⟩, hn1, rfl, rfl⟩ := h
    obtain ⟨g, hg⟩ := new_arr (elem := el) hr (.of_new hn1) hx hla.1 (c := n) (by omega) (by omega) hla.2
    have hlen := g.ev.len
    have := (hg st1.A.length (by omega)).1
    rw [hn] at this
    exact ⟨_, g, .ref (by rw [hn]; exact this)⟩
  · split at h
    · rename_i hemp
      simp only [Option.some.injEq, Prod.mk.injEq] at h
      obtain ⟨rfl, rfl⟩ := h
      have : n = 0 := by rw [← hn]; simpa using hemp
      subst this
      exact ⟨ρ, alloc_junk hr _, .nils _⟩
    · simp only [Option.bind_eq_some_iff, litK, Option.some.injEq, Prod.mk.injEq] at h
      obtain ⟨⟨es', st1⟩, hm, rfl, rfl⟩ := h
      have g1 := alloc_junk hr (.cells cs el)
      obtain ⟨g2, r2⟩ := mapSt_ok (fun st v x v' st' => sealV_ok deep 0 st v x v' st') g1.rel (Nat.zero_le _) (hx.mono (g1.ev.le _ (Nat.le_refl _))) hm
      refine ⟨ρ, g1.trans g2, ?_⟩
      have hlen : es'.length = n := by rw [r2.1, ← hx.1, hn]
      have := lit_ok (C := cx st1 ρ (W.alloc (.cells cs el)) st1.A.length) (es := es') (xs := xs) (b := W.heap.size) (o := 0) (w := w) (c := n) (a := some ⟨W.heap.size, 0, none⟩) r2 ?_ (by omega) (fun _ => rfl)
      · rwa [hlen] at this
      · intro i x hx'
        refine ⟨hla.1 x (List.mem_of_getElem? hx'), fun j u hu => ?_⟩
        have := hr.new_im (t := el) (hla.2 i x hx' j u hu)
        rw [show 0 + i * w + j = i * w + j by omega]
        exact (g2.ev.le 0 (Nat.zero_le _)).im _ _ _ this

theorem mkslV_okN (hr : Rel W0 B0 st ρ W) {w bytes k num : Nat} {z l c : AV} {blk : Blk} (h : mkslB w bytes z l c = some (blk, num)) (hn : News st blk k st') {ul uc : Value} (hl : R (cx st ρ W st.A.length) l ul) (hc : R (cx st ρ W st.A.length) c uc)
    {t el : TypeId} {i : TypeInfo} (ht : P.underlying t = some (.slice el)) (hi : P.info? el = some i) (hsz : i.size = w) (hby : i.bytes = bytes) (hw0 : w ≠ 0) (hz : zeroC P el = some z) (hzw : z.wide = some w) :
    ∃ x ρ' W', (Instr.makeSlice t ul uc).run P W = .ok x W' ∧ Goes W0 B0 st ρ W st' ρ' W' ∧ R (cx st' ρ' W' st'.A.length) (.ref st.A.length k 0 0 num) x := by
  unfold mkslB at h
  split at h
  · rename_i l c
    split at h
    · rename_i hcond
      obtain ⟨c1, c2, c3, c4⟩ := hcond
      simp only [Option.some.injEq, Prod.mk.injEq] at h
      obtain ⟨rfl, rfl⟩ := h
      have := getInt hl; subst this
      have := getInt hc; subst this
      obtain ⟨zv, hzr, hzc, _⟩ := run_zero (W := W) hz
      have hzs := ((hzc (cx st ρ W st.A.length)).wide (cx_ok _ _ _ _) hzw).1
      have hla := zero_laid (n := l.toNat) (c := c.toNat) hzs hw0 (by omega)
      obtain ⟨g, hg⟩ := new_arr (elem := el) hr hn (RL_replicate (hzc _) l.toNat) hla.1 (c := c.toNat) (by simp; omega) (cs := (Array.range (c.toNat * w)).map (fun i => zv.cells[i % zv.cells.size]!)) (by simp) hla.2
      have hlen := g.ev.len
      have hx := (hg st'.A.length (by omega)).1
      simp only [List.length_replicate] at hx
      refine ⟨_, _, _, ?_, g, .ref hx⟩
      have hs : sz P el = some w := by simp [sz, hi, hsz]
      have wl := wrap_small c1 (by omega)
      have wc := wrap_small (n := c) (by omega) c3
      have hbig : ¬ (((bytes : Int) * c > 2 ^ 48)) := by
        have h1 := mulLit (b := bytes) (n := c.toNat) c4 (by omega)
        have h2 : (bytes : Int) * c = ((c.toNat * bytes : Nat) : Int) := by
          rw [Int.natCast_mul, Int.mul_comm]; congr 1; omega
        rw [h2]
        have : ((2 : Int) ^ 48) = 281474976710656 := by decide
        omega
      have hbig2 : ¬ (((bytes : Int) * l > 2 ^ 48)) := by
        have : (bytes : Int) * l ≤ (bytes : Int) * c := Int.mul_le_mul_of_nonneg_left c2 (by omega)
        omega
      have hmap0 : c.toNat * w = 0 → (Array.range (c.toNat * w)).map (fun i => (#[] : Array Value)[i % (#[] : Array Value).size]!) = (Array.range (c.toNat * w)).map (fun i => zv.cells[i % zv.cells.size]!) := by
        intro h0; rw [h0]; simp
      have ht1 : (decide (c < 0) || decide ((bytes : Int) * c > 2 ^ 48)) = false := by simp only [Bool.or_eq_false_iff, decide_eq_false_iff_not]; exact ⟨by omega, hbig⟩
      simp only [Instr.makeSlice, Sem.run_bind, run_und ht, Result.andThen_ok, asInt, asIntOf, Sem.run_pure, run_info hi, hby, wl, wc, run_sz hs]
      rw [if_neg (by simp only [ht1, Bool.or_eq_true, decide_eq_true_eq, Bool.false_or, not_or]; simp; omega)]
      simp only [Sem.run_bind, run_askRoom, Result.andThen_ok, run_sz hs, newRow, Sem.run_pure]
      split
      · rename_i h0
        simp only [Sem.run_bind, Sem.run_pure, Result.andThen_ok, hmap0 h0, run_newObj]
        rfl
      · simp only [Sem.run_bind, Sem.run_pure, Result.andThen_ok, hzr, run_newObj]
        rfl
    · simp at h
  · simp at h

theorem mkslV_ok (hr : Rel W0 B0 st ρ W) {w bytes : Nat} {z l c v : AV} (h : mkslV st w bytes z l c = some (v, st')) {ul uc : Value} (hl : R (cx st ρ W st.A.length) l ul) (hc : R (cx st ρ W st.A.length) c uc)
    {t el : TypeId} {i : TypeInfo} (ht : P.underlying t = some (.slice el)) (hi : P.info? el = some i) (hsz : i.size = w) (hby : i.bytes = bytes) (hw0 : w ≠ 0) (hz : zeroC P el = some z) (hzw : z.wide = some w) :
    ∃ x ρ' W', (Instr.makeSlice t ul uc).run P W = .ok x W' ∧ Goes W0 B0 st ρ W st' ρ' W' ∧ R (cx st' ρ' W' st'.A.length) v x := by
  unfold mkslV at h
  split at h
  · rename_i l c
    split at h
    · rename_i hcond
      simp only [Option.bind_eq_some_iff, newRefK, Option.some.injEq, Prod.mk.injEq] at h
      obtain ⟨⟨k, st1⟩, hn1, rfl, rfl⟩ := h
      exact mkslV_okN hr (by unfold mkslB; exact if_pos hcond) (.of_new hn1) hl hc ht hi hsz hby hw0 hz hzw
    · simp at h
  · simp at h

theorem mapLen_inv {b : Option Blk} {n : Nat} (h : mapLen b = some n) : ∃ es, b = some (.map es) ∧ es.length = n := by
  unfold mapLen at h
  split at h
  · simp only [Option.some.injEq] at h; exact ⟨_, rfl, h⟩
  · simp at h

theorem lenOf_ok (hr : Rel W0 B0 st ρ W) {k : Nat} {v : AV} {n : Nat} (h : lenOf st k v = some n) {x : Value} (hx : R (cx st ρ W st.A.length) v x) {t : TypeId} {ty : TypeId}
    (h0 : k = 0 → P.underlying t = some .string) (h1 : k = 1 → ∃ el, P.underlying t = some (.slice el)) (h2 : k = 2 → ∃ k el, P.underlying t = some (.map k el)) :
    (Builtin.len_ #[t] ty #[x]).run P W = .ok (.int .i64 n) W := by
  unfold lenOf at h
  split at h
  · simp only [Option.some.injEq] at h; subst h
    obtain ⟨el, hk⟩ := h1 rfl
    cases hx with
    | nils b => simp [Builtin.len_, run_und hk, goInt]
  · simp only [Option.some.injEq] at h; subst h
    obtain ⟨el, hk⟩ := h1 rfl
    obtain ⟨a', c, rfl, _⟩ := lit_inv hx
    simp [Builtin.len_, run_und hk, goInt]
  · simp only [Option.some.injEq] at h; subst h
    have := getStr hx; subst this
    simp [Builtin.len_, run_und (h0 rfl), goInt, bytes_size]
  · simp only [Option.some.injEq] at h; subst h
    obtain ⟨el, hk⟩ := h1 rfl
    cases hx with
    | ref hp =>
      obtain ⟨_, _, _, a', c, rfl, _⟩ := hp
      simp [Builtin.len_, run_und hk, goInt]
  · simp only [Option.some.injEq] at h; subst h
    obtain ⟨k, el, hk⟩ := h2 rfl
    cases hx with
    | nilmap => simp [Builtin.len_, run_und hk, goInt]
  · obtain ⟨k, el, hk⟩ := h2 rfl
    rename_i lv ix
    obtain ⟨es, hg, rfl⟩ := mapLen_inv h
    cases hx with
    | map hp =>
      obtain ⟨_, _, r, rfl, h5⟩ := hp
      have := h5 es hg; subst this
      obtain ⟨_, en, clock, m2, m3, _⟩ := hr.map lv ix es hg
      simp [Builtin.len_, run_und hk, goInt, getObj, Sem.run, m2, m3]
  · simp at h

theorem allBytes_ok {C : Cx} : ∀ {es : List AV} {l : List UInt8} {xs : List Value}, allBytes es = some l → RL C es xs →
    ∃ ns : List Int, xs = ns.map (fun n => Value.int .u8 n) ∧ l = ns.map fun n => UInt8.ofNat n.toNat
  | [], l, xs, h, hx => by
    simp only [allBytes, Option.some.injEq] at h; subst h
    rw [hx.nil_inv]; exact ⟨[], rfl, rfl⟩
  | v :: es, l, xs, h, hx => by
    simp only [allBytes, Option.bind_eq_some_iff, Option.map_eq_some_iff] at h
    obtain ⟨b, hb, l', hl', rfl⟩ := h
    obtain ⟨x, xs, rfl, h1, h2⟩ := hx.cons_inv
    unfold byteOf at hb
    split at hb
    · rename_i n
      simp only [Option.some.injEq] at hb; subst hb
      have := getInt h1; subst this
      obtain ⟨ns, rfl, rfl⟩ := allBytes_ok hl' h2
      exact ⟨n :: ns, rfl, rfl⟩
    · simp at hb

theorem push_fold (ns : List Int) (s : ByteArray) : ns.foldl (fun r n => r.push (UInt8.ofNat n.toNat)) s = ⟨s.data ++ (ns.map fun n => UInt8.ofNat n.toNat).toArray⟩ := by
  induction ns generalizing s with
  | nil => simp
  | cons n ns ih =>
    simp only [List.foldl_cons, ih, List.map_cons]
    congr 1
    apply Array.ext'
    simp [ByteArray.push]

theorem b2sV_ok (hr : Rel W0 B0 st ρ W) {x v : AV} (h : b2sV st x = some v) {u : Value} (hx : R (cx st ρ W st.A.length) x u) : ∃ z, (Conv.bytesToString u).run P W = .ok z W ∧ ∀ D, R D v z := by
  unfold b2sV at h
  split at h
  · simp at h
  · rename_i hns
    simp only [Option.bind_eq_some_iff, Option.some.injEq] at h
    obtain ⟨es, he, l, hl, rfl⟩ := h
    have hw : sameW 1 es = true := by
      clear he
      induction es generalizing l with
      | nil => rfl
      | cons v es ih =>
        simp only [allBytes, Option.bind_eq_some_iff, Option.map_eq_some_iff] at hl
        obtain ⟨b, hb, l', hl', rfl⟩ := hl
        have := ih l' hl'
        unfold sameW at this ⊢
        simp only [List.all_cons, this, Bool.and_true]
        unfold byteOf at hb
        split at hb
        · rfl
        · simp at hb
    obtain ⟨xs, h1, h2w, h3, h4⟩ := elems_ok (P := P) hr he hx hw
    have h2 := h2w W (fun _ => rfl)
    clear h2w
    obtain ⟨ns, rfl, rfl⟩ := allBytes_ok hl h3
    have hfl : flatC (ns.map (fun n => Value.int .u8 n)) = ns.map (fun n => Value.int .u8 n) := by
      clear h1 h2 h3 h4 hl
      induction ns with
      | nil => rfl
      | cons n ns ih => simp only [flatC, List.map_cons, List.flatMap_cons] at ih ⊢; rw [ih]; rfl
    rw [hfl] at h2
    refine ⟨.string ⟨(ns.map fun n => UInt8.ofNat n.toNat).toArray⟩, ?_, fun _ => .str _⟩
    have hlen : es.length = ns.length := by rw [h3.1]; simp
    -- what kind of slice
    have hkind : ∃ b c, u = .slice b es.length c := by
      unfold elems at he
      split at he
      · simp only [Option.some.injEq] at he; subst he; cases hx with | nils b => exact ⟨b, 0, rfl⟩
      · simp only [Option.some.injEq] at he; subst he; obtain ⟨b, c, rfl, _⟩ := lit_inv hx; exact ⟨b, c, rfl⟩
      · exact absurd rfl (hns _)
      · cases hx with
        | ref hp =>
          obtain ⟨_, _, _, b, c, rfl, _⟩ := hp
          unfold refB at he
          split at he
          · split at he
            · rename_i hc
              simp only [Option.some.injEq] at he; subst he
              exact ⟨b, c, by congr 1; simp; omega⟩
            · simp at he
          · simp at he
      · simp at he
    obtain ⟨b, c, rfl⟩ := hkind
    cases b with
    | none =>
      simp only [Builtin.firstCells, Sem.run_pure, Result.ok.injEq, and_true] at h2
      have : ns = [] := by
        cases ns with
        | nil => rfl
        | cons n ns => simp at h2
      subst this
      rfl
    | some b =>
      simp only [Builtin.firstCells, Nat.mul_one] at h2
      have := run_bytesToString (P := P) W b es.length c ns h2
      rw [this, push_fold]
      simp

end
end Go.QAbs
