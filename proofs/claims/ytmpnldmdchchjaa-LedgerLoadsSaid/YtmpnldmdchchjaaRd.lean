import Derived.Test.YtmpnldmdchchjaaFk
import Derived.Test.YtmpnldmdchchjaaRec
namespace Go.Proofs.Ytmpnldmdchchjaa
open Go Go.Ideal Go.ChangeShapes Go.RowKit
set_option maxHeartbeats 0
set_option linter.unusedSimpArgs false
set_option linter.unusedVariables false
set_option maxRecDepth 100000
attribute [local irreducible] callV T.All T.Is run
theorem env43 : env 43 = some ir43 := rfl
def bx (x : Nat) : List Value := [.int .u8 (x : Int)]
theorem bx_len (x : Nat) : (bx x).length = 1 := rfl
def at8 (l : List Nat) (i : Nat) : Nat := l.getD i 0
theorem at8_get {l : List Nat} {i : Nat} (h : i < l.length) : l[i]? = some (at8 l i) := by
  unfold at8
  rw [List.getD_eq_getElem?_getD, List.getElem?_eq_getElem h]
  rfl
def gen4 (B : List Nat) : Nat → Nat
  | 0 => 0
  | k + 1 => gen4 B k * 256 + at8 B (k + 1)
def rdE (B : List Nat) : En × Bool := if B.length = 5 then (⟨if at8 B 0 = 255 then -1 else (at8 B 0 : Int), (gen4 B 4 : Int)⟩, decide ((⟨if at8 B 0 = 255 then -1 else (at8 B 0 : Int), (gen4 B 4 : Int)⟩ : En) ≠ e0)) else (⟨0, 0⟩, false)
theorem gen4_lt {B : List Nat} (h : ∀ i, at8 B i < 256) : ∀ k, gen4 B k < 256 ^ k
  | 0 => by unfold gen4; omega
  | k + 1 => by
    have h1 := gen4_lt h k
    have h2 := h (k + 1)
    show gen4 B k * 256 + at8 B (k + 1) < 256 ^ (k + 1)
    rw [Nat.pow_succ]
    have : (gen4 B k + 1) * 256 ≤ 256 ^ k * 256 := Nat.mul_le_mul_right _ h1
    omega
theorem or_byte {a b : Nat} (ha : a < 16777216) (hb : b < 256) : ibin .or (.int .u32 ((a * 256 : Nat) : Int)) (.int .u32 (b : Int)) = some (.int .u32 ((a * 256 + b : Nat) : Int)) := by
  rw [ibin_or]
  congr 2
  have e1 : BitVec.ofInt IntKind.u32.bits ((a * 256 : Nat) : Int) = BitVec.ofNat 32 (a * 256) := rfl
  have e2 : BitVec.ofInt IntKind.u32.bits (b : Int) = BitVec.ofNat 32 b := rfl
  rw [e1, e2]
  have e3 : (BitVec.ofNat 32 (a * 256) ||| BitVec.ofNat 32 b).toNat = a * 256 + b := by
    rw [BitVec.toNat_or, BitVec.toNat_ofNat, BitVec.toNat_ofNat, Nat.mod_eq_of_lt (by omega), Nat.mod_eq_of_lt (by omega)]
    have := Nat.shiftLeft_add_eq_or_of_lt (b := b) (i := 8) hb a
    rw [Nat.shiftLeft_eq] at this
    exact this.symm
  show IntKind.u32.wrap ((BitVec.ofNat 32 (a * 256) ||| BitVec.ofNat 32 b).toNat : Int) = _
  rw [e3, wrap_u32_mod]
  omega
section
variable {ro : Nat → Option (List Value × Nat)} {h : Heap} {R : List Rs} {n : Nat}
theorem rdx_h {kd nn : Int} {p : Option Addr} {B : List Nat} {c : Nat} (hn : 40 < n) (hB : ∀ i, at8 B i < 256) (V : ∀ (M : List Rs) (h : Heap), Has ro h (M ++ R) → Vw 1 bx h (.slice p B.length c) B) (O : Has ro h R) :
    (callV env (n + 6) (.func (.func 43) #[] #[]) [.agg #[.int .i64 kd, .int .i64 nn, .slice p B.length c]] h).Is fun q => q.1 = .tuple #[ev (rdE B).1, .bool (rdE B).2] ∧ Has ro q.2 R := by
  refine call_is env43 ?_
  simp (disch := first | assumption | omega | (simp only [wkD, oneCell, Option.isSome_some, *]; done) | (simp only [wkE, ne_eq]; omega)) only [ir43, List.append_nil, List.nil_append, List.cons_append, List.length_cons, List.length_nil, Nat.reduceAdd, Nat.reduceSub, List.replicate_succ, List.replicate_zero, wkF, X_region, X_seq, X_block, X_loop, X_cond, Y_un, Y_store, Y_append, Y_makeMap, Y_buildSlice, ibin_shl, ibin_shr, ibin_and, ↓reduceIte, reduceCtorEq, oneCell, setAt, readN, Nat.reduceAdd, Nat.reduceLeDiff, Nat.reduceMul, layAt, Nat.reduceLT, Nat.reduceEqDiff, setParams, Int.reduceLT, Int.reduceLE, Int.reduceGT, Int.reduceGE, Int.reduceEq, Int.reduceNe]
  refine Y_boxO O ?_
  intro b1 h1 O1 _
  simp (disch := first | assumption | omega | (simp only [wkD, oneCell, Option.isSome_some, *]; done) | (simp only [wkE, ne_eq]; omega)) only [wkF, X_region, X_seq, X_block, X_loop, X_cond, Y_un, Y_store, Y_append, Y_makeMap, Y_buildSlice, ibin_shl, ibin_shr, ibin_and, ↓reduceIte, reduceCtorEq, oneCell, setAt, readN, Nat.reduceAdd, Nat.reduceLeDiff, Nat.reduceMul, layAt, Nat.reduceLT, Nat.reduceEqDiff, setParams, Int.reduceLT, Int.reduceLE, Int.reduceGT, Int.reduceGE, Int.reduceEq, Int.reduceNe]
  refine Y_boxO O1 ?_
  intro b2 h2 O2 _
  replace O2 : Has ro h2 (Ob b2 (.cells [.int .i64 0, .int .u32 0] 1 false) :: Ob b1 (.cells [.int .i64 kd, .int .i64 nn, .slice p B.length c] 1 false) :: R) := O2
  have g1 := O2.get 1 rfl
  by_cases h5 : B.length = 5
  · have h5' : ((B.length : Int) = 5) = True := eq_true (by omega)
    obtain ⟨p', cap', e, hcap, kk⟩ := V [_, _] _ O2
    obtain ⟨b, off, sp, A1, B1, zz, t, hp, hsp, _⟩ := kk (by omega)
    have e2 : p = some ⟨b, off, sp⟩ := by injection e with e3; exact e3.trans hp
    have e3 : c = cap' := by injection e
    subst e2 e3
    have hspot : spotOk 1 ⟨b, off, sp⟩ = true := by rcases hsp with rfl | rfl <;> rfl
    have hl5 : (B.length : Int) = 5 := by omega
    have rd : ∀ (M : List Rs) (h : Heap), Has ro h (M ++ R) → ∀ j, j < 5 → readC (h.get b) (off + j) 1 = some [.int .u8 (at8 B j : Int)] := by
      intro M h' O' j hj
      obtain ⟨b', off', sp', c', hv, _, k⟩ := (V M h' O').rd bx_len (at8_get (l := B) (i := j) (by omega))
      cases hv
      rw [Nat.mul_one] at k
      exact k
    have r0 := rd [_, _] _ O2 0 (by omega)
    rw [Nat.add_zero] at r0
    have i0 : ((0 : Int) < (B.length : Int)) = True := eq_true (by omega)
    simp (disch := first | assumption | omega | (simp only [wkD, oneCell, Option.isSome_some, *]; done) | (simp only [wkE, ne_eq]; omega)) only [g1, h5', r0, i0, Int.toNat_zero, Nat.zero_mul, Nat.add_zero, Int.le_refl, wkF, X_region, X_seq, X_block, X_loop, X_cond, Y_un, Y_store, Y_append, Y_makeMap, Y_buildSlice, ibin_shl, ibin_shr, ibin_and, ↓reduceIte, reduceCtorEq, oneCell, setAt, readN, Nat.reduceAdd, Nat.reduceLeDiff, Nat.reduceMul, layAt, Nat.reduceLT, Nat.reduceEqDiff, setParams, Int.reduceLT, Int.reduceLE, Int.reduceGT, Int.reduceGE, Int.reduceEq, Int.reduceNe]
    refine Y_boxO O2 ?_
    intro b4 h4 O4 _
    replace O4 : Has ro h4 (Ob b4 (.cells [.int .i64 0, .int .u32 0] 1 false) :: Ob b2 (.cells [.int .i64 0, .int .u32 0] 1 false) :: Ob b1 (.cells [.int .i64 kd, .int .i64 nn, .slice (some ⟨b, off, sp⟩) B.length c] 1 false) :: R) := O4
    have g4 := O4.get 0 rfl
    have p4 := O4.can 0 rfl
    have g5 := O4.get 2 rfl
    have O5 := O4.set 0 rfl (.cells (ec ⟨(at8 B 0 : Int), 0⟩) 1 false)
    simp only [List.set_cons_zero] at O5
    have b0 := hB 0
    have y0 : IntKind.i64.wrap (at8 B 0 : Int) = (at8 B 0 : Int) := wrap_i64 (by omega) (by omega)
    have ce : ∀ x y : Int, cellsOf (.agg #[.int .i64 x, .int .u32 y]) = ec ⟨x, y⟩ := fun _ _ => rfl
    simp (disch := first | assumption | omega | (simp only [wkD, oneCell, Option.isSome_some, *]; done) | (simp only [wkE, ne_eq]; omega)) only [g4, p4, y0, ce, ec_len, tk_ec, tk_ec1, dr_ec1, agg_ec, ev_cells, set_ec, ec_one, wkF, X_region, X_block, X_loop, X_cond, Y_box, Y_un, Y_store, Y_append, Y_makeMap, Y_buildSlice, ibin_shl, ibin_shr, ibin_and, ↓reduceIte, reduceCtorEq, oneCell, setAt, readN, Nat.reduceAdd, Nat.reduceLeDiff, Nat.reduceMul, layAt, Nat.reduceLT, Nat.reduceEqDiff, setParams, Int.reduceLT, Int.reduceLE, Int.reduceGT, Int.reduceGE, Int.reduceEq, Int.reduceNe]
    clear g4 p4 g5
    rw [X_seq]
    generalize ho : (if at8 B 0 = 255 then -1 else (at8 B 0 : Int)) = o
    refine X_cut0 (fun s => s.tmps.length = 44 ∧ s.tmps.getD 1 undefV = .pointer (some ⟨b1, 0, none⟩) ∧ s.tmps.getD 2 undefV = .pointer (some ⟨b2, 0, none⟩) ∧ s.tmps.getD 4 undefV = .pointer (some ⟨b4, 0, none⟩) ∧ Has ro s.h (Ob b4 (.cells (ec ⟨o, 0⟩) 1 false) :: Ob b2 (.cells [.int .i64 0, .int .u32 0] 1 false) :: Ob b1 (.cells [.int .i64 kd, .int .i64 nn, .slice (some ⟨b, off, sp⟩) B.length c] 1 false) :: R)) ?_ ?_
    · have g5 := O5.get 2 rfl
      have g4 := O5.get 0 rfl
      have p4 := O5.can 0 rfl
      have r1 := rd [_, _, _] _ O5 0 (by omega)
      rw [Nat.add_zero] at r1
      by_cases h255 : at8 B 0 = 255
      · have h255' : ((at8 B 0 : Int) = 255) = True := eq_true (by omega)
        have O6 := O5.set 0 rfl (.cells (ec ⟨-1, 0⟩) 1 false)
        simp only [List.set_cons_zero] at O6
        have so : (ec ⟨(at8 B 0 : Int), 0⟩).set 0 (.int .i64 (-1)) = ec ⟨-1, 0⟩ := rfl
        simp (disch := first | assumption | omega | (simp only [wkD, oneCell, Option.isSome_some, *]; done) | (simp only [wkE, ne_eq]; omega)) only [g5, r1, i0, h255', g4, p4, ec_len, tk_ec, tk_ec1, dr_ec1, agg_ec, ev_cells, set_ec, ec_one, so, Int.toNat_zero, Nat.zero_mul, Nat.add_zero, Int.le_refl, wkF, X_region, X_seq, X_block, X_loop, X_cond, Y_box, Y_un, Y_store, Y_append, Y_makeMap, Y_buildSlice, ibin_shl, ibin_shr, ibin_and, ↓reduceIte, reduceCtorEq, oneCell, setAt, readN, Nat.reduceAdd, Nat.reduceLeDiff, Nat.reduceMul, layAt, Nat.reduceLT, Nat.reduceEqDiff, setParams, Int.reduceLT, Int.reduceLE, Int.reduceGT, Int.reduceGE, Int.reduceEq, Int.reduceNe]
        refine mid_in ⟨rfl, rfl, rfl, rfl, ?_⟩
        rw [if_pos h255] at ho
        subst ho
        exact O6
      · have h255' : ¬ (at8 B 0 : Int) = 255 := by omega
        simp (disch := first | assumption | omega | (simp only [wkD, oneCell, Option.isSome_some, *]; done) | (simp only [wkE, ne_eq]; omega)) only [g5, r1, i0, h255', Int.toNat_zero, Nat.zero_mul, Nat.add_zero, Int.le_refl, wkF, X_region, X_seq, X_block, X_loop, X_cond, Y_box, Y_un, Y_store, Y_append, Y_makeMap, Y_buildSlice, ibin_shl, ibin_shr, ibin_and, ↓reduceIte, reduceCtorEq, oneCell, setAt, readN, Nat.reduceAdd, Nat.reduceLeDiff, Nat.reduceMul, layAt, Nat.reduceLT, Nat.reduceEqDiff, setParams, Int.reduceLT, Int.reduceLE, Int.reduceGT, Int.reduceGE, Int.reduceEq, Int.reduceNe]
        refine mid_in ⟨rfl, rfl, rfl, rfl, ?_⟩
        rw [if_neg h255] at ho
        subst ho
        exact O5
    clear O1 O2 O4 O5 g1 r0 y0 kk
    rintro tm h6 ⟨hlen_, g1, g2, g4, O6⟩
    simp only at g1 g2 g4 O6
    obtain ⟨w, hg_, rfl⟩ := explode hlen_
    simp only [hg_] at g1 g2 g4
    clear hlen_ hg_
    have g61 := O6.get 2 rfl
    have vs : vSlice 1 (.slice (some ⟨b, off, sp⟩) B.length c) (some (.int .i64 1)) none none false = some (.slice (some ⟨b, off + 1, sp⟩) 4 (c - 1)) := by
      have := vSlice_l (z := 1) (lo := 1) (len := B.length) (cap := c) (k := .i64) (b := b) (off := off) (sp := sp) (by omega) hspot
      rw [h5] at this ⊢
      exact this
    simp (disch := first | assumption | omega | (simp only [wkD, oneCell, Option.isSome_some, *]; done) | (simp only [wkE, ne_eq]; omega)) only [kont_code, g1, g2, g4, g61, vs, wkF, X_region, X_seq, X_block, X_loop, X_cond, Y_box, Y_un, Y_store, Y_append, Y_makeMap, Y_buildSlice, ibin_shl, ibin_shr, ibin_and, ↓reduceIte, reduceCtorEq, oneCell, setAt, readN, Nat.reduceAdd, Nat.reduceLeDiff, Nat.reduceMul, layAt, Nat.reduceLT, Nat.reduceEqDiff, setParams, Int.reduceLT, Int.reduceLE, Int.reduceGT, Int.reduceGE, Int.reduceEq, Int.reduceNe]
    refine L_is (fun q s => ∃ i : Nat, q = 4 - i ∧ i ≤ 4 ∧ s.defers = [] ∧ s.tmps.length = 44 ∧ s.tmps.getD 1 undefV = .pointer (some ⟨b1, 0, none⟩) ∧ s.tmps.getD 2 undefV = .pointer (some ⟨b2, 0, none⟩) ∧ s.tmps.getD 4 undefV = .pointer (some ⟨b4, 0, none⟩) ∧ s.tmps.getD 26 undefV = .slice (some ⟨b, off + 1, sp⟩) 4 (c - 1) ∧ s.tmps.getD 27 undefV = .int .i64 4 ∧ s.tmps.getD 28 undefV = .int .i64 (i : Int) ∧ Has ro s.h (Ob b4 (.cells (ec ⟨o, (gen4 B i : Int)⟩) 1 false) :: Ob b2 (.cells [.int .i64 0, .int .u32 0] 1 false) :: Ob b1 (.cells [.int .i64 kd, .int .i64 nn, .slice (some ⟨b, off, sp⟩) B.length c] 1 false) :: R)) 4 ?_ (by omega) ?_
    · exact ⟨0, rfl, by omega, rfl, rfl, rfl, rfl, rfl, rfl, rfl, rfl, O6⟩
    clear O6 g61 g1 g2 g4
    rintro q tm df h7 ⟨i, hk, hi, hd, hlen_, g1, g2, g4, g26, g27, g28, O7⟩
    simp only at hd g1 g2 g4 g26 g27 g28 O7
    subst hd
    obtain ⟨w, hg_, rfl⟩ := explode hlen_
    simp only [hg_] at g1 g2 g4 g26 g27 g28
    clear hlen_ hg_
    have mm4 := O7.get 0 rfl
    have pm4 := O7.can 0 rfl
    by_cases h0 : i < 4
    · have h0' : (i : Int) < 4 := by omega
      have hi0 : (0 : Int) ≤ (i : Int) := by omega
      have h4c : (i : Int) < ((4 : Nat) : Int) := by omega
      have r1 := rd [_, _, _] _ O7 (i + 1) (by omega)
      rw [show off + (i + 1) = off + 1 + i by omega] at r1
      have gl := gen4_lt hB i
      have gl2 : gen4 B i < 16777216 := by
        have : 256 ^ i ≤ 256 ^ 3 := Nat.pow_le_pow_right (by omega) (by omega)
        have e : (256 : Nat) ^ 3 = 16777216 := by decide
        omega
      have bl := hB (i + 1)
      have yi : IntKind.i64.wrap ((i : Int) + 1) = ((i + 1 : Nat) : Int) := by rw [wrap_i64 (by omega) (by omega)]; omega
      have yc : IntKind.u32.wrap (at8 B (i + 1) : Int) = (at8 B (i + 1) : Int) := by rw [wrap_u32_mod]; omega
      have ys : ibin .shl (.int .u32 (gen4 B i : Int)) (.int .u64 8) = some (.int .u32 ((gen4 B i * 256 : Nat) : Int)) := by
        rw [ibin_shl _ _ _ _ (by omega)]
        congr 2
        have e : (2 : Int) ^ min (Int.toNat 8) IntKind.u32.bits = 256 := by decide
        rw [e, wrap_u32_mod]
        omega
      have yo := or_byte gl2 bl
      have O8 := O7.set 0 rfl (.cells (ec ⟨o, ((gen4 B i * 256 + at8 B (i + 1) : Nat) : Int)⟩) 1 false)
      simp only [List.set_cons_zero] at O8
      have so : ∀ g' : Int, (ec ⟨o, (gen4 B i : Int)⟩).set 1 (.int .u32 g') = ec ⟨o, g'⟩ := fun _ => rfl
      simp (disch := first | assumption | omega | (simp only [wkD, oneCell, Option.isSome_some, *]; done) | (simp only [wkE, ne_eq]; omega)) only [g1, g2, g4, g26, g27, g28, h0', hi0, h4c, r1, mm4, pm4, ec_len, tk_ec, tk_ec1, dr_ec1, agg_ec, ev_cells, set_ec, ec_one, Int.toNat_natCast, Nat.mul_one, ys, yc, yo, so, yi, wkF, X_region, X_seq, X_block, X_loop, X_cond, Y_box, Y_un, Y_store, Y_append, Y_makeMap, Y_buildSlice, ibin_shr, ibin_and, ↓reduceIte, reduceCtorEq, oneCell, setAt, readN, Nat.reduceAdd, Nat.reduceLeDiff, Nat.reduceMul, layAt, Nat.reduceLT, Nat.reduceEqDiff, setParams, Int.reduceLT, Int.reduceLE, Int.reduceGT, Int.reduceGE, Int.reduceEq, Int.reduceNe]
      exact Is_in ⟨4 - (i + 1), by omega, i + 1, rfl, h0, rfl, rfl, rfl, rfl, rfl, rfl, rfl, rfl, O8⟩
    have h0' : ¬ (i : Int) < 4 := by omega
    have hi4 : i = 4 := by omega
    subst hi4
    simp (disch := first | assumption | omega | (simp only [wkD, oneCell, Option.isSome_some, *]; done) | (simp only [wkE, ne_eq]; omega)) only [g1, g2, g4, g26, g27, g28, h0', wkF, X_region, X_seq, X_block, X_loop, X_cond, Y_box, Y_un, Y_store, Y_append, Y_makeMap, Y_buildSlice, ibin_shl, ibin_shr, ibin_and, ↓reduceIte, reduceCtorEq, oneCell, setAt, readN, Nat.reduceAdd, Nat.reduceLeDiff, Nat.reduceMul, layAt, Nat.reduceLT, Nat.reduceEqDiff, setParams, Int.reduceLT, Int.reduceLE, Int.reduceGT, Int.reduceGE, Int.reduceEq, Int.reduceNe]
    refine Is_in ?_
    simp (disch := first | assumption | omega | (simp only [wkD, oneCell, Option.isSome_some, *]; done) | (simp only [wkE, ne_eq]; omega)) only [g1, g2, g4, g26, g27, g28, wkF, X_region, X_seq, X_block, X_loop, X_cond, Y_box, Y_un, Y_store, Y_append, Y_makeMap, Y_buildSlice, ibin_shl, ibin_shr, ibin_and, ↓reduceIte, reduceCtorEq, oneCell, setAt, readN, Nat.reduceAdd, Nat.reduceLeDiff, Nat.reduceMul, layAt, Nat.reduceLT, Nat.reduceEqDiff, setParams, Int.reduceLT, Int.reduceLE, Int.reduceGT, Int.reduceGE, Int.reduceEq, Int.reduceNe]
    have ne := O7.ne 0 1 (by omega) rfl rfl
    have i4 := O7.info (i := 0) rfl
    have i2 := O7.info (i := 1) rfl
    have hne2 : b4 / 2 ≠ b2 / 2 := by have := i4.2.1; have := i2.2.1; omega
    refine X_plan [[], [], [], [], [b2 / 2]] O7.fine ?_
    have pl4 : ∀ k, b4 / 2 ∉ ([[], [], [], [], [b2 / 2]] : List (List Nat)).getD k [] := by
      intro k hm
      match k, hm with
      | 0, hm => cases hm
      | 1, hm => cases hm
      | 2, hm => cases hm
      | 3, hm => cases hm
      | 4, hm => exact hne2 (List.mem_singleton.1 hm)
      | _ + 5, hm => cases hm
    have er : rdE B = (⟨o, (gen4 B 4 : Int)⟩, decide ((⟨o, (gen4 B 4 : Int)⟩ : En) ≠ e0)) := by
      unfold rdE
      rw [if_pos h5, ho]
    have r4 : readC (h7.get b4) 0 2 = some (ec ⟨o, (gen4 B 4 : Int)⟩) := by rw [mm4]; rfl
    refine Dp.loadFN (b := b4) (off := 0) rfl r4 (fun k _ => pl4 k) (fun x hx => by cases hx) ?_
    simp only [putDst_some, putDst_none, List.set_cons_succ, List.set_cons_zero]
    refine Dp.loadFN (b := b4) (off := 0) rfl r4 (fun k _ => pl4 k) (fun x hx => by cases hx) ?_
    simp only [putDst_some, putDst_none, List.set_cons_succ, List.set_cons_zero]
    refine Dp.callFree (R := fun p => p.1 = ev e0 ∧ Ext h7 p.2) O7.fine (T.Is.mono (fun _ _ => trivial) (first_e (n := n + 4) (seenBy_fine O7.fine (fun x hx => by cases hx)))) (first_e (n := n + 4) O7.fine) ?_
    rintro v8 h8 ⟨rfl, e8⟩
    simp only at e8
    have O8 := O7.ext e8
    simp only [putDst_some, putDst_none, List.set_cons_succ, List.set_cons_zero]
    refine Dp.eqAgg (a := ev ⟨o, (gen4 B 4 : Int)⟩) (b := ev e0) rfl rfl (eq_ev true _ _) ?_
    simp only [putDst_some, putDst_none, List.set_cons_succ, List.set_cons_zero]
    refine Dp.storeF (b := b2) (off := 0) O8 1 rfl rfl rfl (by decide) rfl (by simp) ?_ ?_ ?_
    · intro k hu hm
      match k, hu, hm with
      | 0, _, hm => cases hm
      | 1, _, hm => cases hm
      | 2, _, hm => cases hm
      | 3, _, hm => cases hm
      | 4, hu, hm => simp [unord] at hu
      | _ + 5, _, hm => cases hm
    · intro x hx
      split at hx
      · rcases List.mem_cons.1 hx with rfl | hx
        · left
          show b2 / 2 < h7.next
          have := i2.2.2.2.1
          omega
        · cases hx
      · cases hx
    · intro h9 O9 _
      simp only [List.set_cons_succ, List.set_cons_zero, putDst_some, putDst_none] at O9 ⊢
      refine Dp.move ?_
      simp only [putDst_some, putDst_none, List.set_cons_succ, List.set_cons_zero]
      refine Dp.nil ?_
      simp (disch := first | assumption | omega | (simp only [wkD, oneCell, Option.isSome_some, *]; done) | (simp only [wkE, ne_eq]; omega)) only [kont_code, wkF, X_region, X_seq, X_block, X_loop, X_cond, Y_box, Y_un, Y_store, Y_append, Y_makeMap, Y_buildSlice, ibin_shl, ibin_shr, ibin_and, ↓reduceIte, reduceCtorEq, oneCell, setAt, readN, Nat.reduceAdd, Nat.reduceLeDiff, Nat.reduceMul, layAt, Nat.reduceLT, Nat.reduceEqDiff, setParams, Int.reduceLT, Int.reduceLE, Int.reduceGT, Int.reduceGE, Int.reduceEq, Int.reduceNe]
      have hdd : (decide ((⟨o, (gen4 B 4 : Int)⟩ : En) = e0) != true) = decide ((⟨o, (gen4 B 4 : Int)⟩ : En) ≠ e0) := by
        by_cases hx : (⟨o, (gen4 B 4 : Int)⟩ : En) = e0 <;> simp [hx]
      rw [er, hdd]
      exact leafO _ (answer2 _ _ _ _ (cellN O9 1 rfl rfl rfl) rfl) ⟨rfl, O9.drop.drop.drop⟩
  · have h5' : ¬ (B.length : Int) = 5 := by omega
    have er : rdE B = (⟨0, 0⟩, false) := by unfold rdE; rw [if_neg h5]
    have g2 := O2.get 0 rfl
    have p2 := O2.can 0 rfl
    simp (disch := first | assumption | omega | (simp only [wkD, oneCell, Option.isSome_some, *]; done) | (simp only [wkE, ne_eq]; omega)) only [g1, h5', g2, p2, z_cells, z_set, wkF, X_region, X_seq, X_block, X_loop, X_cond, Y_box, Y_un, Y_store, Y_append, Y_makeMap, Y_buildSlice, ibin_shl, ibin_shr, ibin_and, ↓reduceIte, reduceCtorEq, oneCell, setAt, readN, Nat.reduceAdd, Nat.reduceLeDiff, Nat.reduceMul, layAt, Nat.reduceLT, Nat.reduceEqDiff, setParams, Int.reduceLT, Int.reduceLE, Int.reduceGT, Int.reduceGE, Int.reduceEq, Int.reduceNe]
    rw [er]
    have O3 := O2.set 0 rfl (.cells [.int .i64 0, .int .u32 0] 1 false)
    exact leafO _ (answer2 _ _ _ _ (cellN O3 0 rfl rfl rfl) rfl) ⟨rfl, O3.drop.drop⟩
end
end Go.Proofs.Ytmpnldmdchchjaa
