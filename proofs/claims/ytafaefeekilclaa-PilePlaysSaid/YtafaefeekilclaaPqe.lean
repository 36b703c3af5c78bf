/-
  Sorting: what the functions of the package slices leave, as its plain form says.
-/
import Derived.Test.YtafaefeekilclaaFk
import Derived.Test.YtafaefeekilclaaHeap
import Derived.Sort.AssemblyPlain
import Derived.Sort.LotD5
import Derived.Test.YtafaefeekilclaaPqa
namespace Go.Proofs.Ytafaefeekilclaa
open Go Go.Ideal
set_option maxHeartbeats 0
set_option linter.unusedSimpArgs false
set_option linter.unusedVariables false
set_option maxRecDepth 100000
attribute [local irreducible] callV T.All T.Is run
theorem env39 : env 39 = some ir39 := rfl

theorem ss_go {lt : It → It → Bool} {d : Array It} {b i : Nat} (h : i < b) (hp : lt d[i]! d[i - 1]! = false) : Sort.scanSorted lt d b i = Sort.scanSorted lt d b (i + 1) := by
  rw [Sort.scanSorted, if_pos (by simp [h, hp])]
theorem ss_stop {lt : It → It → Bool} {d : Array It} {b i : Nat} (h : ¬ (i < b ∧ lt d[i]! d[i - 1]! = false)) : Sort.scanSorted lt d b i = i := by
  rw [Sort.scanSorted, if_neg (by simpa using h)]

theorem pins_ok {n b lo hi cap zz m : Nat} {sp : Option Nat} {h : Heap} {d : Array It} {rest : List Value} {t : Bool} {ro : Nat → Option (List Value × Nat)} {R : List Rs} (hn : m + 20 < n) (hm2 : m < 1000000) (hm : d.size = m) (O : Has ro h (Ar b d rest zz t :: R)) (hlo : lo < hi) (hhi : hi ≤ m) :
    (callV env (n + 5) (.func (.func 39) #[] #[]) [.slice (some ⟨b, 0, sp⟩) m cap, .int .i64 (lo : Int), .int .i64 (hi : Int), .func (.func 27) #[] #[]] h).Is fun p => p.1 = .bool (Sort.partialInsertionSort ltI d lo hi).2 ∧ Has ro p.2 (Ar b (Sort.partialInsertionSort ltI d lo hi).1 rest zz t :: R) ∧ (Sort.partialInsertionSort ltI d lo hi).1.size = m := by
  refine call_is env39 ?_
  have y1 : IntKind.i64.wrap ((lo : Int) + 1) = ((lo + 1 : Nat) : Int) := by rw [wrap_i64 (by omega) (by omega)]; omega
  simp (disch := first | assumption | omega | (simp only [wkD, oneCell, Option.isSome_some, *]; done) | (simp only [wkE, ne_eq]; omega)) only [ir39, List.append_nil, List.nil_append, List.cons_append, List.length_cons, List.length_nil, Nat.reduceAdd, Nat.reduceSub, List.replicate_succ, List.replicate_zero, y1, wk0, wk1, wk2, wk3, wk4, wk5, X_region, X_seq, X_block, X_loop, X_cond, Y_box, Y_un, Y_store, Y_append, Y_makeMap, Y_buildSlice, ibin_shl, ibin_shr, ibin_and, List.set_cons_zero, List.set_cons_succ, List.getD_cons_zero, List.getD_cons_succ, List.map_cons, List.map_nil, ↓reduceIte, reduceCtorEq, oneCell, List.length_cons, List.length_nil, setAt, readN, bne_iff_ne, ne_eq, Nat.reduceAdd, Nat.reduceLeDiff, List.getElem?_cons_zero, List.getElem?_cons_succ, Nat.reduceMul, Option.isSome_some, layAt, Nat.reduceLT, Option.isNone_some, Option.isNone_none, beq_self_eq_true, Nat.reduceEqDiff, setParams, Int.reduceLT, Int.reduceLE, Int.reduceGT, Int.reduceGE, Int.reduceEq, Int.reduceNe, Option.map_some, Option.map_none, Option.isSome_none]
  refine L_is (fun q s => ∃ (st i : Nat) (d1 : Array It), s.defers = [] ∧ s.tmps.length = 141 ∧ s.tmps.getD 0 undefV = .slice (some ⟨b, 0, sp⟩) m cap ∧ s.tmps.getD 1 undefV = .int .i64 ((lo : Nat) : Int) ∧ s.tmps.getD 2 undefV = .int .i64 ((hi : Nat) : Int) ∧ s.tmps.getD 3 undefV = .func (.func 27) #[] #[] ∧ s.tmps.getD 9 undefV = .int .i64 ((i : Nat) : Int) ∧ s.tmps.getD 10 undefV = .int .i64 ((5 - st : Nat) : Int) ∧ q = st ∧ st ≤ 5 ∧ lo + 1 ≤ i ∧ i ≤ hi ∧ d1.size = m ∧ Has ro s.h (Ar b d1 rest zz t :: R) ∧ Sort.partialIns ltI lo hi st i d1 = Sort.partialInsertionSort ltI d lo hi) 5 ?_ (by omega) ?_
  · exact ⟨5, lo + 1, d, rfl, rfl, rfl, rfl, rfl, rfl, rfl, rfl, rfl, by omega, by omega, by omega, hm, O, rfl⟩
  clear O
  rintro q tm df h1 ⟨st, i, d1, hd, hlen_, g0, g1, g2, g3, g9, g10, hq, p1, p2, p3, hs, O, hE⟩
  simp only at hd g0 g1 g2 g3 g9 g10 O
  subst hd
  obtain ⟨w, hg_, rfl⟩ := explode hlen_
  simp only [hg_] at g0 g1 g2 g3 g9 g10
  clear hlen_ hg_
  rcases st with _ | st
  · have hk : ¬ (((5 - 0 : Nat) : Int) < 5) := by omega
    simp (disch := first | assumption | omega | (simp only [wkD, oneCell, Option.isSome_some, *]; done) | (simp only [wkE, ne_eq]; omega)) only [g0, g1, g2, g3, g9, g10, hk, wk0, wk1, wk2, wk3, wk4, wk5, X_region, X_seq, X_block, X_loop, X_cond, Y_box, Y_un, Y_store, Y_append, Y_makeMap, Y_buildSlice, ibin_shl, ibin_shr, ibin_and, List.set_cons_zero, List.set_cons_succ, List.getD_cons_zero, List.getD_cons_succ, List.map_cons, List.map_nil, ↓reduceIte, reduceCtorEq, oneCell, List.length_cons, List.length_nil, setAt, readN, bne_iff_ne, ne_eq, Nat.reduceAdd, Nat.reduceLeDiff, List.getElem?_cons_zero, List.getElem?_cons_succ, Nat.reduceMul, Option.isSome_some, layAt, Nat.reduceLT, Option.isNone_some, Option.isNone_none, beq_self_eq_true, Nat.reduceEqDiff, setParams, Int.reduceLT, Int.reduceLE, Int.reduceGT, Int.reduceGE, Int.reduceEq, Int.reduceNe, Option.map_some, Option.map_none, Option.isSome_none]
    refine Is_in ?_
    simp (disch := first | assumption | omega | (simp only [wkD, oneCell, Option.isSome_some, *]; done) | (simp only [wkE, ne_eq]; omega)) only [wk0, wk1, wk2, wk3, wk4, wk5, X_region, X_seq, X_block, X_loop, X_cond, Y_box, Y_un, Y_store, Y_append, Y_makeMap, Y_buildSlice, ibin_shl, ibin_shr, ibin_and, List.set_cons_zero, List.set_cons_succ, List.getD_cons_zero, List.getD_cons_succ, List.map_cons, List.map_nil, ↓reduceIte, reduceCtorEq, oneCell, List.length_cons, List.length_nil, setAt, readN, bne_iff_ne, ne_eq, Nat.reduceAdd, Nat.reduceLeDiff, List.getElem?_cons_zero, List.getElem?_cons_succ, Nat.reduceMul, Option.isSome_some, layAt, Nat.reduceLT, Option.isNone_some, Option.isNone_none, beq_self_eq_true, Nat.reduceEqDiff, setParams, Int.reduceLT, Int.reduceLE, Int.reduceGT, Int.reduceGE, Int.reduceEq, Int.reduceNe, Option.map_some, Option.map_none, Option.isSome_none]
    rw [Sort.partialIns] at hE
    rw [← hE]
    exact leaf1 ⟨rfl, O, hs⟩
  have hk : ((5 - (st + 1) : Nat) : Int) < 5 := by omega
  simp (disch := first | assumption | omega | (simp only [wkD, oneCell, Option.isSome_some, *]; done) | (simp only [wkE, ne_eq]; omega)) only [g0, g1, g2, g3, g9, g10, hk, wk0, wk1, wk2, wk3, wk4, wk5, X_region, X_seq, X_block, X_loop, X_cond, Y_box, Y_un, Y_store, Y_append, Y_makeMap, Y_buildSlice, ibin_shl, ibin_shr, ibin_and, List.set_cons_zero, List.set_cons_succ, List.getD_cons_zero, List.getD_cons_succ, List.map_cons, List.map_nil, ↓reduceIte, reduceCtorEq, oneCell, List.length_cons, List.length_nil, setAt, readN, bne_iff_ne, ne_eq, Nat.reduceAdd, Nat.reduceLeDiff, List.getElem?_cons_zero, List.getElem?_cons_succ, Nat.reduceMul, Option.isSome_some, layAt, Nat.reduceLT, Option.isNone_some, Option.isNone_none, beq_self_eq_true, Nat.reduceEqDiff, setParams, Int.reduceLT, Int.reduceLE, Int.reduceGT, Int.reduceGE, Int.reduceEq, Int.reduceNe, Option.map_some, Option.map_none, Option.isSome_none]
  refine L_cut1 (fun s => ∃ i2 : Nat, s.tmps.length = 141 ∧ s.tmps.getD 0 undefV = .slice (some ⟨b, 0, sp⟩) m cap ∧ s.tmps.getD 1 undefV = .int .i64 ((lo : Nat) : Int) ∧ s.tmps.getD 2 undefV = .int .i64 ((hi : Nat) : Int) ∧ s.tmps.getD 3 undefV = .func (.func 27) #[] #[] ∧ s.tmps.getD 9 undefV = .int .i64 ((i2 : Nat) : Int) ∧ s.tmps.getD 10 undefV = .int .i64 ((5 - (st + 1) : Nat) : Int) ∧ Has ro s.h (Ar b d1 rest zz t :: R) ∧ i2 = Sort.scanSorted ltI d1 hi i ∧ lo + 1 ≤ i2 ∧ i2 ≤ hi) ?_ ?_
  · refine L_is (fun q s => ∃ (i2 : Nat), s.defers = [] ∧ s.tmps.length = 141 ∧ s.tmps.getD 0 undefV = .slice (some ⟨b, 0, sp⟩) m cap ∧ s.tmps.getD 1 undefV = .int .i64 ((lo : Nat) : Int) ∧ s.tmps.getD 2 undefV = .int .i64 ((hi : Nat) : Int) ∧ s.tmps.getD 3 undefV = .func (.func 27) #[] #[] ∧ s.tmps.getD 9 undefV = .int .i64 ((i2 : Nat) : Int) ∧ s.tmps.getD 10 undefV = .int .i64 ((5 - (st + 1) : Nat) : Int) ∧ q = hi - i2 ∧ lo + 1 ≤ i2 ∧ i2 ≤ hi ∧ Has ro s.h (Ar b d1 rest zz t :: R) ∧ Sort.scanSorted ltI d1 hi i2 = Sort.scanSorted ltI d1 hi i) (hi - i) ?_ (by omega) ?_
    · exact ⟨i, rfl, rfl, rfl, rfl, rfl, rfl, rfl, rfl, rfl, by omega, by omega, O, rfl⟩
    clear O g0 g1 g2 g3 g9 g10
    rintro q tm df h7 ⟨i2, hd, hlen_, g0, g1, g2, g3, g9, g10, hq, q1, q2, O, hE2⟩
    simp only at hd g0 g1 g2 g3 g9 g10 O
    subst hd
    obtain ⟨w, hg_, rfl⟩ := explode hlen_
    simp only [hg_] at g0 g1 g2 g3 g9 g10
    clear hlen_ hg_
    simp (disch := first | assumption | omega | (simp only [wkD, oneCell, Option.isSome_some, *]; done) | (simp only [wkE, ne_eq]; omega)) only [g0, g1, g2, g3, g9, g10, wk0, wk1, wk2, wk3, wk4, wk5, X_region, X_seq, X_block, X_loop, X_cond, Y_box, Y_un, Y_store, Y_append, Y_makeMap, Y_buildSlice, ibin_shl, ibin_shr, ibin_and, List.set_cons_zero, List.set_cons_succ, List.getD_cons_zero, List.getD_cons_succ, List.map_cons, List.map_nil, ↓reduceIte, reduceCtorEq, oneCell, List.length_cons, List.length_nil, setAt, readN, bne_iff_ne, ne_eq, Nat.reduceAdd, Nat.reduceLeDiff, List.getElem?_cons_zero, List.getElem?_cons_succ, Nat.reduceMul, Option.isSome_some, layAt, Nat.reduceLT, Option.isNone_some, Option.isNone_none, beq_self_eq_true, Nat.reduceEqDiff, setParams, Int.reduceLT, Int.reduceLE, Int.reduceGT, Int.reduceGE, Int.reduceEq, Int.reduceNe, Option.map_some, Option.map_none, Option.isSome_none]
    refine X_drawn _ fun an => ?_
    by_cases hij : i2 < hi
    · have hij' : (i2 : Int) < (hi : Int) := by omega
      have y9 : IntKind.i64.wrap ((i2 : Int) + 1) = ((i2 + 1 : Nat) : Int) := by rw [wrap_i64 (by omega) (by omega)]; omega
      have y8 : IntKind.i64.wrap ((i2 : Int) - 1) = ((i2 - 1 : Nat) : Int) := by rw [wrap_i64 (by omega) (by omega)]; omega
      have r1 := rdA O (k := i2) (by omega)
      have r2 := rdA O (k := i2 - 1) (by omega)
      have c1 : (0 : Int) ≤ (i2 : Int) := by omega
      have c2 : (i2 : Int) < (m : Int) := by omega
      have c3 : (0 : Int) ≤ ((i2 - 1 : Nat) : Int) := by omega
      have c4 : ((i2 - 1 : Nat) : Int) < (m : Int) := by omega
      simp (disch := first | assumption | omega | (simp only [wkD, oneCell, Option.isSome_some, *]; done) | (simp only [wkE, ne_eq]; omega)) only [g0, g1, g2, g3, g9, g10, hij', y8, r1, r2, c1, c2, c3, c4, Int.toNat_natCast, agg_ic, wk0, wk1, wk2, wk3, wk4, wk5, X_region, X_seq, X_block, X_loop, X_cond, Y_box, Y_un, Y_store, Y_append, Y_makeMap, Y_buildSlice, ibin_shl, ibin_shr, ibin_and, List.set_cons_zero, List.set_cons_succ, List.getD_cons_zero, List.getD_cons_succ, List.map_cons, List.map_nil, ↓reduceIte, reduceCtorEq, oneCell, List.length_cons, List.length_nil, setAt, readN, bne_iff_ne, ne_eq, Nat.reduceAdd, Nat.reduceLeDiff, List.getElem?_cons_zero, List.getElem?_cons_succ, Nat.reduceMul, Option.isSome_some, layAt, Nat.reduceLT, Option.isNone_some, Option.isNone_none, beq_self_eq_true, Nat.reduceEqDiff, setParams, Int.reduceLT, Int.reduceLE, Int.reduceGT, Int.reduceGE, Int.reduceEq, Int.reduceNe, Option.map_some, Option.map_none, Option.isSome_none]
      refine DB_is (cmp_ok (n := n) (by omega) O.fine d1[i2]! d1[i2 - 1]!) ?_
      rintro v8 h8 ⟨rfl, e8⟩
      simp only at e8
      replace O := O.ext e8
      by_cases hc : cmpI d1[i2]! d1[i2 - 1]! < 0
      · simp (disch := first | assumption | omega | (simp only [wkD, oneCell, Option.isSome_some, *]; done) | (simp only [wkE, ne_eq]; omega)) only [hc, wk0, wk1, wk2, wk3, wk4, wk5, X_region, X_seq, X_block, X_loop, X_cond, Y_box, Y_un, Y_store, Y_append, Y_makeMap, Y_buildSlice, ibin_shl, ibin_shr, ibin_and, List.set_cons_zero, List.set_cons_succ, List.getD_cons_zero, List.getD_cons_succ, List.map_cons, List.map_nil, ↓reduceIte, reduceCtorEq, oneCell, List.length_cons, List.length_nil, setAt, readN, bne_iff_ne, ne_eq, Nat.reduceAdd, Nat.reduceLeDiff, List.getElem?_cons_zero, List.getElem?_cons_succ, Nat.reduceMul, Option.isSome_some, layAt, Nat.reduceLT, Option.isNone_some, Option.isNone_none, beq_self_eq_true, Nat.reduceEqDiff, setParams, Int.reduceLT, Int.reduceLE, Int.reduceGT, Int.reduceGE, Int.reduceEq, Int.reduceNe, Option.map_some, Option.map_none, Option.isSome_none]
        refine Is_in ?_
        simp (disch := first | assumption | omega | (simp only [wkD, oneCell, Option.isSome_some, *]; done) | (simp only [wkE, ne_eq]; omega)) only [wk0, wk1, wk2, wk3, wk4, wk5, X_region, X_seq, X_block, X_loop, X_cond, Y_box, Y_un, Y_store, Y_append, Y_makeMap, Y_buildSlice, ibin_shl, ibin_shr, ibin_and, List.set_cons_zero, List.set_cons_succ, List.getD_cons_zero, List.getD_cons_succ, List.map_cons, List.map_nil, ↓reduceIte, reduceCtorEq, oneCell, List.length_cons, List.length_nil, setAt, readN, bne_iff_ne, ne_eq, Nat.reduceAdd, Nat.reduceLeDiff, List.getElem?_cons_zero, List.getElem?_cons_succ, Nat.reduceMul, Option.isSome_some, layAt, Nat.reduceLT, Option.isNone_some, Option.isNone_none, beq_self_eq_true, Nat.reduceEqDiff, setParams, Int.reduceLT, Int.reduceLE, Int.reduceGT, Int.reduceGE, Int.reduceEq, Int.reduceNe, Option.map_some, Option.map_none, Option.isSome_none]
        exact mid_in ⟨i2, rfl, rfl, rfl, rfl, rfl, rfl, rfl, O, by rw [← hE2, ss_stop (fun e => by have := e.2; rw [ltI_t hc] at this; cases this)], by omega, by omega⟩
      · simp (disch := first | assumption | omega | (simp only [wkD, oneCell, Option.isSome_some, *]; done) | (simp only [wkE, ne_eq]; omega)) only [hc, y9, wk0, wk1, wk2, wk3, wk4, wk5, X_region, X_seq, X_block, X_loop, X_cond, Y_box, Y_un, Y_store, Y_append, Y_makeMap, Y_buildSlice, ibin_shl, ibin_shr, ibin_and, List.set_cons_zero, List.set_cons_succ, List.getD_cons_zero, List.getD_cons_succ, List.map_cons, List.map_nil, ↓reduceIte, reduceCtorEq, oneCell, List.length_cons, List.length_nil, setAt, readN, bne_iff_ne, ne_eq, Nat.reduceAdd, Nat.reduceLeDiff, List.getElem?_cons_zero, List.getElem?_cons_succ, Nat.reduceMul, Option.isSome_some, layAt, Nat.reduceLT, Option.isNone_some, Option.isNone_none, beq_self_eq_true, Nat.reduceEqDiff, setParams, Int.reduceLT, Int.reduceLE, Int.reduceGT, Int.reduceGE, Int.reduceEq, Int.reduceNe, Option.map_some, Option.map_none, Option.isSome_none]
        exact Is_in ⟨hi - (i2 + 1), by omega, i2 + 1, rfl, rfl, rfl, rfl, rfl, rfl, rfl, rfl, rfl, by omega, by omega, O, by rw [← hE2]; exact (ss_go hij (ltI_n hc)).symm⟩
    · have hij' : ¬ (i2 : Int) < (hi : Int) := by omega
      simp (disch := first | assumption | omega | (simp only [wkD, oneCell, Option.isSome_some, *]; done) | (simp only [wkE, ne_eq]; omega)) only [g0, g1, g2, g3, g9, g10, hij', wk0, wk1, wk2, wk3, wk4, wk5, X_region, X_seq, X_block, X_loop, X_cond, Y_box, Y_un, Y_store, Y_append, Y_makeMap, Y_buildSlice, ibin_shl, ibin_shr, ibin_and, List.set_cons_zero, List.set_cons_succ, List.getD_cons_zero, List.getD_cons_succ, List.map_cons, List.map_nil, ↓reduceIte, reduceCtorEq, oneCell, List.length_cons, List.length_nil, setAt, readN, bne_iff_ne, ne_eq, Nat.reduceAdd, Nat.reduceLeDiff, List.getElem?_cons_zero, List.getElem?_cons_succ, Nat.reduceMul, Option.isSome_some, layAt, Nat.reduceLT, Option.isNone_some, Option.isNone_none, beq_self_eq_true, Nat.reduceEqDiff, setParams, Int.reduceLT, Int.reduceLE, Int.reduceGT, Int.reduceGE, Int.reduceEq, Int.reduceNe, Option.map_some, Option.map_none, Option.isSome_none]
      refine Is_in ?_
      simp (disch := first | assumption | omega | (simp only [wkD, oneCell, Option.isSome_some, *]; done) | (simp only [wkE, ne_eq]; omega)) only [wk0, wk1, wk2, wk3, wk4, wk5, X_region, X_seq, X_block, X_loop, X_cond, Y_box, Y_un, Y_store, Y_append, Y_makeMap, Y_buildSlice, ibin_shl, ibin_shr, ibin_and, List.set_cons_zero, List.set_cons_succ, List.getD_cons_zero, List.getD_cons_succ, List.map_cons, List.map_nil, ↓reduceIte, reduceCtorEq, oneCell, List.length_cons, List.length_nil, setAt, readN, bne_iff_ne, ne_eq, Nat.reduceAdd, Nat.reduceLeDiff, List.getElem?_cons_zero, List.getElem?_cons_succ, Nat.reduceMul, Option.isSome_some, layAt, Nat.reduceLT, Option.isNone_some, Option.isNone_none, beq_self_eq_true, Nat.reduceEqDiff, setParams, Int.reduceLT, Int.reduceLE, Int.reduceGT, Int.reduceGE, Int.reduceEq, Int.reduceNe, Option.map_some, Option.map_none, Option.isSome_none]
      exact mid_in ⟨i2, rfl, rfl, rfl, rfl, rfl, rfl, rfl, O, by rw [← hE2, ss_stop (fun e => hij e.1)], by omega, by omega⟩
  clear O g0 g1 g2 g3 g9 g10
  rintro tm h2 ⟨i2, hlen_, g0, g1, g2, g3, g9, g10, O, hi2, q1, q2⟩
  simp only at g0 g1 g2 g3 g9 g10 O
  obtain ⟨w, hg_, rfl⟩ := explode hlen_
  simp only [hg_] at g0 g1 g2 g3 g9 g10
  clear hlen_ hg_
  rw [Sort.partialIns] at hE
  simp only [] at hE
  rw [← hi2] at hE
  have y3 : IntKind.i64.wrap ((hi : Int) - (lo : Int)) = ((hi - lo : Nat) : Int) := by rw [wrap_i64 (by omega) (by omega)]; omega
  by_cases e1 : i2 = hi
  · have e1' : decide ((i2 : Int) = (hi : Int)) = true := decide_eq_true (by omega)
    simp (disch := first | assumption | omega | (simp only [wkD, oneCell, Option.isSome_some, *]; done) | (simp only [wkE, ne_eq]; omega)) only [g0, g1, g2, g3, g9, g10, e1', wk0, wk1, wk2, wk3, wk4, wk5, X_region, X_seq, X_block, X_loop, X_cond, Y_box, Y_un, Y_store, Y_append, Y_makeMap, Y_buildSlice, ibin_shl, ibin_shr, ibin_and, List.set_cons_zero, List.set_cons_succ, List.getD_cons_zero, List.getD_cons_succ, List.map_cons, List.map_nil, ↓reduceIte, reduceCtorEq, oneCell, List.length_cons, List.length_nil, setAt, readN, bne_iff_ne, ne_eq, Nat.reduceAdd, Nat.reduceLeDiff, List.getElem?_cons_zero, List.getElem?_cons_succ, Nat.reduceMul, Option.isSome_some, layAt, Nat.reduceLT, Option.isNone_some, Option.isNone_none, beq_self_eq_true, Nat.reduceEqDiff, setParams, Int.reduceLT, Int.reduceLE, Int.reduceGT, Int.reduceGE, Int.reduceEq, Int.reduceNe, Option.map_some, Option.map_none, Option.isSome_none]
    refine Is_in ?_
    simp (disch := first | assumption | omega | (simp only [wkD, oneCell, Option.isSome_some, *]; done) | (simp only [wkE, ne_eq]; omega)) only [wk0, wk1, wk2, wk3, wk4, wk5, X_region, X_seq, X_block, X_loop, X_cond, Y_box, Y_un, Y_store, Y_append, Y_makeMap, Y_buildSlice, ibin_shl, ibin_shr, ibin_and, List.set_cons_zero, List.set_cons_succ, List.getD_cons_zero, List.getD_cons_succ, List.map_cons, List.map_nil, ↓reduceIte, reduceCtorEq, oneCell, List.length_cons, List.length_nil, setAt, readN, bne_iff_ne, ne_eq, Nat.reduceAdd, Nat.reduceLeDiff, List.getElem?_cons_zero, List.getElem?_cons_succ, Nat.reduceMul, Option.isSome_some, layAt, Nat.reduceLT, Option.isNone_some, Option.isNone_none, beq_self_eq_true, Nat.reduceEqDiff, setParams, Int.reduceLT, Int.reduceLE, Int.reduceGT, Int.reduceGE, Int.reduceEq, Int.reduceNe, Option.map_some, Option.map_none, Option.isSome_none]
    rw [if_pos e1] at hE
    rw [← hE]
    exact leaf1 ⟨rfl, O, hs⟩
  have e1' : decide ((i2 : Int) = (hi : Int)) = false := decide_eq_false (by omega)
  rw [if_neg e1] at hE
  by_cases e2 : hi - lo < 50
  · have e2' : ((hi - lo : Nat) : Int) < 50 := by omega
    simp (disch := first | assumption | omega | (simp only [wkD, oneCell, Option.isSome_some, *]; done) | (simp only [wkE, ne_eq]; omega)) only [g0, g1, g2, g3, g9, g10, e1', y3, e2', wk0, wk1, wk2, wk3, wk4, wk5, X_region, X_seq, X_block, X_loop, X_cond, Y_box, Y_un, Y_store, Y_append, Y_makeMap, Y_buildSlice, ibin_shl, ibin_shr, ibin_and, List.set_cons_zero, List.set_cons_succ, List.getD_cons_zero, List.getD_cons_succ, List.map_cons, List.map_nil, ↓reduceIte, reduceCtorEq, oneCell, List.length_cons, List.length_nil, setAt, readN, bne_iff_ne, ne_eq, Nat.reduceAdd, Nat.reduceLeDiff, List.getElem?_cons_zero, List.getElem?_cons_succ, Nat.reduceMul, Option.isSome_some, layAt, Nat.reduceLT, Option.isNone_some, Option.isNone_none, beq_self_eq_true, Nat.reduceEqDiff, setParams, Int.reduceLT, Int.reduceLE, Int.reduceGT, Int.reduceGE, Int.reduceEq, Int.reduceNe, Option.map_some, Option.map_none, Option.isSome_none]
    refine Is_in ?_
    simp (disch := first | assumption | omega | (simp only [wkD, oneCell, Option.isSome_some, *]; done) | (simp only [wkE, ne_eq]; omega)) only [wk0, wk1, wk2, wk3, wk4, wk5, X_region, X_seq, X_block, X_loop, X_cond, Y_box, Y_un, Y_store, Y_append, Y_makeMap, Y_buildSlice, ibin_shl, ibin_shr, ibin_and, List.set_cons_zero, List.set_cons_succ, List.getD_cons_zero, List.getD_cons_succ, List.map_cons, List.map_nil, ↓reduceIte, reduceCtorEq, oneCell, List.length_cons, List.length_nil, setAt, readN, bne_iff_ne, ne_eq, Nat.reduceAdd, Nat.reduceLeDiff, List.getElem?_cons_zero, List.getElem?_cons_succ, Nat.reduceMul, Option.isSome_some, layAt, Nat.reduceLT, Option.isNone_some, Option.isNone_none, beq_self_eq_true, Nat.reduceEqDiff, setParams, Int.reduceLT, Int.reduceLE, Int.reduceGT, Int.reduceGE, Int.reduceEq, Int.reduceNe, Option.map_some, Option.map_none, Option.isSome_none]
    rw [if_pos e2] at hE
    rw [← hE]
    exact leaf1 ⟨rfl, O, hs⟩
  have e2' : ¬ ((hi - lo : Nat) : Int) < 50 := by omega
  rw [if_neg e2] at hE
  have y8 : IntKind.i64.wrap ((i2 : Int) - 1) = ((i2 - 1 : Nat) : Int) := by rw [wrap_i64 (by omega) (by omega)]; omega
  have y7 : IntKind.i64.wrap ((i2 : Int) - (lo : Int)) = ((i2 - lo : Nat) : Int) := by rw [wrap_i64 (by omega) (by omega)]; omega
  have y6 : IntKind.i64.wrap ((hi : Int) - (i2 : Int)) = ((hi - i2 : Nat) : Int) := by rw [wrap_i64 (by omega) (by omega)]; omega
  have y5 : IntKind.i64.wrap ((i2 : Int) + 1) = ((i2 + 1 : Nat) : Int) := by rw [wrap_i64 (by omega) (by omega)]; omega
  simp (disch := first | assumption | omega | (simp only [wkD, oneCell, Option.isSome_some, *]; done) | (simp only [wkE, ne_eq]; omega)) only [g0, g1, g2, g3, g9, g10, e1', y3, e2', wk0, wk1, wk2, wk3, wk4, wk5, X_region, X_seq, X_block, X_loop, X_cond, Y_box, Y_un, Y_store, Y_append, Y_makeMap, Y_buildSlice, ibin_shl, ibin_shr, ibin_and, List.set_cons_zero, List.set_cons_succ, List.getD_cons_zero, List.getD_cons_succ, List.map_cons, List.map_nil, ↓reduceIte, reduceCtorEq, oneCell, List.length_cons, List.length_nil, setAt, readN, bne_iff_ne, ne_eq, Nat.reduceAdd, Nat.reduceLeDiff, List.getElem?_cons_zero, List.getElem?_cons_succ, Nat.reduceMul, Option.isSome_some, layAt, Nat.reduceLT, Option.isNone_some, Option.isNone_none, beq_self_eq_true, Nat.reduceEqDiff, setParams, Int.reduceLT, Int.reduceLE, Int.reduceGT, Int.reduceGE, Int.reduceEq, Int.reduceNe, Option.map_some, Option.map_none, Option.isSome_none]
  have r1 := rdA O (k := i2) (by omega)
  have r2 := rdA O (k := i2 - 1) (by omega)
  obtain ⟨k1, k2, w1, w2, O4⟩ := swA O (i := i2) (j := i2 - 1) (by omega) (by omega)
  have c1 : (0 : Int) ≤ ((i2 : Nat) : Int) := by omega
  have c2 : ((i2 : Nat) : Int) < (m : Int) := by omega
  have c3 : (0 : Int) ≤ ((i2 - 1 : Nat) : Int) := by omega
  have c4 : ((i2 - 1 : Nat) : Int) < (m : Int) := by omega
  refine X_drawn _ fun an => ?_
  simp (disch := first | assumption | omega | (simp only [wkD, oneCell, Option.isSome_some, *]; done) | (simp only [wkE, ne_eq]; omega)) only [g0, g1, g2, g3, g9, g10, y8, y7, r1, r2, w1, w2, c1, c2, c3, c4, Int.toNat_natCast, agg_ic, iv_cells, ic_len, wk0, wk1, wk2, wk3, wk4, wk5, X_region, X_seq, X_block, X_loop, Y_box, Y_un, Y_store, Y_append, Y_makeMap, Y_buildSlice, ibin_shl, ibin_shr, ibin_and, List.set_cons_zero, List.set_cons_succ, List.getD_cons_zero, List.getD_cons_succ, List.map_cons, List.map_nil, ↓reduceIte, reduceCtorEq, oneCell, List.length_cons, List.length_nil, setAt, readN, bne_iff_ne, ne_eq, Nat.reduceAdd, Nat.reduceLeDiff, List.getElem?_cons_zero, List.getElem?_cons_succ, Nat.reduceMul, Option.isSome_some, layAt, Nat.reduceLT, Option.isNone_some, Option.isNone_none, beq_self_eq_true, Nat.reduceEqDiff, setParams, Int.reduceLT, Int.reduceLE, Int.reduceGT, Int.reduceGE, Int.reduceEq, Int.reduceNe, Option.map_some, Option.map_none, Option.isSome_none]
  replace O := O4
  clear r1 r2 w1 w2 c1 c2 c3 c4 O4
  have hs1 : (Sort.swp d1 i2 (i2 - 1)).size = m := by rw [Sort.size_swp]; exact hs
  generalize Sort.swp d1 i2 (i2 - 1) = d2 at O hs1 hE
  refine X_cut0 (fun s => s.tmps.length = 141 ∧ s.tmps.getD 0 undefV = .slice (some ⟨b, 0, sp⟩) m cap ∧ s.tmps.getD 1 undefV = .int .i64 ((lo : Nat) : Int) ∧ s.tmps.getD 2 undefV = .int .i64 ((hi : Nat) : Int) ∧ s.tmps.getD 3 undefV = .func (.func 27) #[] #[] ∧ s.tmps.getD 9 undefV = .int .i64 ((i2 : Nat) : Int) ∧ s.tmps.getD 10 undefV = .int .i64 ((5 - (st + 1) : Nat) : Int) ∧ Has ro s.h (Ar b (if i2 - lo ≥ 2 then Sort.shiftDown ltI (i2 - 1) d2 else d2) rest zz t :: R) ∧ (if i2 - lo ≥ 2 then Sort.shiftDown ltI (i2 - 1) d2 else d2).size = m) ?_ ?_
  · by_cases e3 : i2 - lo ≥ 2
    · have e3' : (2 : Int) ≤ ((i2 - lo : Nat) : Int) := by omega
      rw [if_pos e3]
      simp (disch := first | assumption | omega | (simp only [wkD, oneCell, Option.isSome_some, *]; done) | (simp only [wkE, ne_eq]; omega)) only [g0, g1, g2, g3, g9, g10, e3', y8, wk0, wk1, wk2, wk3, wk4, wk5, X_region, X_seq, X_block, X_loop, X_cond, Y_box, Y_un, Y_store, Y_append, Y_makeMap, Y_buildSlice, ibin_shl, ibin_shr, ibin_and, List.set_cons_zero, List.set_cons_succ, List.getD_cons_zero, List.getD_cons_succ, List.map_cons, List.map_nil, ↓reduceIte, reduceCtorEq, oneCell, List.length_cons, List.length_nil, setAt, readN, bne_iff_ne, ne_eq, Nat.reduceAdd, Nat.reduceLeDiff, List.getElem?_cons_zero, List.getElem?_cons_succ, Nat.reduceMul, Option.isSome_some, layAt, Nat.reduceLT, Option.isNone_some, Option.isNone_none, beq_self_eq_true, Nat.reduceEqDiff, setParams, Int.reduceLT, Int.reduceLE, Int.reduceGT, Int.reduceGE, Int.reduceEq, Int.reduceNe, Option.map_some, Option.map_none, Option.isSome_none]
      refine L_is (fun q s => ∃ (j : Nat) (d3 : Array It), s.defers = [] ∧ s.tmps.length = 141 ∧ s.tmps.getD 0 undefV = .slice (some ⟨b, 0, sp⟩) m cap ∧ s.tmps.getD 1 undefV = .int .i64 ((lo : Nat) : Int) ∧ s.tmps.getD 2 undefV = .int .i64 ((hi : Nat) : Int) ∧ s.tmps.getD 3 undefV = .func (.func 27) #[] #[] ∧ s.tmps.getD 9 undefV = .int .i64 ((i2 : Nat) : Int) ∧ s.tmps.getD 10 undefV = .int .i64 ((5 - (st + 1) : Nat) : Int) ∧ s.tmps.getD 11 undefV = .int .i64 ((j : Nat) : Int) ∧ q = j ∧ j < hi ∧ d3.size = m ∧ Has ro s.h (Ar b d3 rest zz t :: R) ∧ Sort.shiftDown ltI j d3 = Sort.shiftDown ltI (i2 - 1) d2) (i2 - 1) ?_ (by omega) ?_
      · exact ⟨i2 - 1, d2, rfl, rfl, rfl, rfl, rfl, rfl, rfl, rfl, rfl, rfl, by omega, hs1, O, rfl⟩
      clear O g0 g1 g2 g3 g9 g10 hE hs1
      rintro q tm df h7 ⟨j, d3, hd, hlen_, g0, g1, g2, g3, g9, g10, g11, hq, q3, hs3, O, hE3⟩
      simp only at hd g0 g1 g2 g3 g9 g10 g11 O
      subst hd
      obtain ⟨w, hg_, rfl⟩ := explode hlen_
      simp only [hg_] at g0 g1 g2 g3 g9 g10 g11
      clear hlen_ hg_
      rcases j with _ | j
      · have hj : ¬ (1 : Int) ≤ ((0 : Nat) : Int) := by omega
        simp (disch := first | assumption | omega | (simp only [wkD, oneCell, Option.isSome_some, *]; done) | (simp only [wkE, ne_eq]; omega)) only [g0, g1, g2, g3, g9, g10, g11, hj, wk0, wk1, wk2, wk3, wk4, wk5, X_region, X_seq, X_block, X_loop, X_cond, Y_box, Y_un, Y_store, Y_append, Y_makeMap, Y_buildSlice, ibin_shl, ibin_shr, ibin_and, List.set_cons_zero, List.set_cons_succ, List.getD_cons_zero, List.getD_cons_succ, List.map_cons, List.map_nil, ↓reduceIte, reduceCtorEq, oneCell, List.length_cons, List.length_nil, setAt, readN, bne_iff_ne, ne_eq, Nat.reduceAdd, Nat.reduceLeDiff, List.getElem?_cons_zero, List.getElem?_cons_succ, Nat.reduceMul, Option.isSome_some, layAt, Nat.reduceLT, Option.isNone_some, Option.isNone_none, beq_self_eq_true, Nat.reduceEqDiff, setParams, Int.reduceLT, Int.reduceLE, Int.reduceGT, Int.reduceGE, Int.reduceEq, Int.reduceNe, Option.map_some, Option.map_none, Option.isSome_none]
        refine Is_in ?_
        simp (disch := first | assumption | omega | (simp only [wkD, oneCell, Option.isSome_some, *]; done) | (simp only [wkE, ne_eq]; omega)) only [wk0, wk1, wk2, wk3, wk4, wk5, X_region, X_seq, X_block, X_loop, X_cond, Y_box, Y_un, Y_store, Y_append, Y_makeMap, Y_buildSlice, ibin_shl, ibin_shr, ibin_and, List.set_cons_zero, List.set_cons_succ, List.getD_cons_zero, List.getD_cons_succ, List.map_cons, List.map_nil, ↓reduceIte, reduceCtorEq, oneCell, List.length_cons, List.length_nil, setAt, readN, bne_iff_ne, ne_eq, Nat.reduceAdd, Nat.reduceLeDiff, List.getElem?_cons_zero, List.getElem?_cons_succ, Nat.reduceMul, Option.isSome_some, layAt, Nat.reduceLT, Option.isNone_some, Option.isNone_none, beq_self_eq_true, Nat.reduceEqDiff, setParams, Int.reduceLT, Int.reduceLE, Int.reduceGT, Int.reduceGE, Int.reduceEq, Int.reduceNe, Option.map_some, Option.map_none, Option.isSome_none]
        rw [Sort.shiftDown] at hE3
        exact mid_in ⟨rfl, rfl, rfl, rfl, rfl, rfl, rfl, by rw [← hE3]; exact O, by rw [← hE3]; exact hs3⟩
      · have hj : (1 : Int) ≤ ((j + 1 : Nat) : Int) := by omega
        have y9 : IntKind.i64.wrap (((j + 1 : Nat) : Int) - 1) = (j : Int) := by rw [wrap_i64 (by omega) (by omega)]; omega
        have r1 := rdA O (k := j + 1) (by omega)
        have r2 := rdA O (k := j) (by omega)
        have c1 : (0 : Int) ≤ ((j + 1 : Nat) : Int) := by omega
        have c2 : ((j + 1 : Nat) : Int) < (m : Int) := by omega
        have c3 : (0 : Int) ≤ (j : Int) := by omega
        have c4 : (j : Int) < (m : Int) := by omega
        simp (disch := first | assumption | omega | (simp only [wkD, oneCell, Option.isSome_some, *]; done) | (simp only [wkE, ne_eq]; omega)) only [g0, g1, g2, g3, g9, g10, g11, hj, wk0, wk1, wk2, wk3, wk4, wk5, X_region, X_seq, X_block, X_loop, X_cond, Y_box, Y_un, Y_store, Y_append, Y_makeMap, Y_buildSlice, ibin_shl, ibin_shr, ibin_and, List.set_cons_zero, List.set_cons_succ, List.getD_cons_zero, List.getD_cons_succ, List.map_cons, List.map_nil, ↓reduceIte, reduceCtorEq, oneCell, List.length_cons, List.length_nil, setAt, readN, bne_iff_ne, ne_eq, Nat.reduceAdd, Nat.reduceLeDiff, List.getElem?_cons_zero, List.getElem?_cons_succ, Nat.reduceMul, Option.isSome_some, layAt, Nat.reduceLT, Option.isNone_some, Option.isNone_none, beq_self_eq_true, Nat.reduceEqDiff, setParams, Int.reduceLT, Int.reduceLE, Int.reduceGT, Int.reduceGE, Int.reduceEq, Int.reduceNe, Option.map_some, Option.map_none, Option.isSome_none]
        refine X_drawn _ fun an => ?_
        simp (disch := first | assumption | omega | (simp only [wkD, oneCell, Option.isSome_some, *]; done) | (simp only [wkE, ne_eq]; omega)) only [g0, g1, g2, g3, g9, g10, g11, y9, r1, r2, c1, c2, c3, c4, Int.toNat_natCast, agg_ic, wk0, wk1, wk2, wk3, wk4, wk5, X_region, X_seq, X_block, X_loop, X_cond, Y_box, Y_un, Y_store, Y_append, Y_makeMap, Y_buildSlice, ibin_shl, ibin_shr, ibin_and, List.set_cons_zero, List.set_cons_succ, List.getD_cons_zero, List.getD_cons_succ, List.map_cons, List.map_nil, ↓reduceIte, reduceCtorEq, oneCell, List.length_cons, List.length_nil, setAt, readN, bne_iff_ne, ne_eq, Nat.reduceAdd, Nat.reduceLeDiff, List.getElem?_cons_zero, List.getElem?_cons_succ, Nat.reduceMul, Option.isSome_some, layAt, Nat.reduceLT, Option.isNone_some, Option.isNone_none, beq_self_eq_true, Nat.reduceEqDiff, setParams, Int.reduceLT, Int.reduceLE, Int.reduceGT, Int.reduceGE, Int.reduceEq, Int.reduceNe, Option.map_some, Option.map_none, Option.isSome_none]
        refine DB_is (cmp_ok (n := n) (by omega) O.fine d3[j + 1]! d3[j]!) ?_
        rintro v8 h8 ⟨rfl, e8⟩
        simp only at e8
        replace O := O.ext e8
        rw [Sort.shiftDown] at hE3
        by_cases hc : cmpI d3[j + 1]! d3[j]! < 0
        · rw [if_neg (by rw [ltI_t hc]; simp)] at hE3
          simp (disch := first | assumption | omega | (simp only [wkD, oneCell, Option.isSome_some, *]; done) | (simp only [wkE, ne_eq]; omega)) only [hc, wk0, wk1, wk2, wk3, wk4, wk5, X_region, X_seq, X_block, X_loop, X_cond, Y_box, Y_un, Y_store, Y_append, Y_makeMap, Y_buildSlice, ibin_shl, ibin_shr, ibin_and, List.set_cons_zero, List.set_cons_succ, List.getD_cons_zero, List.getD_cons_succ, List.map_cons, List.map_nil, ↓reduceIte, reduceCtorEq, oneCell, List.length_cons, List.length_nil, setAt, readN, bne_iff_ne, ne_eq, Nat.reduceAdd, Nat.reduceLeDiff, List.getElem?_cons_zero, List.getElem?_cons_succ, Nat.reduceMul, Option.isSome_some, layAt, Nat.reduceLT, Option.isNone_some, Option.isNone_none, beq_self_eq_true, Nat.reduceEqDiff, setParams, Int.reduceLT, Int.reduceLE, Int.reduceGT, Int.reduceGE, Int.reduceEq, Int.reduceNe, Option.map_some, Option.map_none, Option.isSome_none]
          clear r1 r2 c1 c2 c3 c4
          have r1 := rdA O (k := j + 1) (by omega)
          have r2 := rdA O (k := j) (by omega)
          obtain ⟨k1, k2, w1, w2, O4⟩ := swA O (i := j + 1) (j := j) (by omega) (by omega)
          have c1 : (0 : Int) ≤ ((j + 1 : Nat) : Int) := by omega
          have c2 : ((j + 1 : Nat) : Int) < (m : Int) := by omega
          have c3 : (0 : Int) ≤ ((j : Nat) : Int) := by omega
          have c4 : ((j : Nat) : Int) < (m : Int) := by omega
          refine X_drawn _ fun an => ?_
          simp (disch := first | assumption | omega | (simp only [wkD, oneCell, Option.isSome_some, *]; done) | (simp only [wkE, ne_eq]; omega)) only [g0, g1, g2, g3, g9, g10, g11, y9, r1, r2, w1, w2, c1, c2, c3, c4, Int.toNat_natCast, agg_ic, iv_cells, ic_len, wk0, wk1, wk2, wk3, wk4, wk5, X_region, X_seq, X_block, X_loop, X_cond, Y_box, Y_un, Y_store, Y_append, Y_makeMap, Y_buildSlice, ibin_shl, ibin_shr, ibin_and, List.set_cons_zero, List.set_cons_succ, List.getD_cons_zero, List.getD_cons_succ, List.map_cons, List.map_nil, ↓reduceIte, reduceCtorEq, oneCell, List.length_cons, List.length_nil, setAt, readN, bne_iff_ne, ne_eq, Nat.reduceAdd, Nat.reduceLeDiff, List.getElem?_cons_zero, List.getElem?_cons_succ, Nat.reduceMul, Option.isSome_some, layAt, Nat.reduceLT, Option.isNone_some, Option.isNone_none, beq_self_eq_true, Nat.reduceEqDiff, setParams, Int.reduceLT, Int.reduceLE, Int.reduceGT, Int.reduceGE, Int.reduceEq, Int.reduceNe, Option.map_some, Option.map_none, Option.isSome_none]
          replace O := O4
          clear r1 r2 w1 w2 c1 c2 c3 c4 O4
          exact Is_in ⟨j, by omega, j, _, rfl, rfl, rfl, rfl, rfl, rfl, rfl, rfl, rfl, rfl, by omega, by rw [Sort.size_swp]; exact hs3, O, hE3⟩
        · rw [if_pos (by rw [ltI_n hc]; rfl)] at hE3
          simp (disch := first | assumption | omega | (simp only [wkD, oneCell, Option.isSome_some, *]; done) | (simp only [wkE, ne_eq]; omega)) only [hc, wk0, wk1, wk2, wk3, wk4, wk5, X_region, X_seq, X_block, X_loop, X_cond, Y_box, Y_un, Y_store, Y_append, Y_makeMap, Y_buildSlice, ibin_shl, ibin_shr, ibin_and, List.set_cons_zero, List.set_cons_succ, List.getD_cons_zero, List.getD_cons_succ, List.map_cons, List.map_nil, ↓reduceIte, reduceCtorEq, oneCell, List.length_cons, List.length_nil, setAt, readN, bne_iff_ne, ne_eq, Nat.reduceAdd, Nat.reduceLeDiff, List.getElem?_cons_zero, List.getElem?_cons_succ, Nat.reduceMul, Option.isSome_some, layAt, Nat.reduceLT, Option.isNone_some, Option.isNone_none, beq_self_eq_true, Nat.reduceEqDiff, setParams, Int.reduceLT, Int.reduceLE, Int.reduceGT, Int.reduceGE, Int.reduceEq, Int.reduceNe, Option.map_some, Option.map_none, Option.isSome_none]
          refine Is_in ?_
          simp (disch := first | assumption | omega | (simp only [wkD, oneCell, Option.isSome_some, *]; done) | (simp only [wkE, ne_eq]; omega)) only [wk0, wk1, wk2, wk3, wk4, wk5, X_region, X_seq, X_block, X_loop, X_cond, Y_box, Y_un, Y_store, Y_append, Y_makeMap, Y_buildSlice, ibin_shl, ibin_shr, ibin_and, List.set_cons_zero, List.set_cons_succ, List.getD_cons_zero, List.getD_cons_succ, List.map_cons, List.map_nil, ↓reduceIte, reduceCtorEq, oneCell, List.length_cons, List.length_nil, setAt, readN, bne_iff_ne, ne_eq, Nat.reduceAdd, Nat.reduceLeDiff, List.getElem?_cons_zero, List.getElem?_cons_succ, Nat.reduceMul, Option.isSome_some, layAt, Nat.reduceLT, Option.isNone_some, Option.isNone_none, beq_self_eq_true, Nat.reduceEqDiff, setParams, Int.reduceLT, Int.reduceLE, Int.reduceGT, Int.reduceGE, Int.reduceEq, Int.reduceNe, Option.map_some, Option.map_none, Option.isSome_none]
          exact mid_in ⟨rfl, rfl, rfl, rfl, rfl, rfl, rfl, by rw [← hE3]; exact O, by rw [← hE3]; exact hs3⟩
    · have e3' : ¬ (2 : Int) ≤ ((i2 - lo : Nat) : Int) := by omega
      rw [if_neg e3]
      simp (disch := first | assumption | omega | (simp only [wkD, oneCell, Option.isSome_some, *]; done) | (simp only [wkE, ne_eq]; omega)) only [g0, g1, g2, g3, g9, g10, e3', wk0, wk1, wk2, wk3, wk4, wk5, X_region, X_seq, X_block, X_loop, X_cond, Y_box, Y_un, Y_store, Y_append, Y_makeMap, Y_buildSlice, ibin_shl, ibin_shr, ibin_and, List.set_cons_zero, List.set_cons_succ, List.getD_cons_zero, List.getD_cons_succ, List.map_cons, List.map_nil, ↓reduceIte, reduceCtorEq, oneCell, List.length_cons, List.length_nil, setAt, readN, bne_iff_ne, ne_eq, Nat.reduceAdd, Nat.reduceLeDiff, List.getElem?_cons_zero, List.getElem?_cons_succ, Nat.reduceMul, Option.isSome_some, layAt, Nat.reduceLT, Option.isNone_some, Option.isNone_none, beq_self_eq_true, Nat.reduceEqDiff, setParams, Int.reduceLT, Int.reduceLE, Int.reduceGT, Int.reduceGE, Int.reduceEq, Int.reduceNe, Option.map_some, Option.map_none, Option.isSome_none]
      exact mid_in ⟨rfl, rfl, rfl, rfl, rfl, rfl, rfl, O, hs1⟩
  clear O g0 g1 g2 g3 g9 g10 hs1
  rintro tm h3 ⟨hlen_, g0, g1, g2, g3, g9, g10, O, hs1⟩
  simp only at g0 g1 g2 g3 g9 g10 O
  obtain ⟨w, hg_, rfl⟩ := explode hlen_
  simp only [hg_] at g0 g1 g2 g3 g9 g10
  clear hlen_ hg_
  generalize (if i2 - lo ≥ 2 then Sort.shiftDown ltI (i2 - 1) d2 else d2) = d5 at O hs1 hE
  simp (disch := first | assumption | omega | (simp only [wkD, oneCell, Option.isSome_some, *]; done) | (simp only [wkE, ne_eq]; omega)) only [g0, g1, g2, g3, g9, g10, y6, wk0, wk1, wk2, wk3, wk4, wk5, X_region, X_seq, X_block, X_loop, Y_box, Y_un, Y_store, Y_append, Y_makeMap, Y_buildSlice, ibin_shl, ibin_shr, ibin_and, List.set_cons_zero, List.set_cons_succ, List.getD_cons_zero, List.getD_cons_succ, List.map_cons, List.map_nil, ↓reduceIte, reduceCtorEq, oneCell, List.length_cons, List.length_nil, setAt, readN, bne_iff_ne, ne_eq, Nat.reduceAdd, Nat.reduceLeDiff, List.getElem?_cons_zero, List.getElem?_cons_succ, Nat.reduceMul, Option.isSome_some, layAt, Nat.reduceLT, Option.isNone_some, Option.isNone_none, beq_self_eq_true, Nat.reduceEqDiff, setParams, Int.reduceLT, Int.reduceLE, Int.reduceGT, Int.reduceGE, Int.reduceEq, Int.reduceNe, Option.map_some, Option.map_none, Option.isSome_none]
  refine X_cut0 (fun s => s.tmps.length = 141 ∧ s.tmps.getD 0 undefV = .slice (some ⟨b, 0, sp⟩) m cap ∧ s.tmps.getD 1 undefV = .int .i64 ((lo : Nat) : Int) ∧ s.tmps.getD 2 undefV = .int .i64 ((hi : Nat) : Int) ∧ s.tmps.getD 3 undefV = .func (.func 27) #[] #[] ∧ s.tmps.getD 9 undefV = .int .i64 ((i2 : Nat) : Int) ∧ s.tmps.getD 10 undefV = .int .i64 ((5 - (st + 1) : Nat) : Int) ∧ Has ro s.h (Ar b (if hi - i2 ≥ 2 then Sort.shiftUp ltI hi (i2 + 1) d5 else d5) rest zz t :: R) ∧ (if hi - i2 ≥ 2 then Sort.shiftUp ltI hi (i2 + 1) d5 else d5).size = m) ?_ ?_
  · by_cases e3 : hi - i2 ≥ 2
    · have e3' : (2 : Int) ≤ ((hi - i2 : Nat) : Int) := by omega
      rw [if_pos e3]
      simp (disch := first | assumption | omega | (simp only [wkD, oneCell, Option.isSome_some, *]; done) | (simp only [wkE, ne_eq]; omega)) only [g0, g1, g2, g3, g9, g10, e3', y5, wk0, wk1, wk2, wk3, wk4, wk5, X_region, X_seq, X_block, X_loop, X_cond, Y_box, Y_un, Y_store, Y_append, Y_makeMap, Y_buildSlice, ibin_shl, ibin_shr, ibin_and, List.set_cons_zero, List.set_cons_succ, List.getD_cons_zero, List.getD_cons_succ, List.map_cons, List.map_nil, ↓reduceIte, reduceCtorEq, oneCell, List.length_cons, List.length_nil, setAt, readN, bne_iff_ne, ne_eq, Nat.reduceAdd, Nat.reduceLeDiff, List.getElem?_cons_zero, List.getElem?_cons_succ, Nat.reduceMul, Option.isSome_some, layAt, Nat.reduceLT, Option.isNone_some, Option.isNone_none, beq_self_eq_true, Nat.reduceEqDiff, setParams, Int.reduceLT, Int.reduceLE, Int.reduceGT, Int.reduceGE, Int.reduceEq, Int.reduceNe, Option.map_some, Option.map_none, Option.isSome_none]
      refine L_is (fun q s => ∃ (j : Nat) (d3 : Array It), s.defers = [] ∧ s.tmps.length = 141 ∧ s.tmps.getD 0 undefV = .slice (some ⟨b, 0, sp⟩) m cap ∧ s.tmps.getD 1 undefV = .int .i64 ((lo : Nat) : Int) ∧ s.tmps.getD 2 undefV = .int .i64 ((hi : Nat) : Int) ∧ s.tmps.getD 3 undefV = .func (.func 27) #[] #[] ∧ s.tmps.getD 9 undefV = .int .i64 ((i2 : Nat) : Int) ∧ s.tmps.getD 10 undefV = .int .i64 ((5 - (st + 1) : Nat) : Int) ∧ s.tmps.getD 12 undefV = .int .i64 ((j : Nat) : Int) ∧ q = hi - j ∧ i2 + 1 ≤ j ∧ j ≤ hi ∧ d3.size = m ∧ Has ro s.h (Ar b d3 rest zz t :: R) ∧ Sort.shiftUp ltI hi j d3 = Sort.shiftUp ltI hi (i2 + 1) d5) (hi - (i2 + 1)) ?_ (by omega) ?_
      · exact ⟨i2 + 1, d5, rfl, rfl, rfl, rfl, rfl, rfl, rfl, rfl, rfl, rfl, by omega, by omega, hs1, O, rfl⟩
      clear O g0 g1 g2 g3 g9 g10 hE hs1
      rintro q tm df h7 ⟨j, d3, hd, hlen_, g0, g1, g2, g3, g9, g10, g12, hq, q3, q4, hs3, O, hE3⟩
      simp only at hd g0 g1 g2 g3 g9 g10 g12 O
      subst hd
      obtain ⟨w, hg_, rfl⟩ := explode hlen_
      simp only [hg_] at g0 g1 g2 g3 g9 g10 g12
      clear hlen_ hg_
      rw [Sort.shiftUp] at hE3
      by_cases hj : j < hi
      · have hj' : (j : Int) < (hi : Int) := by omega
        rw [if_pos hj] at hE3
        have y9 : IntKind.i64.wrap ((j : Int) - 1) = ((j - 1 : Nat) : Int) := by rw [wrap_i64 (by omega) (by omega)]; omega
        have y10 : IntKind.i64.wrap ((j : Int) + 1) = ((j + 1 : Nat) : Int) := by rw [wrap_i64 (by omega) (by omega)]; omega
        have r1 := rdA O (k := j) (by omega)
        have r2 := rdA O (k := j - 1) (by omega)
        have c1 : (0 : Int) ≤ (j : Int) := by omega
        have c2 : (j : Int) < (m : Int) := by omega
        have c3 : (0 : Int) ≤ ((j - 1 : Nat) : Int) := by omega
        have c4 : ((j - 1 : Nat) : Int) < (m : Int) := by omega
        simp (disch := first | assumption | omega | (simp only [wkD, oneCell, Option.isSome_some, *]; done) | (simp only [wkE, ne_eq]; omega)) only [g0, g1, g2, g3, g9, g10, g12, hj', wk0, wk1, wk2, wk3, wk4, wk5, X_region, X_seq, X_block, X_loop, X_cond, Y_box, Y_un, Y_store, Y_append, Y_makeMap, Y_buildSlice, ibin_shl, ibin_shr, ibin_and, List.set_cons_zero, List.set_cons_succ, List.getD_cons_zero, List.getD_cons_succ, List.map_cons, List.map_nil, ↓reduceIte, reduceCtorEq, oneCell, List.length_cons, List.length_nil, setAt, readN, bne_iff_ne, ne_eq, Nat.reduceAdd, Nat.reduceLeDiff, List.getElem?_cons_zero, List.getElem?_cons_succ, Nat.reduceMul, Option.isSome_some, layAt, Nat.reduceLT, Option.isNone_some, Option.isNone_none, beq_self_eq_true, Nat.reduceEqDiff, setParams, Int.reduceLT, Int.reduceLE, Int.reduceGT, Int.reduceGE, Int.reduceEq, Int.reduceNe, Option.map_some, Option.map_none, Option.isSome_none]
        refine X_drawn _ fun an => ?_
        simp (disch := first | assumption | omega | (simp only [wkD, oneCell, Option.isSome_some, *]; done) | (simp only [wkE, ne_eq]; omega)) only [g0, g1, g2, g3, g9, g10, g12, y9, r1, r2, c1, c2, c3, c4, Int.toNat_natCast, agg_ic, wk0, wk1, wk2, wk3, wk4, wk5, X_region, X_seq, X_block, X_loop, X_cond, Y_box, Y_un, Y_store, Y_append, Y_makeMap, Y_buildSlice, ibin_shl, ibin_shr, ibin_and, List.set_cons_zero, List.set_cons_succ, List.getD_cons_zero, List.getD_cons_succ, List.map_cons, List.map_nil, ↓reduceIte, reduceCtorEq, oneCell, List.length_cons, List.length_nil, setAt, readN, bne_iff_ne, ne_eq, Nat.reduceAdd, Nat.reduceLeDiff, List.getElem?_cons_zero, List.getElem?_cons_succ, Nat.reduceMul, Option.isSome_some, layAt, Nat.reduceLT, Option.isNone_some, Option.isNone_none, beq_self_eq_true, Nat.reduceEqDiff, setParams, Int.reduceLT, Int.reduceLE, Int.reduceGT, Int.reduceGE, Int.reduceEq, Int.reduceNe, Option.map_some, Option.map_none, Option.isSome_none]
        refine DB_is (cmp_ok (n := n) (by omega) O.fine d3[j]! d3[j - 1]!) ?_
        rintro v8 h8 ⟨rfl, e8⟩
        simp only at e8
        replace O := O.ext e8
        by_cases hc : cmpI d3[j]! d3[j - 1]! < 0
        · rw [if_neg (by rw [ltI_t hc]; simp)] at hE3
          simp (disch := first | assumption | omega | (simp only [wkD, oneCell, Option.isSome_some, *]; done) | (simp only [wkE, ne_eq]; omega)) only [hc, wk0, wk1, wk2, wk3, wk4, wk5, X_region, X_seq, X_block, X_loop, X_cond, Y_box, Y_un, Y_store, Y_append, Y_makeMap, Y_buildSlice, ibin_shl, ibin_shr, ibin_and, List.set_cons_zero, List.set_cons_succ, List.getD_cons_zero, List.getD_cons_succ, List.map_cons, List.map_nil, ↓reduceIte, reduceCtorEq, oneCell, List.length_cons, List.length_nil, setAt, readN, bne_iff_ne, ne_eq, Nat.reduceAdd, Nat.reduceLeDiff, List.getElem?_cons_zero, List.getElem?_cons_succ, Nat.reduceMul, Option.isSome_some, layAt, Nat.reduceLT, Option.isNone_some, Option.isNone_none, beq_self_eq_true, Nat.reduceEqDiff, setParams, Int.reduceLT, Int.reduceLE, Int.reduceGT, Int.reduceGE, Int.reduceEq, Int.reduceNe, Option.map_some, Option.map_none, Option.isSome_none]
          clear r1 r2 c1 c2 c3 c4
          have r1 := rdA O (k := j) (by omega)
          have r2 := rdA O (k := j - 1) (by omega)
          obtain ⟨k1, k2, w1, w2, O4⟩ := swA O (i := j) (j := j - 1) (by omega) (by omega)
          have c1 : (0 : Int) ≤ ((j : Nat) : Int) := by omega
          have c2 : ((j : Nat) : Int) < (m : Int) := by omega
          have c3 : (0 : Int) ≤ ((j - 1 : Nat) : Int) := by omega
          have c4 : ((j - 1 : Nat) : Int) < (m : Int) := by omega
          refine X_drawn _ fun an => ?_
          simp (disch := first | assumption | omega | (simp only [wkD, oneCell, Option.isSome_some, *]; done) | (simp only [wkE, ne_eq]; omega)) only [g0, g1, g2, g3, g9, g10, g12, y9, y10, r1, r2, w1, w2, c1, c2, c3, c4, Int.toNat_natCast, agg_ic, iv_cells, ic_len, wk0, wk1, wk2, wk3, wk4, wk5, X_region, X_seq, X_block, X_loop, X_cond, Y_box, Y_un, Y_store, Y_append, Y_makeMap, Y_buildSlice, ibin_shl, ibin_shr, ibin_and, List.set_cons_zero, List.set_cons_succ, List.getD_cons_zero, List.getD_cons_succ, List.map_cons, List.map_nil, ↓reduceIte, reduceCtorEq, oneCell, List.length_cons, List.length_nil, setAt, readN, bne_iff_ne, ne_eq, Nat.reduceAdd, Nat.reduceLeDiff, List.getElem?_cons_zero, List.getElem?_cons_succ, Nat.reduceMul, Option.isSome_some, layAt, Nat.reduceLT, Option.isNone_some, Option.isNone_none, beq_self_eq_true, Nat.reduceEqDiff, setParams, Int.reduceLT, Int.reduceLE, Int.reduceGT, Int.reduceGE, Int.reduceEq, Int.reduceNe, Option.map_some, Option.map_none, Option.isSome_none]
          replace O := O4
          clear r1 r2 w1 w2 c1 c2 c3 c4 O4
          exact Is_in ⟨hi - (j + 1), by omega, j + 1, _, rfl, rfl, rfl, rfl, rfl, rfl, rfl, rfl, rfl, rfl, by omega, by omega, by rw [Sort.size_swp]; exact hs3, O, hE3⟩
        · rw [if_pos (by rw [ltI_n hc]; rfl)] at hE3
          simp (disch := first | assumption | omega | (simp only [wkD, oneCell, Option.isSome_some, *]; done) | (simp only [wkE, ne_eq]; omega)) only [hc, wk0, wk1, wk2, wk3, wk4, wk5, X_region, X_seq, X_block, X_loop, X_cond, Y_box, Y_un, Y_store, Y_append, Y_makeMap, Y_buildSlice, ibin_shl, ibin_shr, ibin_and, List.set_cons_zero, List.set_cons_succ, List.getD_cons_zero, List.getD_cons_succ, List.map_cons, List.map_nil, ↓reduceIte, reduceCtorEq, oneCell, List.length_cons, List.length_nil, setAt, readN, bne_iff_ne, ne_eq, Nat.reduceAdd, Nat.reduceLeDiff, List.getElem?_cons_zero, List.getElem?_cons_succ, Nat.reduceMul, Option.isSome_some, layAt, Nat.reduceLT, Option.isNone_some, Option.isNone_none, beq_self_eq_true, Nat.reduceEqDiff, setParams, Int.reduceLT, Int.reduceLE, Int.reduceGT, Int.reduceGE, Int.reduceEq, Int.reduceNe, Option.map_some, Option.map_none, Option.isSome_none]
          refine Is_in ?_
          simp (disch := first | assumption | omega | (simp only [wkD, oneCell, Option.isSome_some, *]; done) | (simp only [wkE, ne_eq]; omega)) only [wk0, wk1, wk2, wk3, wk4, wk5, X_region, X_seq, X_block, X_loop, X_cond, Y_box, Y_un, Y_store, Y_append, Y_makeMap, Y_buildSlice, ibin_shl, ibin_shr, ibin_and, List.set_cons_zero, List.set_cons_succ, List.getD_cons_zero, List.getD_cons_succ, List.map_cons, List.map_nil, ↓reduceIte, reduceCtorEq, oneCell, List.length_cons, List.length_nil, setAt, readN, bne_iff_ne, ne_eq, Nat.reduceAdd, Nat.reduceLeDiff, List.getElem?_cons_zero, List.getElem?_cons_succ, Nat.reduceMul, Option.isSome_some, layAt, Nat.reduceLT, Option.isNone_some, Option.isNone_none, beq_self_eq_true, Nat.reduceEqDiff, setParams, Int.reduceLT, Int.reduceLE, Int.reduceGT, Int.reduceGE, Int.reduceEq, Int.reduceNe, Option.map_some, Option.map_none, Option.isSome_none]
          exact mid_in ⟨rfl, rfl, rfl, rfl, rfl, rfl, rfl, by rw [← hE3]; exact O, by rw [← hE3]; exact hs3⟩
      · have hj' : ¬ (j : Int) < (hi : Int) := by omega
        rw [if_neg hj] at hE3
        simp (disch := first | assumption | omega | (simp only [wkD, oneCell, Option.isSome_some, *]; done) | (simp only [wkE, ne_eq]; omega)) only [g0, g1, g2, g3, g9, g10, g12, hj', wk0, wk1, wk2, wk3, wk4, wk5, X_region, X_seq, X_block, X_loop, X_cond, Y_box, Y_un, Y_store, Y_append, Y_makeMap, Y_buildSlice, ibin_shl, ibin_shr, ibin_and, List.set_cons_zero, List.set_cons_succ, List.getD_cons_zero, List.getD_cons_succ, List.map_cons, List.map_nil, ↓reduceIte, reduceCtorEq, oneCell, List.length_cons, List.length_nil, setAt, readN, bne_iff_ne, ne_eq, Nat.reduceAdd, Nat.reduceLeDiff, List.getElem?_cons_zero, List.getElem?_cons_succ, Nat.reduceMul, Option.isSome_some, layAt, Nat.reduceLT, Option.isNone_some, Option.isNone_none, beq_self_eq_true, Nat.reduceEqDiff, setParams, Int.reduceLT, Int.reduceLE, Int.reduceGT, Int.reduceGE, Int.reduceEq, Int.reduceNe, Option.map_some, Option.map_none, Option.isSome_none]
        refine Is_in ?_
        simp (disch := first | assumption | omega | (simp only [wkD, oneCell, Option.isSome_some, *]; done) | (simp only [wkE, ne_eq]; omega)) only [wk0, wk1, wk2, wk3, wk4, wk5, X_region, X_seq, X_block, X_loop, X_cond, Y_box, Y_un, Y_store, Y_append, Y_makeMap, Y_buildSlice, ibin_shl, ibin_shr, ibin_and, List.set_cons_zero, List.set_cons_succ, List.getD_cons_zero, List.getD_cons_succ, List.map_cons, List.map_nil, ↓reduceIte, reduceCtorEq, oneCell, List.length_cons, List.length_nil, setAt, readN, bne_iff_ne, ne_eq, Nat.reduceAdd, Nat.reduceLeDiff, List.getElem?_cons_zero, List.getElem?_cons_succ, Nat.reduceMul, Option.isSome_some, layAt, Nat.reduceLT, Option.isNone_some, Option.isNone_none, beq_self_eq_true, Nat.reduceEqDiff, setParams, Int.reduceLT, Int.reduceLE, Int.reduceGT, Int.reduceGE, Int.reduceEq, Int.reduceNe, Option.map_some, Option.map_none, Option.isSome_none]
        exact mid_in ⟨rfl, rfl, rfl, rfl, rfl, rfl, rfl, by rw [← hE3]; exact O, by rw [← hE3]; exact hs3⟩
    · have e3' : ¬ (2 : Int) ≤ ((hi - i2 : Nat) : Int) := by omega
      rw [if_neg e3]
      simp (disch := first | assumption | omega | (simp only [wkD, oneCell, Option.isSome_some, *]; done) | (simp only [wkE, ne_eq]; omega)) only [g0, g1, g2, g3, g9, g10, e3', wk0, wk1, wk2, wk3, wk4, wk5, X_region, X_seq, X_block, X_loop, X_cond, Y_box, Y_un, Y_store, Y_append, Y_makeMap, Y_buildSlice, ibin_shl, ibin_shr, ibin_and, List.set_cons_zero, List.set_cons_succ, List.getD_cons_zero, List.getD_cons_succ, List.map_cons, List.map_nil, ↓reduceIte, reduceCtorEq, oneCell, List.length_cons, List.length_nil, setAt, readN, bne_iff_ne, ne_eq, Nat.reduceAdd, Nat.reduceLeDiff, List.getElem?_cons_zero, List.getElem?_cons_succ, Nat.reduceMul, Option.isSome_some, layAt, Nat.reduceLT, Option.isNone_some, Option.isNone_none, beq_self_eq_true, Nat.reduceEqDiff, setParams, Int.reduceLT, Int.reduceLE, Int.reduceGT, Int.reduceGE, Int.reduceEq, Int.reduceNe, Option.map_some, Option.map_none, Option.isSome_none]
      exact mid_in ⟨rfl, rfl, rfl, rfl, rfl, rfl, rfl, O, hs1⟩
  clear O g0 g1 g2 g3 g9 g10 hs1
  rintro tm h4 ⟨hlen_, g0, g1, g2, g3, g9, g10, O, hs1⟩
  simp only at g0 g1 g2 g3 g9 g10 O
  obtain ⟨w, hg_, rfl⟩ := explode hlen_
  simp only [hg_] at g0 g1 g2 g3 g9 g10
  clear hlen_ hg_
  generalize (if hi - i2 ≥ 2 then Sort.shiftUp ltI hi (i2 + 1) d5 else d5) = d6 at O hs1 hE
  have y10 : IntKind.i64.wrap (((5 - (st + 1) : Nat) : Int) + 1) = ((5 - st : Nat) : Int) := by rw [wrap_i64 (by omega) (by omega)]; omega
  simp (disch := first | assumption | omega | (simp only [wkD, oneCell, Option.isSome_some, *]; done) | (simp only [wkE, ne_eq]; omega)) only [g0, g1, g2, g3, g9, g10, y10, wk0, wk1, wk2, wk3, wk4, wk5, X_region, X_seq, X_block, X_loop, X_cond, Y_box, Y_un, Y_store, Y_append, Y_makeMap, Y_buildSlice, ibin_shl, ibin_shr, ibin_and, List.set_cons_zero, List.set_cons_succ, List.getD_cons_zero, List.getD_cons_succ, List.map_cons, List.map_nil, ↓reduceIte, reduceCtorEq, oneCell, List.length_cons, List.length_nil, setAt, readN, bne_iff_ne, ne_eq, Nat.reduceAdd, Nat.reduceLeDiff, List.getElem?_cons_zero, List.getElem?_cons_succ, Nat.reduceMul, Option.isSome_some, layAt, Nat.reduceLT, Option.isNone_some, Option.isNone_none, beq_self_eq_true, Nat.reduceEqDiff, setParams, Int.reduceLT, Int.reduceLE, Int.reduceGT, Int.reduceGE, Int.reduceEq, Int.reduceNe, Option.map_some, Option.map_none, Option.isSome_none]
  exact Is_in ⟨st, by omega, st, i2, d6, rfl, rfl, rfl, rfl, rfl, rfl, rfl, rfl, rfl, by omega, by omega, by omega, hs1, O, hE⟩
end Go.Proofs.Ytafaefeekilclaa
