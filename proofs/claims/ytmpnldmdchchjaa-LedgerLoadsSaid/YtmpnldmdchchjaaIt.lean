import Derived.Test.YtmpnldmdchchjaaFk
import Derived.Test.YtmpnldmdchchjaaIr
namespace Go.Proofs.Ytmpnldmdchchjaa
open Go Go.Ideal Go.ChangeShapes Go.RowKit
set_option maxHeartbeats 0
set_option linter.unusedSimpArgs false
set_option linter.unusedVariables false
set_option maxRecDepth 100000
attribute [local irreducible] callV T.All T.Is run
theorem env76 : env 76 = some ir76 := rfl
theorem env79 : env 79 = some ir79 := rfl
theorem env80 : env 80 = some ir80 := rfl
theorem env81 : env 81 = some ir81 := rfl
theorem env92 : env 92 = some ir92 := rfl
theorem env93 : env 93 = some ir93 := rfl
theorem env75 : env 75 = some ir75 := rfl
def cmpZ (a b : Int) : Int := if a < b then -1 else if b < a then 1 else 0
theorem nan_ok {n : Nat} {h : Heap} (a : Int) : (callV env (n + 1) (.func (.func 92) #[] #[]) [.int .i64 a] h).Is fun p => p = (.bool false, h) := by
  refine call_is env92 ?_
  have e : a = a := rfl
  simp (disch := first | assumption | omega | (simp only [wkD, oneCell, Option.isSome_some, *]; done) | (simp only [wkE, ne_eq]; omega)) only [ir92, List.append_nil, List.nil_append, List.cons_append, List.length_cons, List.length_nil, Nat.reduceAdd, Nat.reduceSub, List.replicate_succ, List.replicate_zero, wkF, X_region, X_seq, X_block, X_loop, X_cond, Y_box, Y_un, Y_store, Y_append, Y_makeMap, Y_buildSlice, ibin_shl, ibin_shr, ibin_and, ↓reduceIte, reduceCtorEq, oneCell, setAt, readN, Nat.reduceAdd, Nat.reduceLeDiff, Nat.reduceMul, layAt, Nat.reduceLT, Nat.reduceEqDiff, setParams, Int.reduceLT, Int.reduceLE, Int.reduceGT, Int.reduceGE, Int.reduceEq, Int.reduceNe]
  exact leaf1 rfl
theorem cmpZ_ok {n : Nat} {h : Heap} (a b : Int) : (callV env (n + 2) (.func (.func 80) #[] #[]) [.int .i64 a, .int .i64 b] h).Is fun p => p = (.int .i64 (cmpZ a b), h) := by
  refine call_is env80 ?_
  simp (disch := first | assumption | omega | (simp only [wkD, oneCell, Option.isSome_some, *]; done) | (simp only [wkE, ne_eq]; omega)) only [ir80, List.append_nil, List.nil_append, List.cons_append, List.length_cons, List.length_nil, Nat.reduceAdd, Nat.reduceSub, List.replicate_succ, List.replicate_zero, wkF, X_region, X_seq, X_block, X_loop, X_cond, Y_box, Y_un, Y_store, Y_append, Y_makeMap, Y_buildSlice, ibin_shl, ibin_shr, ibin_and, ↓reduceIte, reduceCtorEq, oneCell, setAt, readN, Nat.reduceAdd, Nat.reduceLeDiff, Nat.reduceMul, layAt, Nat.reduceLT, Nat.reduceEqDiff, setParams, Int.reduceLT, Int.reduceLE, Int.reduceGT, Int.reduceGE, Int.reduceEq, Int.reduceNe]
  refine Z_is (nan_ok (n := n) a) ?_
  rintro v h1 ⟨rfl⟩
  simp (disch := first | assumption | omega | (simp only [wkD, oneCell, Option.isSome_some, *]; done) | (simp only [wkE, ne_eq]; omega)) only [wkF, X_region, X_seq, X_block, X_loop, X_cond, Y_box, Y_un, Y_store, Y_append, Y_makeMap, Y_buildSlice, ibin_shl, ibin_shr, ibin_and, ↓reduceIte, reduceCtorEq, oneCell, setAt, readN, Nat.reduceAdd, Nat.reduceLeDiff, Nat.reduceMul, layAt, Nat.reduceLT, Nat.reduceEqDiff, setParams, Int.reduceLT, Int.reduceLE, Int.reduceGT, Int.reduceGE, Int.reduceEq, Int.reduceNe]
  refine Z_is (nan_ok (n := n) b) ?_
  rintro v h1 ⟨rfl⟩
  by_cases h1 : a < b
  · simp (disch := first | assumption | omega | (simp only [wkD, oneCell, Option.isSome_some, *]; done) | (simp only [wkE, ne_eq]; omega)) only [h1, wkF, X_region, X_seq, X_block, X_loop, X_cond, Y_box, Y_un, Y_store, Y_append, Y_makeMap, Y_buildSlice, ibin_shl, ibin_shr, ibin_and, ↓reduceIte, reduceCtorEq, oneCell, setAt, readN, Nat.reduceAdd, Nat.reduceLeDiff, Nat.reduceMul, layAt, Nat.reduceLT, Nat.reduceEqDiff, setParams, Int.reduceLT, Int.reduceLE, Int.reduceGT, Int.reduceGE, Int.reduceEq, Int.reduceNe]
    exact leaf1 (by simp only [cmpZ, if_pos h1]; rfl)
  · by_cases h2 : b < a
    · simp (disch := first | assumption | omega | (simp only [wkD, oneCell, Option.isSome_some, *]; done) | (simp only [wkE, ne_eq]; omega)) only [h1, h2, wkF, X_region, X_seq, X_block, X_loop, X_cond, Y_box, Y_un, Y_store, Y_append, Y_makeMap, Y_buildSlice, ibin_shl, ibin_shr, ibin_and, ↓reduceIte, reduceCtorEq, oneCell, setAt, readN, Nat.reduceAdd, Nat.reduceLeDiff, Nat.reduceMul, layAt, Nat.reduceLT, Nat.reduceEqDiff, setParams, Int.reduceLT, Int.reduceLE, Int.reduceGT, Int.reduceGE, Int.reduceEq, Int.reduceNe]
      exact leaf1 (by simp only [cmpZ, if_neg h1, if_pos h2]; rfl)
    · simp (disch := first | assumption | omega | (simp only [wkD, oneCell, Option.isSome_some, *]; done) | (simp only [wkE, ne_eq]; omega)) only [h1, h2, wkF, X_region, X_seq, X_block, X_loop, X_cond, Y_box, Y_un, Y_store, Y_append, Y_makeMap, Y_buildSlice, ibin_shl, ibin_shr, ibin_and, ↓reduceIte, reduceCtorEq, oneCell, setAt, readN, Nat.reduceAdd, Nat.reduceLeDiff, Nat.reduceMul, layAt, Nat.reduceLT, Nat.reduceEqDiff, setParams, Int.reduceLT, Int.reduceLE, Int.reduceGT, Int.reduceGE, Int.reduceEq, Int.reduceNe]
      exact leaf1 (by simp only [cmpZ, if_neg h1, if_neg h2]; rfl)
theorem nanU_ok {n : Nat} {h : Heap} (a : Int) : (callV env (n + 1) (.func (.func 93) #[] #[]) [.int .u64 a] h).Is fun p => p = (.bool false, h) := by
  refine call_is env93 ?_
  have e : a = a := rfl
  simp (disch := first | assumption | omega | (simp only [wkD, oneCell, Option.isSome_some, *]; done) | (simp only [wkE, ne_eq]; omega)) only [ir93, List.append_nil, List.nil_append, List.cons_append, List.length_cons, List.length_nil, Nat.reduceAdd, Nat.reduceSub, List.replicate_succ, List.replicate_zero, wkF, X_region, X_seq, X_block, X_loop, X_cond, Y_box, Y_un, Y_store, Y_append, Y_makeMap, Y_buildSlice, ibin_shl, ibin_shr, ibin_and, ↓reduceIte, reduceCtorEq, oneCell, setAt, readN, Nat.reduceAdd, Nat.reduceLeDiff, Nat.reduceMul, layAt, Nat.reduceLT, Nat.reduceEqDiff, setParams, Int.reduceLT, Int.reduceLE, Int.reduceGT, Int.reduceGE, Int.reduceEq, Int.reduceNe]
  exact leaf1 rfl
theorem cmpU_ok {n : Nat} {h : Heap} (a b : Int) : (callV env (n + 2) (.func (.func 81) #[] #[]) [.int .u64 a, .int .u64 b] h).Is fun p => p = (.int .i64 (cmpZ a b), h) := by
  refine call_is env81 ?_
  simp (disch := first | assumption | omega | (simp only [wkD, oneCell, Option.isSome_some, *]; done) | (simp only [wkE, ne_eq]; omega)) only [ir81, List.append_nil, List.nil_append, List.cons_append, List.length_cons, List.length_nil, Nat.reduceAdd, Nat.reduceSub, List.replicate_succ, List.replicate_zero, wkF, X_region, X_seq, X_block, X_loop, X_cond, Y_box, Y_un, Y_store, Y_append, Y_makeMap, Y_buildSlice, ibin_shl, ibin_shr, ibin_and, ↓reduceIte, reduceCtorEq, oneCell, setAt, readN, Nat.reduceAdd, Nat.reduceLeDiff, Nat.reduceMul, layAt, Nat.reduceLT, Nat.reduceEqDiff, setParams, Int.reduceLT, Int.reduceLE, Int.reduceGT, Int.reduceGE, Int.reduceEq, Int.reduceNe]
  refine Z_is (nanU_ok (n := n) a) ?_
  rintro v h1 ⟨rfl⟩
  simp (disch := first | assumption | omega | (simp only [wkD, oneCell, Option.isSome_some, *]; done) | (simp only [wkE, ne_eq]; omega)) only [wkF, X_region, X_seq, X_block, X_loop, X_cond, Y_box, Y_un, Y_store, Y_append, Y_makeMap, Y_buildSlice, ibin_shl, ibin_shr, ibin_and, ↓reduceIte, reduceCtorEq, oneCell, setAt, readN, Nat.reduceAdd, Nat.reduceLeDiff, Nat.reduceMul, layAt, Nat.reduceLT, Nat.reduceEqDiff, setParams, Int.reduceLT, Int.reduceLE, Int.reduceGT, Int.reduceGE, Int.reduceEq, Int.reduceNe]
  refine Z_is (nanU_ok (n := n) b) ?_
  rintro v h1 ⟨rfl⟩
  by_cases h1 : a < b
  · simp (disch := first | assumption | omega | (simp only [wkD, oneCell, Option.isSome_some, *]; done) | (simp only [wkE, ne_eq]; omega)) only [h1, wkF, X_region, X_seq, X_block, X_loop, X_cond, Y_box, Y_un, Y_store, Y_append, Y_makeMap, Y_buildSlice, ibin_shl, ibin_shr, ibin_and, ↓reduceIte, reduceCtorEq, oneCell, setAt, readN, Nat.reduceAdd, Nat.reduceLeDiff, Nat.reduceMul, layAt, Nat.reduceLT, Nat.reduceEqDiff, setParams, Int.reduceLT, Int.reduceLE, Int.reduceGT, Int.reduceGE, Int.reduceEq, Int.reduceNe]
    exact leaf1 (by simp only [cmpZ, if_pos h1]; rfl)
  · by_cases h2 : b < a
    · simp (disch := first | assumption | omega | (simp only [wkD, oneCell, Option.isSome_some, *]; done) | (simp only [wkE, ne_eq]; omega)) only [h1, h2, wkF, X_region, X_seq, X_block, X_loop, X_cond, Y_box, Y_un, Y_store, Y_append, Y_makeMap, Y_buildSlice, ibin_shl, ibin_shr, ibin_and, ↓reduceIte, reduceCtorEq, oneCell, setAt, readN, Nat.reduceAdd, Nat.reduceLeDiff, Nat.reduceMul, layAt, Nat.reduceLT, Nat.reduceEqDiff, setParams, Int.reduceLT, Int.reduceLE, Int.reduceGT, Int.reduceGE, Int.reduceEq, Int.reduceNe]
      exact leaf1 (by simp only [cmpZ, if_neg h1, if_pos h2]; rfl)
    · simp (disch := first | assumption | omega | (simp only [wkD, oneCell, Option.isSome_some, *]; done) | (simp only [wkE, ne_eq]; omega)) only [h1, h2, wkF, X_region, X_seq, X_block, X_loop, X_cond, Y_box, Y_un, Y_store, Y_append, Y_makeMap, Y_buildSlice, ibin_shl, ibin_shr, ibin_and, ↓reduceIte, reduceCtorEq, oneCell, setAt, readN, Nat.reduceAdd, Nat.reduceLeDiff, Nat.reduceMul, layAt, Nat.reduceLT, Nat.reduceEqDiff, setParams, Int.reduceLT, Int.reduceLE, Int.reduceGT, Int.reduceGE, Int.reduceEq, Int.reduceNe]
      exact leaf1 (by simp only [cmpZ, if_neg h1, if_neg h2]; rfl)
def orZ (a b c : Int) : Int := if a ≠ 0 then a else if b ≠ 0 then b else c
theorem or_ok {n b : Nat} {h : Heap} (x y z : Int) (hn : 4 < n) (hb : h.get b = some (.cells [.int .i64 x, .int .i64 y, .int .i64 z] 1 false)) : (callV env (n + 1) (.func (.func 79) #[] #[]) [.slice (some ⟨b, 0, none⟩) 3 3] h).Is fun p => p = (.int .i64 (orZ x y z), h) := by
  refine call_is env79 ?_
  simp (disch := first | assumption | omega | (simp only [wkD, oneCell, Option.isSome_some, *]; done) | (simp only [wkE, ne_eq]; omega)) only [ir79, List.append_nil, List.nil_append, List.cons_append, List.length_cons, List.length_nil, Nat.reduceAdd, Nat.reduceSub, List.replicate_succ, List.replicate_zero, wkF, X_region, X_seq, X_block, X_loop, X_cond, Y_box, Y_un, Y_store, Y_append, Y_makeMap, Y_buildSlice, ibin_shl, ibin_shr, ibin_and, ↓reduceIte, reduceCtorEq, oneCell, setAt, readN, Nat.reduceAdd, Nat.reduceLeDiff, Nat.reduceMul, layAt, Nat.reduceLT, Nat.reduceEqDiff, setParams, Int.reduceLT, Int.reduceLE, Int.reduceGT, Int.reduceGE, Int.reduceEq, Int.reduceNe]
  refine L_is (fun q s => ∃ (i : Nat), s.defers = [] ∧ s.tmps.length = 18 ∧ s.tmps.getD 3 undefV = .int .i64 0 ∧ s.tmps.getD 6 undefV = .slice (some ⟨b, 0, none⟩) 3 3 ∧ s.tmps.getD 7 undefV = .int .i64 ((3 : Nat) : Int) ∧ s.tmps.getD 8 undefV = .int .i64 (i : Int) ∧ q = 3 - i ∧ i ≤ 3 ∧ (0 < i → x = 0) ∧ (1 < i → y = 0) ∧ (2 < i → z = 0) ∧ s.h = h) 3 ?_ (by omega) ?_
  · exact ⟨0, rfl, rfl, rfl, rfl, rfl, rfl, rfl, by omega, by omega, by omega, by omega, rfl⟩
  rintro q tm df h7 ⟨i, hd, hlen_, g3, g6, g7, g8, hq, hi, hx, hy, hz, hh⟩
  simp only at hd hh g3 g6 g7 g8
  subst hd hh
  obtain ⟨w, hg_, rfl⟩ := explode hlen_
  simp only [hg_] at g3 g6 g7 g8
  clear hlen_ hg_
  have c3 : ∀ k : Nat, k < 3 → (k : Int) < ((3 : Nat) : Int) := fun k hk => by omega
  have c0 : ∀ k : Nat, (0 : Int) ≤ (k : Int) := fun k => by omega
  have w1 : ∀ k : Nat, k < 3 → IntKind.i64.wrap ((k : Int) + 1) = ((k + 1 : Nat) : Int) := fun k hk => by rw [wrap_i64 (by omega) (by omega)]; omega
  match i, hi with
  | 0, _ =>
    have r : readC (h7.get b) (0 * 1) 1 = some [.int .i64 x] := by rw [hb]; rfl
    by_cases e : x = 0
    · simp (disch := first | assumption | omega | (simp only [wkD, oneCell, Option.isSome_some, *]; done) | (simp only [wkE, ne_eq]; omega)) only [g3, g6, g7, g8, c3, c0, r, w1, e, Int.toNat_natCast, wkF, X_region, X_seq, X_block, X_loop, X_cond, Y_box, Y_un, Y_store, Y_append, Y_makeMap, Y_buildSlice, ibin_shl, ibin_shr, ibin_and, ↓reduceIte, reduceCtorEq, oneCell, setAt, readN, Nat.reduceAdd, Nat.reduceLeDiff, Nat.reduceMul, layAt, Nat.reduceLT, Nat.reduceEqDiff, setParams, Int.reduceLT, Int.reduceLE, Int.reduceGT, Int.reduceGE, Int.reduceEq, Int.reduceNe]
      exact Is_in ⟨2, by omega, 1, rfl, rfl, rfl, rfl, rfl, rfl, rfl, by omega, (by simp), by omega, by omega, rfl⟩
    · simp (disch := first | assumption | omega | (simp only [wkD, oneCell, Option.isSome_some, *]; done) | (simp only [wkE, ne_eq]; omega)) only [g3, g6, g7, g8, c3, c0, r, w1, e, Int.toNat_natCast, wkF, X_region, X_seq, X_block, X_loop, X_cond, Y_box, Y_un, Y_store, Y_append, Y_makeMap, Y_buildSlice, ibin_shl, ibin_shr, ibin_and, ↓reduceIte, reduceCtorEq, oneCell, setAt, readN, Nat.reduceAdd, Nat.reduceLeDiff, Nat.reduceMul, layAt, Nat.reduceLT, Nat.reduceEqDiff, setParams, Int.reduceLT, Int.reduceLE, Int.reduceGT, Int.reduceGE, Int.reduceEq, Int.reduceNe]
      refine Is_in ?_
      simp (disch := first | assumption | omega | (simp only [wkD, oneCell, Option.isSome_some, *]; done) | (simp only [wkE, ne_eq]; omega)) only [wkF, X_region, X_seq, X_block, X_loop, X_cond, Y_box, Y_un, Y_store, Y_append, Y_makeMap, Y_buildSlice, ibin_shl, ibin_shr, ibin_and, ↓reduceIte, reduceCtorEq, oneCell, setAt, readN, Nat.reduceAdd, Nat.reduceLeDiff, Nat.reduceMul, layAt, Nat.reduceLT, Nat.reduceEqDiff, setParams, Int.reduceLT, Int.reduceLE, Int.reduceGT, Int.reduceGE, Int.reduceEq, Int.reduceNe]
      exact leaf1 (by simp only [orZ]; rw [if_pos e]; rfl)
  | 1, _ =>
    have r : readC (h7.get b) (1 * 1) 1 = some [.int .i64 y] := by rw [hb]; rfl
    have ex := hx (by omega)
    by_cases e : y = 0
    · simp (disch := first | assumption | omega | (simp only [wkD, oneCell, Option.isSome_some, *]; done) | (simp only [wkE, ne_eq]; omega)) only [g3, g6, g7, g8, c3, c0, r, w1, e, Int.toNat_natCast, wkF, X_region, X_seq, X_block, X_loop, X_cond, Y_box, Y_un, Y_store, Y_append, Y_makeMap, Y_buildSlice, ibin_shl, ibin_shr, ibin_and, ↓reduceIte, reduceCtorEq, oneCell, setAt, readN, Nat.reduceAdd, Nat.reduceLeDiff, Nat.reduceMul, layAt, Nat.reduceLT, Nat.reduceEqDiff, setParams, Int.reduceLT, Int.reduceLE, Int.reduceGT, Int.reduceGE, Int.reduceEq, Int.reduceNe]
      exact Is_in ⟨1, by omega, 2, rfl, rfl, rfl, rfl, rfl, rfl, rfl, by omega, fun _ => ex, (by simp), by omega, rfl⟩
    · simp (disch := first | assumption | omega | (simp only [wkD, oneCell, Option.isSome_some, *]; done) | (simp only [wkE, ne_eq]; omega)) only [g3, g6, g7, g8, c3, c0, r, w1, e, Int.toNat_natCast, wkF, X_region, X_seq, X_block, X_loop, X_cond, Y_box, Y_un, Y_store, Y_append, Y_makeMap, Y_buildSlice, ibin_shl, ibin_shr, ibin_and, ↓reduceIte, reduceCtorEq, oneCell, setAt, readN, Nat.reduceAdd, Nat.reduceLeDiff, Nat.reduceMul, layAt, Nat.reduceLT, Nat.reduceEqDiff, setParams, Int.reduceLT, Int.reduceLE, Int.reduceGT, Int.reduceGE, Int.reduceEq, Int.reduceNe]
      refine Is_in ?_
      simp (disch := first | assumption | omega | (simp only [wkD, oneCell, Option.isSome_some, *]; done) | (simp only [wkE, ne_eq]; omega)) only [wkF, X_region, X_seq, X_block, X_loop, X_cond, Y_box, Y_un, Y_store, Y_append, Y_makeMap, Y_buildSlice, ibin_shl, ibin_shr, ibin_and, ↓reduceIte, reduceCtorEq, oneCell, setAt, readN, Nat.reduceAdd, Nat.reduceLeDiff, Nat.reduceMul, layAt, Nat.reduceLT, Nat.reduceEqDiff, setParams, Int.reduceLT, Int.reduceLE, Int.reduceGT, Int.reduceGE, Int.reduceEq, Int.reduceNe]
      exact leaf1 (by simp only [orZ]; rw [if_neg (by simpa using ex), if_pos e]; rfl)
  | 2, _ =>
    have r : readC (h7.get b) (2 * 1) 1 = some [.int .i64 z] := by rw [hb]; rfl
    have ex := hx (by omega)
    have ey := hy (by omega)
    by_cases e : z = 0
    · simp (disch := first | assumption | omega | (simp only [wkD, oneCell, Option.isSome_some, *]; done) | (simp only [wkE, ne_eq]; omega)) only [g3, g6, g7, g8, c3, c0, r, w1, e, Int.toNat_natCast, wkF, X_region, X_seq, X_block, X_loop, X_cond, Y_box, Y_un, Y_store, Y_append, Y_makeMap, Y_buildSlice, ibin_shl, ibin_shr, ibin_and, ↓reduceIte, reduceCtorEq, oneCell, setAt, readN, Nat.reduceAdd, Nat.reduceLeDiff, Nat.reduceMul, layAt, Nat.reduceLT, Nat.reduceEqDiff, setParams, Int.reduceLT, Int.reduceLE, Int.reduceGT, Int.reduceGE, Int.reduceEq, Int.reduceNe]
      exact Is_in ⟨0, by omega, 3, rfl, rfl, rfl, rfl, rfl, rfl, rfl, by omega, fun _ => ex, fun _ => ey, (by simp), rfl⟩
    · simp (disch := first | assumption | omega | (simp only [wkD, oneCell, Option.isSome_some, *]; done) | (simp only [wkE, ne_eq]; omega)) only [g3, g6, g7, g8, c3, c0, r, w1, e, Int.toNat_natCast, wkF, X_region, X_seq, X_block, X_loop, X_cond, Y_box, Y_un, Y_store, Y_append, Y_makeMap, Y_buildSlice, ibin_shl, ibin_shr, ibin_and, ↓reduceIte, reduceCtorEq, oneCell, setAt, readN, Nat.reduceAdd, Nat.reduceLeDiff, Nat.reduceMul, layAt, Nat.reduceLT, Nat.reduceEqDiff, setParams, Int.reduceLT, Int.reduceLE, Int.reduceGT, Int.reduceGE, Int.reduceEq, Int.reduceNe]
      refine Is_in ?_
      simp (disch := first | assumption | omega | (simp only [wkD, oneCell, Option.isSome_some, *]; done) | (simp only [wkE, ne_eq]; omega)) only [wkF, X_region, X_seq, X_block, X_loop, X_cond, Y_box, Y_un, Y_store, Y_append, Y_makeMap, Y_buildSlice, ibin_shl, ibin_shr, ibin_and, ↓reduceIte, reduceCtorEq, oneCell, setAt, readN, Nat.reduceAdd, Nat.reduceLeDiff, Nat.reduceMul, layAt, Nat.reduceLT, Nat.reduceEqDiff, setParams, Int.reduceLT, Int.reduceLE, Int.reduceGT, Int.reduceGE, Int.reduceEq, Int.reduceNe]
      exact leaf1 (by simp only [orZ]; rw [if_neg (by simpa using ex), if_neg (by simpa using ey)]; rfl)
  | 3, _ =>
    have ex := hx (by omega)
    have ey := hy (by omega)
    have ez := hz (by omega)
    simp (disch := first | assumption | omega | (simp only [wkD, oneCell, Option.isSome_some, *]; done) | (simp only [wkE, ne_eq]; omega)) only [g3, g6, g7, g8, wkF, X_region, X_seq, X_block, X_loop, X_cond, Y_box, Y_un, Y_store, Y_append, Y_makeMap, Y_buildSlice, ibin_shl, ibin_shr, ibin_and, ↓reduceIte, reduceCtorEq, oneCell, setAt, readN, Nat.reduceAdd, Nat.reduceLeDiff, Nat.reduceMul, layAt, Nat.reduceLT, Nat.reduceEqDiff, setParams, Int.reduceLT, Int.reduceLE, Int.reduceGT, Int.reduceGE, Int.reduceEq, Int.reduceNe]
    refine Is_in ?_
    simp (disch := first | assumption | omega | (simp only [wkD, oneCell, Option.isSome_some, *]; done) | (simp only [wkE, ne_eq]; omega)) only [wkF, X_region, X_seq, X_block, X_loop, X_cond, Y_box, Y_un, Y_store, Y_append, Y_makeMap, Y_buildSlice, ibin_shl, ibin_shr, ibin_and, ↓reduceIte, reduceCtorEq, oneCell, setAt, readN, Nat.reduceAdd, Nat.reduceLeDiff, Nat.reduceMul, layAt, Nat.reduceLT, Nat.reduceEqDiff, setParams, Int.reduceLT, Int.reduceLE, Int.reduceGT, Int.reduceGE, Int.reduceEq, Int.reduceNe]
    exact leaf1 (by simp only [orZ]; rw [if_neg (by simpa using ex), if_neg (by simpa using ey), ez]; rfl)
structure It where
  r : Int
  s : Int
  p : Int
deriving DecidableEq
def ic (x : It) : List Value := [.int .i64 x.r, .int .u64 x.s, .int .i64 x.p]
def iv (x : It) : Value := .agg #[.int .i64 x.r, .int .u64 x.s, .int .i64 x.p]
def cmpI (x y : It) : Int := orZ (cmpZ y.p x.p) (cmpZ x.s y.s) (cmpZ x.r y.r)
def le (x y : It) : Prop := y.p < x.p ∨ y.p = x.p ∧ (x.s < y.s ∨ x.s = y.s ∧ x.r ≤ y.r)
instance (x y : It) : Decidable (le x y) := by unfold le; infer_instance
theorem cmpI_lt (x y : It) : cmpI x y < 0 ↔ ¬ le y x := by
  unfold cmpI orZ cmpZ le
  split <;> (repeat' split) <;> omega
theorem le_trans {x y z : It} (h : le x y) (k : le y z) : le x z := by unfold le at *; omega
theorem le_total (x y : It) : le x y ∨ le y x := by unfold le; omega
theorem ic_len (x : It) : (ic x).length = 3 := rfl
theorem ic_one (x : It) : (ic x).all oneCell = true := rfl
theorem iv_cells (x : It) : cellsOf (iv x) = ic x := rfl
theorem compare_ok {n : Nat} {h : Heap} (hn : 4 < n) (hf : h.Fine) (x y : It) : (callV env (n + 3) (.func (.func 76) #[] #[]) [iv x, iv y] h).Is fun p => p.1 = .int .i64 (cmpI x y) ∧ Ext h p.2 := by
  refine call_is env76 ?_
  unfold iv
  simp (disch := first | assumption | omega | (simp only [wkD, oneCell, Option.isSome_some, *]; done) | (simp only [wkE, ne_eq]; omega)) only [ir76, List.append_nil, List.nil_append, List.cons_append, List.length_cons, List.length_nil, Nat.reduceAdd, Nat.reduceSub, List.replicate_succ, List.replicate_zero, wkF, X_region, X_seq, X_block, X_loop, X_cond, Y_box, Y_un, Y_store, Y_append, Y_makeMap, Y_buildSlice, ibin_shl, ibin_shr, ibin_and, ↓reduceIte, reduceCtorEq, oneCell, setAt, readN, Nat.reduceAdd, Nat.reduceLeDiff, Nat.reduceMul, layAt, Nat.reduceLT, Nat.reduceEqDiff, setParams, Int.reduceLT, Int.reduceLE, Int.reduceGT, Int.reduceGE, Int.reduceEq, Int.reduceNe]
  refine X_drawn _ fun an => ?_
  have f1 := alloc_fine (o := .cells [.int .i64 x.r, .int .u64 x.s, .int .i64 x.p] 1 false) hf
  have f2 := alloc_fine (o := .cells [.int .i64 y.r, .int .u64 y.s, .int .i64 y.p] 1 false) f1
  have e2 : Ext h ((h.alloc (.cells [.int .i64 x.r, .int .u64 x.s, .int .i64 x.p] 1 false)).alloc (.cells [.int .i64 y.r, .int .u64 y.s, .int .i64 y.p] 1 false)) := ((Ext.refl h).alloc _).alloc _
  have gx : ((h.alloc (.cells [.int .i64 x.r, .int .u64 x.s, .int .i64 x.p] 1 false)).alloc (.cells [.int .i64 y.r, .int .u64 y.s, .int .i64 y.p] 1 false)).get (2 * h.next) = some (.cells [.int .i64 x.r, .int .u64 x.s, .int .i64 x.p] 1 false) := (get_alloc_old (by simp only [alloc_next]; omega)).trans (get_alloc_new hf)
  have gy : ((h.alloc (.cells [.int .i64 x.r, .int .u64 x.s, .int .i64 x.p] 1 false)).alloc (.cells [.int .i64 y.r, .int .u64 y.s, .int .i64 y.p] 1 false)).get (2 * (h.next + 1)) = some (.cells [.int .i64 y.r, .int .u64 y.s, .int .i64 y.p] 1 false) := get_alloc_new f1
  generalize ((h.alloc (.cells [.int .i64 x.r, .int .u64 x.s, .int .i64 x.p] 1 false)).alloc (.cells [.int .i64 y.r, .int .u64 y.s, .int .i64 y.p] 1 false)) = k at f2 e2 gx gy ⊢
  simp (disch := first | assumption | omega | (simp only [wkD, oneCell, Option.isSome_some, *]; done) | (simp only [wkE, ne_eq]; omega)) only [gx, gy, wkF, X_region, X_seq, X_block, X_loop, X_cond, Y_box, Y_un, Y_store, Y_append, Y_makeMap, Y_buildSlice, ibin_shl, ibin_shr, ibin_and, ↓reduceIte, reduceCtorEq, oneCell, setAt, readN, Nat.reduceAdd, Nat.reduceLeDiff, Nat.reduceMul, layAt, Nat.reduceLT, Nat.reduceEqDiff, setParams, Int.reduceLT, Int.reduceLE, Int.reduceGT, Int.reduceGE, Int.reduceEq, Int.reduceNe]
  refine DF_is (cmpZ_ok (n := n) _ _) ?_
  rintro v h1 ⟨rfl⟩
  simp (disch := first | assumption | omega | (simp only [wkD, oneCell, Option.isSome_some, *]; done) | (simp only [wkE, ne_eq]; omega)) only [gx, gy, wkF, X_region, X_seq, X_block, X_loop, X_cond, Y_box, Y_un, Y_store, Y_append, Y_makeMap, Y_buildSlice, ibin_shl, ibin_shr, ibin_and, ↓reduceIte, reduceCtorEq, oneCell, setAt, readN, Nat.reduceAdd, Nat.reduceLeDiff, Nat.reduceMul, layAt, Nat.reduceLT, Nat.reduceEqDiff, setParams, Int.reduceLT, Int.reduceLE, Int.reduceGT, Int.reduceGE, Int.reduceEq, Int.reduceNe]
  refine DF_is (cmpU_ok (n := n) _ _) ?_
  rintro v h1 ⟨rfl⟩
  simp (disch := first | assumption | omega | (simp only [wkD, oneCell, Option.isSome_some, *]; done) | (simp only [wkE, ne_eq]; omega)) only [gx, gy, wkF, X_region, X_seq, X_block, X_loop, X_cond, Y_box, Y_un, Y_store, Y_append, Y_makeMap, Y_buildSlice, ibin_shl, ibin_shr, ibin_and, ↓reduceIte, reduceCtorEq, oneCell, setAt, readN, Nat.reduceAdd, Nat.reduceLeDiff, Nat.reduceMul, layAt, Nat.reduceLT, Nat.reduceEqDiff, setParams, Int.reduceLT, Int.reduceLE, Int.reduceGT, Int.reduceGE, Int.reduceEq, Int.reduceNe]
  refine DB_is (cmpZ_ok (n := n) _ _) ?_
  rintro v h1 ⟨rfl⟩
  have bs : pBuildSlice k 1 3 [.int .i64 0] [(0, 1, .int .i64 (cmpZ y.p x.p)), (1, 1, .int .i64 (cmpZ x.s y.s)), (2, 1, .int .i64 (cmpZ x.r y.r))] = some (.slice (some ⟨2 * k.next, 0, none⟩) 3 3, k.alloc (.cells [.int .i64 (cmpZ y.p x.p), .int .i64 (cmpZ x.s y.s), .int .i64 (cmpZ x.r y.r)] 1 false)) := by
    unfold pBuildSlice; rfl
  simp (disch := first | assumption | omega | (simp only [wkD, oneCell, Option.isSome_some, *]; done) | (simp only [wkE, ne_eq]; omega)) only [bs, wkF, X_region, X_seq, X_block, X_loop, X_cond, Y_box, Y_un, Y_store, Y_append, Y_makeMap, Y_buildSlice, ibin_shl, ibin_shr, ibin_and, ↓reduceIte, reduceCtorEq, oneCell, setAt, readN, Nat.reduceAdd, Nat.reduceLeDiff, Nat.reduceMul, layAt, Nat.reduceLT, Nat.reduceEqDiff, setParams, Int.reduceLT, Int.reduceLE, Int.reduceGT, Int.reduceGE, Int.reduceEq, Int.reduceNe]
  refine DB_is (or_ok (n := n + 1) _ _ _ (by omega) (get_alloc_new f2)) ?_
  rintro v h1 ⟨rfl⟩
  simp (disch := first | assumption | omega | (simp only [wkD, oneCell, Option.isSome_some, *]; done) | (simp only [wkE, ne_eq]; omega)) only [wkF, X_region, X_seq, X_block, X_loop, X_cond, Y_box, Y_un, Y_store, Y_append, Y_makeMap, Y_buildSlice, ibin_shl, ibin_shr, ibin_and, ↓reduceIte, reduceCtorEq, oneCell, setAt, readN, Nat.reduceAdd, Nat.reduceLeDiff, Nat.reduceMul, layAt, Nat.reduceLT, Nat.reduceEqDiff, setParams, Int.reduceLT, Int.reduceLE, Int.reduceGT, Int.reduceGE, Int.reduceEq, Int.reduceNe]
  exact leaf1 ⟨rfl, e2.alloc _⟩
theorem cmp_ok {n : Nat} {h : Heap} (hn : 4 < n) (hf : h.Fine) (x y : It) : (callV env (n + 4) (.func (.func 75) #[] #[]) [iv x, iv y] h).Is fun p => p.1 = .int .i64 (cmpI x y) ∧ Ext h p.2 := by
  refine call_is env75 ?_
  unfold iv
  have f1 := alloc_fine (o := .cells [.int .i64 x.r, .int .u64 x.s, .int .i64 x.p] 1 false) hf
  have f2 := alloc_fine (o := .cells [.int .i64 y.r, .int .u64 y.s, .int .i64 y.p] 1 false) f1
  have e2 : Ext h ((h.alloc (.cells [.int .i64 x.r, .int .u64 x.s, .int .i64 x.p] 1 false)).alloc (.cells [.int .i64 y.r, .int .u64 y.s, .int .i64 y.p] 1 false)) := ((Ext.refl h).alloc _).alloc _
  have gx : ((h.alloc (.cells [.int .i64 x.r, .int .u64 x.s, .int .i64 x.p] 1 false)).alloc (.cells [.int .i64 y.r, .int .u64 y.s, .int .i64 y.p] 1 false)).get (2 * h.next) = some (.cells [.int .i64 x.r, .int .u64 x.s, .int .i64 x.p] 1 false) := (get_alloc_old (by simp only [alloc_next]; omega)).trans (get_alloc_new hf)
  have gy : ((h.alloc (.cells [.int .i64 x.r, .int .u64 x.s, .int .i64 x.p] 1 false)).alloc (.cells [.int .i64 y.r, .int .u64 y.s, .int .i64 y.p] 1 false)).get (2 * (h.next + 1)) = some (.cells [.int .i64 y.r, .int .u64 y.s, .int .i64 y.p] 1 false) := get_alloc_new f1
  simp (disch := first | assumption | omega | (simp only [wkD, oneCell, Option.isSome_some, *]; done) | (simp only [wkE, ne_eq]; omega)) only [ir75, List.append_nil, List.nil_append, List.cons_append, List.length_cons, List.length_nil, Nat.reduceAdd, Nat.reduceSub, List.replicate_succ, List.replicate_zero, gx, gy, wkF, X_region, X_seq, X_block, X_loop, X_cond, Y_box, Y_un, Y_store, Y_append, Y_makeMap, Y_buildSlice, ibin_shl, ibin_shr, ibin_and, ↓reduceIte, reduceCtorEq, oneCell, setAt, readN, Nat.reduceAdd, Nat.reduceLeDiff, Nat.reduceMul, layAt, Nat.reduceLT, Nat.reduceEqDiff, setParams, Int.reduceLT, Int.reduceLE, Int.reduceGT, Int.reduceGE, Int.reduceEq, Int.reduceNe]
  refine Z_is (compare_ok (n := n) hn f2 x y) ?_
  rintro v h1 ⟨rfl, e1⟩
  simp (disch := first | assumption | omega | (simp only [wkD, oneCell, Option.isSome_some, *]; done) | (simp only [wkE, ne_eq]; omega)) only [wkF, X_region, X_seq, X_block, X_loop, X_cond, Y_box, Y_un, Y_store, Y_append, Y_makeMap, Y_buildSlice, ibin_shl, ibin_shr, ibin_and, ↓reduceIte, reduceCtorEq, oneCell, setAt, readN, Nat.reduceAdd, Nat.reduceLeDiff, Nat.reduceMul, layAt, Nat.reduceLT, Nat.reduceEqDiff, setParams, Int.reduceLT, Int.reduceLE, Int.reduceGT, Int.reduceGE, Int.reduceEq, Int.reduceNe]
  exact leaf1 ⟨rfl, e2.trans e1⟩
end Go.Proofs.Ytmpnldmdchchjaa
