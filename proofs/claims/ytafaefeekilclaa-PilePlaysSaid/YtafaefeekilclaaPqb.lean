/-
  Sorting: what the functions of the package slices leave, as its plain form says.
-/
import Derived.Test.YtafaefeekilclaaFk
import Derived.Test.YtafaefeekilclaaHeap
import Derived.Sort.AssemblyPlain
import Derived.Sort.LotD5
import Derived.Test.YtafaefeekilclaaPqa
namespace Go.Proofs.Ytafaefeekilclaa
open Go Go.Ideal
set_option maxHeartbeats 0
set_option linter.unusedSimpArgs false
set_option linter.unusedVariables false
set_option maxRecDepth 100000
attribute [local irreducible] callV T.All T.Is run
theorem env49 : env 49 = some ir49 := rfl
theorem env48 : env 48 = some ir48 := rfl
theorem env47 : env 47 = some ir47 := rfl
theorem env37 : env 37 = some ir37 := rfl

/-- The swaps' count, as a cell. -/
def Sw (b : Nat) (s : Nat) : Rs := Ob b (.cells [.int .i64 (s : Int)] 1 false)

section
variable {ro : Nat → Option (List Value × Nat)} {h : Heap} {R : List Rs} {b zz sb s n m cap : Nat} {sp : Option Nat} {rest : List Value} {t : Bool} {d : Array It}

theorem order2_ok {i j : Nat} (hm2 : m < 1000000) (hn : 4 < n) (hm : d.size = m) (hs : s < 1000) (O : Has ro h (Ar b d rest zz t :: Sw sb s :: R)) (hi : i < m) (hj : j < m) :
    (callV env (n + 5) (.func (.func 49) #[] #[]) [.slice (some ⟨b, 0, sp⟩) m cap, .int .i64 (i : Int), .int .i64 (j : Int), .pointer (some ⟨sb, 0, none⟩), .func (.func 27) #[] #[]] h).Is fun p => p.1 = .tuple #[.int .i64 ((Sort.order2 ltI d i j s).1 : Int), .int .i64 ((Sort.order2 ltI d i j s).2.1 : Int)] ∧ Has ro p.2 (Ar b d rest zz t :: Sw sb (Sort.order2 ltI d i j s).2.2 :: R) ∧ (Sort.order2 ltI d i j s).2.2 ≤ s + 1 := by
  refine call_is env49 ?_
  have r1 := rdA O (k := i) (by omega)
  have r2 := rdA O (k := j) (by omega)
  have c1 : (0 : Int) ≤ (i : Int) := by omega
  have c2 : (i : Int) < (m : Int) := by omega
  have c3 : (0 : Int) ≤ (j : Int) := by omega
  have c4 : (j : Int) < (m : Int) := by omega
  simp (disch := first | assumption | omega | (simp only [wkD, oneCell, Option.isSome_some, *]; done) | (simp only [wkE, ne_eq]; omega)) only [ir49, List.append_nil, List.nil_append, List.cons_append, List.length_cons, List.length_nil, Nat.reduceAdd, Nat.reduceSub, List.replicate_succ, List.replicate_zero, wk0, wk1, wk2, wk3, wk4, wk5, X_region, X_seq, X_block, X_loop, X_cond, Y_box, Y_un, Y_store, Y_append, Y_makeMap, Y_buildSlice, ibin_shl, ibin_shr, ibin_and, List.set_cons_zero, List.set_cons_succ, List.getD_cons_zero, List.getD_cons_succ, List.map_cons, List.map_nil, ↓reduceIte, reduceCtorEq, oneCell, List.length_cons, List.length_nil, setAt, readN, bne_iff_ne, ne_eq, Nat.reduceAdd, Nat.reduceLeDiff, List.getElem?_cons_zero, List.getElem?_cons_succ, Nat.reduceMul, Option.isSome_some, layAt, Nat.reduceLT, Option.isNone_some, Option.isNone_none, beq_self_eq_true, Nat.reduceEqDiff, setParams, Int.reduceLT, Int.reduceLE, Int.reduceGT, Int.reduceGE, Int.reduceEq, Int.reduceNe, Option.map_some, Option.map_none, Option.isSome_none]
  refine X_drawn _ fun an => ?_
  simp (disch := first | assumption | omega | (simp only [wkD, oneCell, Option.isSome_some, *]; done) | (simp only [wkE, ne_eq]; omega)) only [r1, r2, c1, c2, c3, c4, Int.toNat_natCast, agg_ic, wk0, wk1, wk2, wk3, wk4, wk5, X_region, X_seq, X_block, X_loop, X_cond, Y_box, Y_un, Y_store, Y_append, Y_makeMap, Y_buildSlice, ibin_shl, ibin_shr, ibin_and, List.set_cons_zero, List.set_cons_succ, List.getD_cons_zero, List.getD_cons_succ, List.map_cons, List.map_nil, ↓reduceIte, reduceCtorEq, oneCell, List.length_cons, List.length_nil, setAt, readN, bne_iff_ne, ne_eq, Nat.reduceAdd, Nat.reduceLeDiff, List.getElem?_cons_zero, List.getElem?_cons_succ, Nat.reduceMul, Option.isSome_some, layAt, Nat.reduceLT, Option.isNone_some, Option.isNone_none, beq_self_eq_true, Nat.reduceEqDiff, setParams, Int.reduceLT, Int.reduceLE, Int.reduceGT, Int.reduceGE, Int.reduceEq, Int.reduceNe, Option.map_some, Option.map_none, Option.isSome_none]
  refine DB_is (cmp_ok (n := n) (by omega) O.fine d[j]! d[i]!) ?_
  rintro v3 h3 ⟨rfl, e3⟩
  simp only at e3
  replace O := O.ext e3
  by_cases hc : cmpI d[j]! d[i]! < 0
  · have ho : Sort.order2 ltI d i j s = (j, i, s + 1) := by unfold Sort.order2; rw [if_pos (ltI_t hc)]
    have g1 := O.get 1 rfl
    have p1 := O.can 1 rfl
    have y1 : IntKind.i64.wrap ((s : Int) + 1) = ((s + 1 : Nat) : Int) := by rw [wrap_i64 (by omega) (by omega)]; omega
    simp (disch := first | assumption | omega | (simp only [wkD, oneCell, Option.isSome_some, *]; done) | (simp only [wkE, ne_eq]; omega)) only [hc, g1, p1, y1, wk0, wk1, wk2, wk3, wk4, wk5, X_region, X_seq, X_block, X_loop, X_cond, Y_box, Y_un, Y_store, Y_append, Y_makeMap, Y_buildSlice, ibin_shl, ibin_shr, ibin_and, List.set_cons_zero, List.set_cons_succ, List.getD_cons_zero, List.getD_cons_succ, List.map_cons, List.map_nil, ↓reduceIte, reduceCtorEq, oneCell, List.length_cons, List.length_nil, setAt, readN, bne_iff_ne, ne_eq, Nat.reduceAdd, Nat.reduceLeDiff, List.getElem?_cons_zero, List.getElem?_cons_succ, Nat.reduceMul, Option.isSome_some, layAt, Nat.reduceLT, Option.isNone_some, Option.isNone_none, beq_self_eq_true, Nat.reduceEqDiff, setParams, Int.reduceLT, Int.reduceLE, Int.reduceGT, Int.reduceGE, Int.reduceEq, Int.reduceNe, Option.map_some, Option.map_none, Option.isSome_none]
    rw [ho]
    exact leaf2 ⟨rfl, O.set 1 rfl _, Nat.le_refl _⟩
  · have ho : Sort.order2 ltI d i j s = (i, j, s) := by unfold Sort.order2; rw [if_neg (ltI_f hc)]
    simp (disch := first | assumption | omega | (simp only [wkD, oneCell, Option.isSome_some, *]; done) | (simp only [wkE, ne_eq]; omega)) only [hc, wk0, wk1, wk2, wk3, wk4, wk5, X_region, X_seq, X_block, X_loop, X_cond, Y_box, Y_un, Y_store, Y_append, Y_makeMap, Y_buildSlice, ibin_shl, ibin_shr, ibin_and, List.set_cons_zero, List.set_cons_succ, List.getD_cons_zero, List.getD_cons_succ, List.map_cons, List.map_nil, ↓reduceIte, reduceCtorEq, oneCell, List.length_cons, List.length_nil, setAt, readN, bne_iff_ne, ne_eq, Nat.reduceAdd, Nat.reduceLeDiff, List.getElem?_cons_zero, List.getElem?_cons_succ, Nat.reduceMul, Option.isSome_some, layAt, Nat.reduceLT, Option.isNone_some, Option.isNone_none, beq_self_eq_true, Nat.reduceEqDiff, setParams, Int.reduceLT, Int.reduceLE, Int.reduceGT, Int.reduceGE, Int.reduceEq, Int.reduceNe, Option.map_some, Option.map_none, Option.isSome_none]
    rw [ho]
    exact leaf2 ⟨rfl, O, Nat.le_succ _⟩

theorem median_ok {i j k : Nat} (hm2 : m < 1000000) (hn : 4 < n) (hm : d.size = m) (hs : s < 900) (O : Has ro h (Ar b d rest zz t :: Sw sb s :: R)) (hi : i < m) (hj : j < m) (hk : k < m) :
    (callV env (n + 6) (.func (.func 48) #[] #[]) [.slice (some ⟨b, 0, sp⟩) m cap, .int .i64 (i : Int), .int .i64 (j : Int), .int .i64 (k : Int), .pointer (some ⟨sb, 0, none⟩), .func (.func 27) #[] #[]] h).Is fun p => p.1 = .int .i64 ((Sort.median ltI d i j k s).1 : Int) ∧ Has ro p.2 (Ar b d rest zz t :: Sw sb (Sort.median ltI d i j k s).2 :: R) ∧ (Sort.median ltI d i j k s).2 ≤ s + 3 ∧ (Sort.median ltI d i j k s).1 < m := by
  refine call_is env48 ?_
  simp (disch := first | assumption | omega | (simp only [wkD, oneCell, Option.isSome_some, *]; done) | (simp only [wkE, ne_eq]; omega)) only [ir48, List.append_nil, List.nil_append, List.cons_append, List.length_cons, List.length_nil, Nat.reduceAdd, Nat.reduceSub, List.replicate_succ, List.replicate_zero, wk0, wk1, wk2, wk3, wk4, wk5, X_region, X_seq, X_block, X_loop, X_cond, Y_box, Y_un, Y_store, Y_append, Y_makeMap, Y_buildSlice, ibin_shl, ibin_shr, ibin_and, List.set_cons_zero, List.set_cons_succ, List.getD_cons_zero, List.getD_cons_succ, List.map_cons, List.map_nil, ↓reduceIte, reduceCtorEq, oneCell, List.length_cons, List.length_nil, setAt, readN, bne_iff_ne, ne_eq, Nat.reduceAdd, Nat.reduceLeDiff, List.getElem?_cons_zero, List.getElem?_cons_succ, Nat.reduceMul, Option.isSome_some, layAt, Nat.reduceLT, Option.isNone_some, Option.isNone_none, beq_self_eq_true, Nat.reduceEqDiff, setParams, Int.reduceLT, Int.reduceLE, Int.reduceGT, Int.reduceGE, Int.reduceEq, Int.reduceNe, Option.map_some, Option.map_none, Option.isSome_none]
  refine Z_is (order2_ok (n := n) hm2 hn hm (by omega) O hi hj) ?_
  rintro v1 h1 ⟨rfl, O1, s1⟩
  simp only at O1
  have q1 := Sort.order2_mem ltI d i j s
  unfold Sort.median
  generalize Sort.order2 ltI d i j s = a at O1 s1 q1 ⊢
  obtain ⟨a1, a2, a3⟩ := a
  simp only at O1 s1 q1 ⊢
  simp (disch := first | assumption | omega | (simp only [wkD, oneCell, Option.isSome_some, *]; done) | (simp only [wkE, ne_eq]; omega)) only [wk0, wk1, wk2, wk3, wk4, wk5, X_region, X_seq, X_block, X_loop, X_cond, Y_box, Y_un, Y_store, Y_append, Y_makeMap, Y_buildSlice, ibin_shl, ibin_shr, ibin_and, List.set_cons_zero, List.set_cons_succ, List.getD_cons_zero, List.getD_cons_succ, List.map_cons, List.map_nil, ↓reduceIte, reduceCtorEq, oneCell, List.length_cons, List.length_nil, setAt, readN, bne_iff_ne, ne_eq, Nat.reduceAdd, Nat.reduceLeDiff, List.getElem?_cons_zero, List.getElem?_cons_succ, Nat.reduceMul, Option.isSome_some, layAt, Nat.reduceLT, Option.isNone_some, Option.isNone_none, beq_self_eq_true, Nat.reduceEqDiff, setParams, Int.reduceLT, Int.reduceLE, Int.reduceGT, Int.reduceGE, Int.reduceEq, Int.reduceNe, Option.map_some, Option.map_none, Option.isSome_none]
  refine Z_is (order2_ok (n := n) (i := a2) (j := k) hm2 hn hm (by omega) O1 (by omega) hk) ?_
  rintro v2 h2 ⟨rfl, O2, s2⟩
  simp only at O2
  have q2 := Sort.order2_mem ltI d a2 k a3
  generalize Sort.order2 ltI d a2 k a3 = c at O2 s2 q2 ⊢
  obtain ⟨c1, c2, c3⟩ := c
  simp only at O2 s2 q2 ⊢
  simp (disch := first | assumption | omega | (simp only [wkD, oneCell, Option.isSome_some, *]; done) | (simp only [wkE, ne_eq]; omega)) only [wk0, wk1, wk2, wk3, wk4, wk5, X_region, X_seq, X_block, X_loop, X_cond, Y_box, Y_un, Y_store, Y_append, Y_makeMap, Y_buildSlice, ibin_shl, ibin_shr, ibin_and, List.set_cons_zero, List.set_cons_succ, List.getD_cons_zero, List.getD_cons_succ, List.map_cons, List.map_nil, ↓reduceIte, reduceCtorEq, oneCell, List.length_cons, List.length_nil, setAt, readN, bne_iff_ne, ne_eq, Nat.reduceAdd, Nat.reduceLeDiff, List.getElem?_cons_zero, List.getElem?_cons_succ, Nat.reduceMul, Option.isSome_some, layAt, Nat.reduceLT, Option.isNone_some, Option.isNone_none, beq_self_eq_true, Nat.reduceEqDiff, setParams, Int.reduceLT, Int.reduceLE, Int.reduceGT, Int.reduceGE, Int.reduceEq, Int.reduceNe, Option.map_some, Option.map_none, Option.isSome_none]
  refine Z_is (order2_ok (n := n) (i := a1) (j := c1) hm2 hn hm (by omega) O2 (by omega) (by omega)) ?_
  rintro v3 h3 ⟨rfl, O3, s3⟩
  simp only at O3
  have q3 := Sort.order2_mem ltI d a1 c1 c3
  generalize Sort.order2 ltI d a1 c1 c3 = e at O3 s3 q3 ⊢
  obtain ⟨e1, e2, e3⟩ := e
  simp only at O3 s3 q3 ⊢
  simp (disch := first | assumption | omega | (simp only [wkD, oneCell, Option.isSome_some, *]; done) | (simp only [wkE, ne_eq]; omega)) only [wk0, wk1, wk2, wk3, wk4, wk5, X_region, X_seq, X_block, X_loop, X_cond, Y_box, Y_un, Y_store, Y_append, Y_makeMap, Y_buildSlice, ibin_shl, ibin_shr, ibin_and, List.set_cons_zero, List.set_cons_succ, List.getD_cons_zero, List.getD_cons_succ, List.map_cons, List.map_nil, ↓reduceIte, reduceCtorEq, oneCell, List.length_cons, List.length_nil, setAt, readN, bne_iff_ne, ne_eq, Nat.reduceAdd, Nat.reduceLeDiff, List.getElem?_cons_zero, List.getElem?_cons_succ, Nat.reduceMul, Option.isSome_some, layAt, Nat.reduceLT, Option.isNone_some, Option.isNone_none, beq_self_eq_true, Nat.reduceEqDiff, setParams, Int.reduceLT, Int.reduceLE, Int.reduceGT, Int.reduceGE, Int.reduceEq, Int.reduceNe, Option.map_some, Option.map_none, Option.isSome_none]
  exact leaf1 ⟨rfl, O3, by omega, by omega⟩

theorem medAdj_ok {i : Nat} (hm2 : m < 1000000) (hn : 4 < n) (hm : d.size = m) (hs : s < 900) (O : Has ro h (Ar b d rest zz t :: Sw sb s :: R)) (h0 : 0 < i) (hi : i + 1 < m) :
    (callV env (n + 7) (.func (.func 47) #[] #[]) [.slice (some ⟨b, 0, sp⟩) m cap, .int .i64 (i : Int), .pointer (some ⟨sb, 0, none⟩), .func (.func 27) #[] #[]] h).Is fun p => p.1 = .int .i64 ((Sort.medianAdjacent ltI d i s).1 : Int) ∧ Has ro p.2 (Ar b d rest zz t :: Sw sb (Sort.medianAdjacent ltI d i s).2 :: R) ∧ (Sort.medianAdjacent ltI d i s).2 ≤ s + 3 ∧ (Sort.medianAdjacent ltI d i s).1 < m := by
  refine call_is env47 ?_
  have y1 : IntKind.i64.wrap ((i : Int) - 1) = ((i - 1 : Nat) : Int) := by rw [wrap_i64 (by omega) (by omega)]; omega
  have y2 : IntKind.i64.wrap ((i : Int) + 1) = ((i + 1 : Nat) : Int) := by rw [wrap_i64 (by omega) (by omega)]; omega
  simp (disch := first | assumption | omega | (simp only [wkD, oneCell, Option.isSome_some, *]; done) | (simp only [wkE, ne_eq]; omega)) only [ir47, List.append_nil, List.nil_append, List.cons_append, List.length_cons, List.length_nil, Nat.reduceAdd, Nat.reduceSub, List.replicate_succ, List.replicate_zero, y1, y2, wk0, wk1, wk2, wk3, wk4, wk5, X_region, X_seq, X_block, X_loop, X_cond, Y_box, Y_un, Y_store, Y_append, Y_makeMap, Y_buildSlice, ibin_shl, ibin_shr, ibin_and, List.set_cons_zero, List.set_cons_succ, List.getD_cons_zero, List.getD_cons_succ, List.map_cons, List.map_nil, ↓reduceIte, reduceCtorEq, oneCell, List.length_cons, List.length_nil, setAt, readN, bne_iff_ne, ne_eq, Nat.reduceAdd, Nat.reduceLeDiff, List.getElem?_cons_zero, List.getElem?_cons_succ, Nat.reduceMul, Option.isSome_some, layAt, Nat.reduceLT, Option.isNone_some, Option.isNone_none, beq_self_eq_true, Nat.reduceEqDiff, setParams, Int.reduceLT, Int.reduceLE, Int.reduceGT, Int.reduceGE, Int.reduceEq, Int.reduceNe, Option.map_some, Option.map_none, Option.isSome_none]
  refine Z_is (median_ok (n := n) (i := i - 1) (j := i) (k := i + 1) hm2 hn hm (by omega) O (by omega) (by omega) (by omega)) ?_
  rintro v1 h1 ⟨rfl, O1, s1, s2⟩
  simp only at O1
  simp (disch := first | assumption | omega | (simp only [wkD, oneCell, Option.isSome_some, *]; done) | (simp only [wkE, ne_eq]; omega)) only [wk0, wk1, wk2, wk3, wk4, wk5, X_region, X_seq, X_block, X_loop, X_cond, Y_box, Y_un, Y_store, Y_append, Y_makeMap, Y_buildSlice, ibin_shl, ibin_shr, ibin_and, List.set_cons_zero, List.set_cons_succ, List.getD_cons_zero, List.getD_cons_succ, List.map_cons, List.map_nil, ↓reduceIte, reduceCtorEq, oneCell, List.length_cons, List.length_nil, setAt, readN, bne_iff_ne, ne_eq, Nat.reduceAdd, Nat.reduceLeDiff, List.getElem?_cons_zero, List.getElem?_cons_succ, Nat.reduceMul, Option.isSome_some, layAt, Nat.reduceLT, Option.isNone_some, Option.isNone_none, beq_self_eq_true, Nat.reduceEqDiff, setParams, Int.reduceLT, Int.reduceLE, Int.reduceGT, Int.reduceGE, Int.reduceEq, Int.reduceNe, Option.map_some, Option.map_none, Option.isSome_none]
  exact leaf1 ⟨rfl, O1, s1, s2⟩
end

def hintZ : Sort.Hint → Int
  | .unknown => 0
  | .increasing => 1
  | .decreasing => 2

section
variable {ro : Nat → Option (List Value × Nat)} {h : Heap} {R : List Rs} {b zz n m cap : Nat} {sp : Option Nat} {rest : List Value} {t : Bool} {d : Array It}

theorem choose_ok {lo hi : Nat} (hm2 : m < 1000000) (hn : 4 < n) (hm : d.size = m) (O : Has ro h (Ar b d rest zz t :: R)) (hlo : lo + 12 < hi) (hhi : hi ≤ m) :
    (callV env (n + 8) (.func (.func 37) #[] #[]) [.slice (some ⟨b, 0, sp⟩) m cap, .int .i64 (lo : Int), .int .i64 (hi : Int), .func (.func 27) #[] #[]] h).Is fun p => p.1 = .tuple #[.int .i64 ((Sort.choosePivot ltI d lo hi).1 : Int), .int .i64 (hintZ (Sort.choosePivot ltI d lo hi).2)] ∧ Has ro p.2 (Ar b d rest zz t :: R) := by
  refine call_is env37 ?_
  have y1 : IntKind.i64.wrap ((hi : Int) - (lo : Int)) = ((hi - lo : Nat) : Int) := by rw [wrap_i64 (by omega) (by omega)]; omega
  have y2 : IntKind.i64.wrap (((hi - lo : Nat) : Int).tdiv 4) = (((hi - lo) / 4 : Nat) : Int) := by rw [show (((hi - lo : Nat) : Int).tdiv 4) = (((hi - lo) / 4 : Nat) : Int) from rfl, wrap_i64 (by omega) (by omega)]
  have y3 : IntKind.i64.wrap ((((hi - lo) / 4 : Nat) : Int) * 1) = (((hi - lo) / 4 * 1 : Nat) : Int) := by rw [wrap_i64 (by omega) (by omega)]; omega
  have y4 : IntKind.i64.wrap ((((hi - lo) / 4 : Nat) : Int) * 2) = (((hi - lo) / 4 * 2 : Nat) : Int) := by rw [wrap_i64 (by omega) (by omega)]; omega
  have y5 : IntKind.i64.wrap ((((hi - lo) / 4 : Nat) : Int) * 3) = (((hi - lo) / 4 * 3 : Nat) : Int) := by rw [wrap_i64 (by omega) (by omega)]; omega
  have y6 : IntKind.i64.wrap ((lo : Int) + (((hi - lo) / 4 * 1 : Nat) : Int)) = ((lo + (hi - lo) / 4 * 1 : Nat) : Int) := by rw [wrap_i64 (by omega) (by omega)]; omega
  have y7 : IntKind.i64.wrap ((lo : Int) + (((hi - lo) / 4 * 2 : Nat) : Int)) = ((lo + (hi - lo) / 4 * 2 : Nat) : Int) := by rw [wrap_i64 (by omega) (by omega)]; omega
  have y8 : IntKind.i64.wrap ((lo : Int) + (((hi - lo) / 4 * 3 : Nat) : Int)) = ((lo + (hi - lo) / 4 * 3 : Nat) : Int) := by rw [wrap_i64 (by omega) (by omega)]; omega
  have h8 : (8 : Int) ≤ ((hi - lo : Nat) : Int) := by omega
  have hpi : lo + (hi - lo) / 4 * 1 + 1 < m ∧ 0 < lo + (hi - lo) / 4 * 1 := by omega
  have hpj : lo + (hi - lo) / 4 * 2 + 1 < m ∧ 0 < lo + (hi - lo) / 4 * 2 := by omega
  have hpk : lo + (hi - lo) / 4 * 3 + 1 < m ∧ 0 < lo + (hi - lo) / 4 * 3 := by omega
  simp (disch := first | assumption | omega | (simp only [wkD, oneCell, Option.isSome_some, *]; done) | (simp only [wkE, ne_eq]; omega)) only [ir37, List.append_nil, List.nil_append, List.cons_append, List.length_cons, List.length_nil, Nat.reduceAdd, Nat.reduceSub, List.replicate_succ, List.replicate_zero, y1, wk0, wk1, wk2, wk3, wk4, wk5, X_region, X_seq, X_block, X_loop, X_cond, Y_un, Y_store, Y_append, Y_makeMap, Y_buildSlice, ibin_shl, ibin_shr, ibin_and, List.set_cons_zero, List.set_cons_succ, List.getD_cons_zero, List.getD_cons_succ, List.map_cons, List.map_nil, ↓reduceIte, reduceCtorEq, oneCell, List.length_cons, List.length_nil, setAt, readN, bne_iff_ne, ne_eq, Nat.reduceAdd, Nat.reduceLeDiff, List.getElem?_cons_zero, List.getElem?_cons_succ, Nat.reduceMul, Option.isSome_some, layAt, Nat.reduceLT, Option.isNone_some, Option.isNone_none, beq_self_eq_true, Nat.reduceEqDiff, setParams, Int.reduceLT, Int.reduceLE, Int.reduceGT, Int.reduceGE, Int.reduceEq, Int.reduceNe, Option.map_some, Option.map_none, Option.isSome_none]
  refine Y_boxO O ?_
  intro sb h1 O e1
  replace O := O.swap2
  simp (disch := first | assumption | omega | (simp only [wkD, oneCell, Option.isSome_some, *]; done) | (simp only [wkE, ne_eq]; omega)) only [y1, y2, y3, y4, y5, y6, y7, y8, h8, wk0, wk1, wk2, wk3, wk4, wk5, X_region, X_seq, X_block, X_loop, X_cond, Y_box, Y_un, Y_store, Y_append, Y_makeMap, Y_buildSlice, ibin_shl, ibin_shr, ibin_and, List.set_cons_zero, List.set_cons_succ, List.getD_cons_zero, List.getD_cons_succ, List.map_cons, List.map_nil, ↓reduceIte, reduceCtorEq, oneCell, List.length_cons, List.length_nil, setAt, readN, bne_iff_ne, ne_eq, Nat.reduceAdd, Nat.reduceLeDiff, List.getElem?_cons_zero, List.getElem?_cons_succ, Nat.reduceMul, Option.isSome_some, layAt, Nat.reduceLT, Option.isNone_some, Option.isNone_none, beq_self_eq_true, Nat.reduceEqDiff, setParams, Int.reduceLT, Int.reduceLE, Int.reduceGT, Int.reduceGE, Int.reduceEq, Int.reduceNe, Option.map_some, Option.map_none, Option.isSome_none]
  unfold Sort.choosePivot
  simp only []
  rw [if_pos (show hi - lo ≥ 8 by omega)]
  generalize lo + (hi - lo) / 4 * 1 = i at hpi ⊢
  generalize lo + (hi - lo) / 4 * 2 = j at hpj ⊢
  generalize lo + (hi - lo) / 4 * 3 = k at hpk ⊢
  have fin : ∀ (h : Heap) (x s : Nat) (tm : List Value), s ≤ 12 → tm.length = 63 → tm.getD 11 undefV = .pointer (some ⟨sb, 0, none⟩) → tm.getD 13 undefV = .int .i64 (x : Int) → Has ro h (Ar b d rest zz t :: Sw sb s :: R) →
      (X (callV env (n + 7)) (n + 7) none (.seq (.region [⟨(some 55), .load none (.tmp 11), none, [], true⟩])
  (.block 0 (.seq (.region [
    ⟨(some 58), .bin .eql (.tmp 55) (.const (.int .i64 0)), none, [], true⟩,
    ⟨(some 57), .move (.tmp 58), none, [], true⟩])
  (.cond (.tmp 57)
   (.seq (.region [
     ⟨(some 59), .move (.tmp 13), none, [], true⟩,
     ⟨(some 8), .move (.tmp 59), none, [], true⟩,
     ⟨(some 9), .move (.const (.int .i64 1)), none, [], true⟩])
   .ret)
   (.seq (.region [
     ⟨(some 61), .bin .eql (.tmp 55) (.const (.int .i64 12)), none, [], true⟩,
     ⟨(some 60), .move (.tmp 61), none, [], true⟩])
   (.cond (.tmp 60)
    (.seq (.region [
      ⟨(some 62), .move (.tmp 13), none, [], true⟩,
      ⟨(some 8), .move (.tmp 62), none, [], true⟩,
      ⟨(some 9), .move (.const (.int .i64 2)), none, [], true⟩])
    .ret)
    (.seq (.region [
      ⟨(some 56), .move (.tmp 13), none, [], true⟩,
      ⟨(some 8), .move (.tmp 56), none, [], true⟩,
      ⟨(some 9), .move (.const (.int .i64 0)), none, [], true⟩])
    .ret))))))) tm [] h []).Is (Ideal.Fin [.tmp 8, .tmp 9] fun p => p.1 = .tuple #[.int .i64 (x : Int), .int .i64 (hintZ (if s = 0 then .increasing else if s = 12 then .decreasing else .unknown))] ∧ Has ro p.2 (Ar b d rest zz t :: R)) := by
    intro h x s tm hs hlen_ g11 g13 O
    obtain ⟨w, hg_, rfl⟩ := explode hlen_
    simp only [hg_] at g11 g13
    have g1 := O.get 1 rfl
    have O2 := O.rid 1 rfl
    by_cases e0 : s = 0
    · have e0' : ((s : Nat) : Int) = 0 := by omega
      have d0 : decide (((s : Nat) : Int) = 0) = true := decide_eq_true e0'
      simp (disch := first | assumption | omega | (simp only [wkD, oneCell, Option.isSome_some, *]; done) | (simp only [wkE, ne_eq]; omega)) only [g11, g13, g1, d0, wk0, wk1, wk2, wk3, wk4, wk5, X_region, X_seq, X_block, X_loop, X_cond, Y_box, Y_un, Y_store, Y_append, Y_makeMap, Y_buildSlice, ibin_shl, ibin_shr, ibin_and, List.set_cons_zero, List.set_cons_succ, List.getD_cons_zero, List.getD_cons_succ, List.map_cons, List.map_nil, ↓reduceIte, reduceCtorEq, oneCell, List.length_cons, List.length_nil, setAt, readN, bne_iff_ne, ne_eq, Nat.reduceAdd, Nat.reduceLeDiff, List.getElem?_cons_zero, List.getElem?_cons_succ, Nat.reduceMul, Option.isSome_some, layAt, Nat.reduceLT, Option.isNone_some, Option.isNone_none, beq_self_eq_true, Nat.reduceEqDiff, setParams, Int.reduceLT, Int.reduceLE, Int.reduceGT, Int.reduceGE, Int.reduceEq, Int.reduceNe, Option.map_some, Option.map_none, Option.isSome_none]
      rw [if_pos e0]
      exact leaf2 ⟨rfl, O2⟩
    · have d0 : decide (((s : Nat) : Int) = 0) = false := decide_eq_false (by omega)
      by_cases e1 : s = 12
      · have d1 : decide (((s : Nat) : Int) = 12) = true := decide_eq_true (by omega)
        simp (disch := first | assumption | omega | (simp only [wkD, oneCell, Option.isSome_some, *]; done) | (simp only [wkE, ne_eq]; omega)) only [g11, g13, g1, d0, d1, wk0, wk1, wk2, wk3, wk4, wk5, X_region, X_seq, X_block, X_loop, X_cond, Y_box, Y_un, Y_store, Y_append, Y_makeMap, Y_buildSlice, ibin_shl, ibin_shr, ibin_and, List.set_cons_zero, List.set_cons_succ, List.getD_cons_zero, List.getD_cons_succ, List.map_cons, List.map_nil, ↓reduceIte, reduceCtorEq, oneCell, List.length_cons, List.length_nil, setAt, readN, bne_iff_ne, ne_eq, Nat.reduceAdd, Nat.reduceLeDiff, List.getElem?_cons_zero, List.getElem?_cons_succ, Nat.reduceMul, Option.isSome_some, layAt, Nat.reduceLT, Option.isNone_some, Option.isNone_none, beq_self_eq_true, Nat.reduceEqDiff, setParams, Int.reduceLT, Int.reduceLE, Int.reduceGT, Int.reduceGE, Int.reduceEq, Int.reduceNe, Option.map_some, Option.map_none, Option.isSome_none]
        rw [if_neg e0, if_pos e1]
        exact leaf2 ⟨rfl, O2⟩
      · have d1 : decide (((s : Nat) : Int) = 12) = false := decide_eq_false (by omega)
        simp (disch := first | assumption | omega | (simp only [wkD, oneCell, Option.isSome_some, *]; done) | (simp only [wkE, ne_eq]; omega)) only [g11, g13, g1, d0, d1, wk0, wk1, wk2, wk3, wk4, wk5, X_region, X_seq, X_block, X_loop, X_cond, Y_box, Y_un, Y_store, Y_append, Y_makeMap, Y_buildSlice, ibin_shl, ibin_shr, ibin_and, List.set_cons_zero, List.set_cons_succ, List.getD_cons_zero, List.getD_cons_succ, List.map_cons, List.map_nil, ↓reduceIte, reduceCtorEq, oneCell, List.length_cons, List.length_nil, setAt, readN, bne_iff_ne, ne_eq, Nat.reduceAdd, Nat.reduceLeDiff, List.getElem?_cons_zero, List.getElem?_cons_succ, Nat.reduceMul, Option.isSome_some, layAt, Nat.reduceLT, Option.isNone_some, Option.isNone_none, beq_self_eq_true, Nat.reduceEqDiff, setParams, Int.reduceLT, Int.reduceLE, Int.reduceGT, Int.reduceGE, Int.reduceEq, Int.reduceNe, Option.map_some, Option.map_none, Option.isSome_none]
        rw [if_neg e0, if_neg e1]
        exact leaf2 ⟨rfl, O2⟩
  by_cases h50 : 50 ≤ hi - lo
  · have h50' : (50 : Int) ≤ ((hi - lo : Nat) : Int) := by omega
    rw [if_pos (show hi - lo ≥ 50 by omega)]
    simp (disch := first | assumption | omega | (simp only [wkD, oneCell, Option.isSome_some, *]; done) | (simp only [wkE, ne_eq]; omega)) only [h50', wk0, wk1, wk2, wk3, wk4, wk5, X_region, X_seq, X_block, X_loop, X_cond, Y_box, Y_un, Y_store, Y_append, Y_makeMap, Y_buildSlice, ibin_shl, ibin_shr, ibin_and, List.set_cons_zero, List.set_cons_succ, List.getD_cons_zero, List.getD_cons_succ, List.map_cons, List.map_nil, ↓reduceIte, reduceCtorEq, oneCell, List.length_cons, List.length_nil, setAt, readN, bne_iff_ne, ne_eq, Nat.reduceAdd, Nat.reduceLeDiff, List.getElem?_cons_zero, List.getElem?_cons_succ, Nat.reduceMul, Option.isSome_some, layAt, Nat.reduceLT, Option.isNone_some, Option.isNone_none, beq_self_eq_true, Nat.reduceEqDiff, setParams, Int.reduceLT, Int.reduceLE, Int.reduceGT, Int.reduceGE, Int.reduceEq, Int.reduceNe, Option.map_some, Option.map_none, Option.isSome_none]
    refine Z_is (medAdj_ok (n := n) (i := i) (s := 0) hm2 hn hm (by omega) O (by omega) (by omega)) ?_
    rintro v1 h2 ⟨rfl, O1, s1, p1⟩
    simp only at O1
    generalize Sort.medianAdjacent ltI d i 0 = ri at O1 s1 p1 ⊢
    simp (disch := first | assumption | omega | (simp only [wkD, oneCell, Option.isSome_some, *]; done) | (simp only [wkE, ne_eq]; omega)) only [wk0, wk1, wk2, wk3, wk4, wk5, X_region, X_seq, X_block, X_loop, X_cond, Y_box, Y_un, Y_store, Y_append, Y_makeMap, Y_buildSlice, ibin_shl, ibin_shr, ibin_and, List.set_cons_zero, List.set_cons_succ, List.getD_cons_zero, List.getD_cons_succ, List.map_cons, List.map_nil, ↓reduceIte, reduceCtorEq, oneCell, List.length_cons, List.length_nil, setAt, readN, bne_iff_ne, ne_eq, Nat.reduceAdd, Nat.reduceLeDiff, List.getElem?_cons_zero, List.getElem?_cons_succ, Nat.reduceMul, Option.isSome_some, layAt, Nat.reduceLT, Option.isNone_some, Option.isNone_none, beq_self_eq_true, Nat.reduceEqDiff, setParams, Int.reduceLT, Int.reduceLE, Int.reduceGT, Int.reduceGE, Int.reduceEq, Int.reduceNe, Option.map_some, Option.map_none, Option.isSome_none]
    refine Z_is (medAdj_ok (n := n) (i := j) (s := ri.2) hm2 hn hm (by omega) O1 (by omega) (by omega)) ?_
    rintro v2 h3 ⟨rfl, O2, s2, p2⟩
    simp only at O2
    generalize Sort.medianAdjacent ltI d j ri.2 = rj at O2 s2 p2 ⊢
    simp (disch := first | assumption | omega | (simp only [wkD, oneCell, Option.isSome_some, *]; done) | (simp only [wkE, ne_eq]; omega)) only [wk0, wk1, wk2, wk3, wk4, wk5, X_region, X_seq, X_block, X_loop, X_cond, Y_box, Y_un, Y_store, Y_append, Y_makeMap, Y_buildSlice, ibin_shl, ibin_shr, ibin_and, List.set_cons_zero, List.set_cons_succ, List.getD_cons_zero, List.getD_cons_succ, List.map_cons, List.map_nil, ↓reduceIte, reduceCtorEq, oneCell, List.length_cons, List.length_nil, setAt, readN, bne_iff_ne, ne_eq, Nat.reduceAdd, Nat.reduceLeDiff, List.getElem?_cons_zero, List.getElem?_cons_succ, Nat.reduceMul, Option.isSome_some, layAt, Nat.reduceLT, Option.isNone_some, Option.isNone_none, beq_self_eq_true, Nat.reduceEqDiff, setParams, Int.reduceLT, Int.reduceLE, Int.reduceGT, Int.reduceGE, Int.reduceEq, Int.reduceNe, Option.map_some, Option.map_none, Option.isSome_none]
    refine Z_is (medAdj_ok (n := n) (i := k) (s := rj.2) hm2 hn hm (by omega) O2 (by omega) (by omega)) ?_
    rintro v3 h4 ⟨rfl, O3, s3, p3⟩
    simp only at O3
    generalize Sort.medianAdjacent ltI d k rj.2 = rk at O3 s3 p3 ⊢
    simp (disch := first | assumption | omega | (simp only [wkD, oneCell, Option.isSome_some, *]; done) | (simp only [wkE, ne_eq]; omega)) only [wk0, wk1, wk2, wk3, wk4, wk5, X_region, X_seq, X_block, X_loop, X_cond, Y_box, Y_un, Y_store, Y_append, Y_makeMap, Y_buildSlice, ibin_shl, ibin_shr, ibin_and, List.set_cons_zero, List.set_cons_succ, List.getD_cons_zero, List.getD_cons_succ, List.map_cons, List.map_nil, ↓reduceIte, reduceCtorEq, oneCell, List.length_cons, List.length_nil, setAt, readN, bne_iff_ne, ne_eq, Nat.reduceAdd, Nat.reduceLeDiff, List.getElem?_cons_zero, List.getElem?_cons_succ, Nat.reduceMul, Option.isSome_some, layAt, Nat.reduceLT, Option.isNone_some, Option.isNone_none, beq_self_eq_true, Nat.reduceEqDiff, setParams, Int.reduceLT, Int.reduceLE, Int.reduceGT, Int.reduceGE, Int.reduceEq, Int.reduceNe, Option.map_some, Option.map_none, Option.isSome_none]
    refine Z_is (median_ok (n := n + 1) (i := ri.1) (j := rj.1) (k := rk.1) (s := rk.2) hm2 (by omega) hm (by omega) O3 (by omega) (by omega) (by omega)) ?_
    rintro v4 h5 ⟨rfl, O4, s4, p4⟩
    simp only at O4
    generalize Sort.median ltI d ri.1 rj.1 rk.1 rk.2 = rr at O4 s4 p4 ⊢
    simp (disch := first | assumption | omega | (simp only [wkD, oneCell, Option.isSome_some, *]; done) | (simp only [wkE, ne_eq]; omega)) only [wk0, wk1, wk2, wk3, wk4, wk5, X_region, X_block, X_loop, X_cond, Y_box, Y_un, Y_store, Y_append, Y_makeMap, Y_buildSlice, ibin_shl, ibin_shr, ibin_and, List.set_cons_zero, List.set_cons_succ, List.getD_cons_zero, List.getD_cons_succ, List.map_cons, List.map_nil, ↓reduceIte, reduceCtorEq, oneCell, List.length_cons, List.length_nil, setAt, readN, bne_iff_ne, ne_eq, Nat.reduceAdd, Nat.reduceLeDiff, List.getElem?_cons_zero, List.getElem?_cons_succ, Nat.reduceMul, Option.isSome_some, layAt, Nat.reduceLT, Option.isNone_some, Option.isNone_none, beq_self_eq_true, Nat.reduceEqDiff, setParams, Int.reduceLT, Int.reduceLE, Int.reduceGT, Int.reduceGE, Int.reduceEq, Int.reduceNe, Option.map_some, Option.map_none, Option.isSome_none]
    exact fin _ _ _ _ (by omega) rfl rfl rfl O4
  · have h50' : ¬ (50 : Int) ≤ ((hi - lo : Nat) : Int) := by omega
    rw [if_neg (show ¬ hi - lo ≥ 50 by omega)]
    simp (disch := first | assumption | omega | (simp only [wkD, oneCell, Option.isSome_some, *]; done) | (simp only [wkE, ne_eq]; omega)) only [h50', wk0, wk1, wk2, wk3, wk4, wk5, X_region, X_seq, X_block, X_loop, X_cond, Y_box, Y_un, Y_store, Y_append, Y_makeMap, Y_buildSlice, ibin_shl, ibin_shr, ibin_and, List.set_cons_zero, List.set_cons_succ, List.getD_cons_zero, List.getD_cons_succ, List.map_cons, List.map_nil, ↓reduceIte, reduceCtorEq, oneCell, List.length_cons, List.length_nil, setAt, readN, bne_iff_ne, ne_eq, Nat.reduceAdd, Nat.reduceLeDiff, List.getElem?_cons_zero, List.getElem?_cons_succ, Nat.reduceMul, Option.isSome_some, layAt, Nat.reduceLT, Option.isNone_some, Option.isNone_none, beq_self_eq_true, Nat.reduceEqDiff, setParams, Int.reduceLT, Int.reduceLE, Int.reduceGT, Int.reduceGE, Int.reduceEq, Int.reduceNe, Option.map_some, Option.map_none, Option.isSome_none]
    refine Z_is (median_ok (n := n + 1) (i := i) (j := j) (k := k) (s := 0) hm2 (by omega) hm (by omega) O (by omega) (by omega) (by omega)) ?_
    rintro v4 h5 ⟨rfl, O4, s4, p4⟩
    simp only at O4
    generalize Sort.median ltI d i j k 0 = rr at O4 s4 p4 ⊢
    simp (disch := first | assumption | omega | (simp only [wkD, oneCell, Option.isSome_some, *]; done) | (simp only [wkE, ne_eq]; omega)) only [wk0, wk1, wk2, wk3, wk4, wk5, X_region, X_block, X_loop, X_cond, Y_box, Y_un, Y_store, Y_append, Y_makeMap, Y_buildSlice, ibin_shl, ibin_shr, ibin_and, List.set_cons_zero, List.set_cons_succ, List.getD_cons_zero, List.getD_cons_succ, List.map_cons, List.map_nil, ↓reduceIte, reduceCtorEq, oneCell, List.length_cons, List.length_nil, setAt, readN, bne_iff_ne, ne_eq, Nat.reduceAdd, Nat.reduceLeDiff, List.getElem?_cons_zero, List.getElem?_cons_succ, Nat.reduceMul, Option.isSome_some, layAt, Nat.reduceLT, Option.isNone_some, Option.isNone_none, beq_self_eq_true, Nat.reduceEqDiff, setParams, Int.reduceLT, Int.reduceLE, Int.reduceGT, Int.reduceGE, Int.reduceEq, Int.reduceNe, Option.map_some, Option.map_none, Option.isSome_none]
    exact fin _ _ _ _ (by omega) rfl rfl rfl O4
end
end Go.Proofs.Ytafaefeekilclaa
