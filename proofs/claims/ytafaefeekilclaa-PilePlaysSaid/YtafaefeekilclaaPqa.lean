/-
  Sorting: what the functions of the package slices leave, as its plain form says.
-/
import Derived.Test.YtafaefeekilclaaFk
import Derived.Test.YtafaefeekilclaaHeap
import Derived.Sort.AssemblyPlain
import Derived.Sort.LotD5

namespace Go.Proofs.Ytafaefeekilclaa
open Go Go.Ideal
set_option maxHeartbeats 0
set_option linter.unusedSimpArgs false
set_option linter.unusedVariables false
set_option maxRecDepth 100000
attribute [local irreducible] callV T.All T.Is run
theorem env34 : env 34 = some ir34 := rfl
theorem env44 : env 44 = some ir44 := rfl
theorem env35 : env 35 = some ir35 := rfl
theorem env38 : env 38 = some ir38 := rfl
theorem env27 : env 27 = some ir27 := rfl
theorem agg_ic (x : It) : Value.agg (ic x).toArray = iv x := rfl
theorem rd_full (x : It) : readN (ic x) 0 3 = some (ic x) := rfl
theorem cmp_ok {n : Nat} {h : Heap} (hn : 4 < n) (hf : h.Fine) (x y : It) : (callV env (n + 4) (.func (.func 27) #[] #[]) [iv x, iv y] h).Is fun p => p.1 = .int .i64 (cmpI x y) ∧ Ext h p.2 := by
  refine call_is env27 ?_
  simp (disch := first | assumption | omega | (simp only [wkD, oneCell, Option.isSome_some, *]; done) | (simp only [wkE, ne_eq]; omega)) only [ir27, List.append_nil, List.nil_append, List.cons_append, List.length_cons, List.length_nil, Nat.reduceAdd, Nat.reduceSub, List.replicate_succ, List.replicate_zero, wk0, wk1, wk2, wk3, wk4, wk5, X_region, X_seq, X_block, X_loop, X_cond, Y_un, Y_store, Y_append, Y_makeMap, Y_buildSlice, ibin_shl, ibin_shr, ibin_and, List.set_cons_zero, List.set_cons_succ, List.getD_cons_zero, List.getD_cons_succ, List.map_cons, List.map_nil, ↓reduceIte, reduceCtorEq, oneCell, List.length_cons, List.length_nil, setAt, readN, bne_iff_ne, ne_eq, Nat.reduceAdd, Nat.reduceLeDiff, List.getElem?_cons_zero, List.getElem?_cons_succ, Nat.reduceMul, Option.isSome_some, layAt, Nat.reduceLT, Option.isNone_some, Option.isNone_none, beq_self_eq_true, Nat.reduceEqDiff, setParams, Int.reduceLT, Int.reduceLE, Int.reduceGT, Int.reduceGE, Int.reduceEq, Int.reduceNe, Option.map_some, Option.map_none, Option.isSome_none]
  refine Y_boxO (Has.zero (ro := h.ro) hf rfl) ?_
  intro b1 h1 O e1
  simp (disch := first | assumption | omega | (simp only [wkD, oneCell, Option.isSome_some, *]; done) | (simp only [wkE, ne_eq]; omega)) only [wk0, wk1, wk2, wk3, wk4, wk5, X_region, X_seq, X_block, X_loop, X_cond, Y_un, Y_store, Y_append, Y_makeMap, Y_buildSlice, ibin_shl, ibin_shr, ibin_and, List.set_cons_zero, List.set_cons_succ, List.getD_cons_zero, List.getD_cons_succ, List.map_cons, List.map_nil, ↓reduceIte, reduceCtorEq, oneCell, List.length_cons, List.length_nil, setAt, readN, bne_iff_ne, ne_eq, Nat.reduceAdd, Nat.reduceLeDiff, List.getElem?_cons_zero, List.getElem?_cons_succ, Nat.reduceMul, Option.isSome_some, layAt, Nat.reduceLT, Option.isNone_some, Option.isNone_none, beq_self_eq_true, Nat.reduceEqDiff, setParams, Int.reduceLT, Int.reduceLE, Int.reduceGT, Int.reduceGE, Int.reduceEq, Int.reduceNe, Option.map_some, Option.map_none, Option.isSome_none]
  refine Y_boxO O ?_
  intro b2 h2 O e2
  have g1 := O.get 1 rfl
  have g2 := O.get 0 rfl
  simp (disch := first | assumption | omega | (simp only [wkD, oneCell, Option.isSome_some, *]; done) | (simp only [wkE, ne_eq]; omega)) only [g1, g2, iv_cells, ic_len, rd_full, agg_ic, wk0, wk1, wk2, wk3, wk4, wk5, X_region, X_seq, X_block, X_loop, X_cond, Y_box, Y_un, Y_store, Y_append, Y_makeMap, Y_buildSlice, ibin_shl, ibin_shr, ibin_and, List.set_cons_zero, List.set_cons_succ, List.getD_cons_zero, List.getD_cons_succ, List.map_cons, List.map_nil, ↓reduceIte, reduceCtorEq, oneCell, List.length_cons, List.length_nil, setAt, readN, bne_iff_ne, ne_eq, Nat.reduceAdd, Nat.reduceLeDiff, List.getElem?_cons_zero, List.getElem?_cons_succ, Nat.reduceMul, Option.isSome_some, layAt, Nat.reduceLT, Option.isNone_some, Option.isNone_none, beq_self_eq_true, Nat.reduceEqDiff, setParams, Int.reduceLT, Int.reduceLE, Int.reduceGT, Int.reduceGE, Int.reduceEq, Int.reduceNe, Option.map_some, Option.map_none, Option.isSome_none]
  refine Z_is (compare_ok (n := n) hn O.fine x y) ?_
  rintro v h3 ⟨rfl, e3⟩
  simp (disch := first | assumption | omega | (simp only [wkD, oneCell, Option.isSome_some, *]; done) | (simp only [wkE, ne_eq]; omega)) only [wk0, wk1, wk2, wk3, wk4, wk5, X_region, X_seq, X_block, X_loop, X_cond, Y_box, Y_un, Y_store, Y_append, Y_makeMap, Y_buildSlice, ibin_shl, ibin_shr, ibin_and, List.set_cons_zero, List.set_cons_succ, List.getD_cons_zero, List.getD_cons_succ, List.map_cons, List.map_nil, ↓reduceIte, reduceCtorEq, oneCell, List.length_cons, List.length_nil, setAt, readN, bne_iff_ne, ne_eq, Nat.reduceAdd, Nat.reduceLeDiff, List.getElem?_cons_zero, List.getElem?_cons_succ, Nat.reduceMul, Option.isSome_some, layAt, Nat.reduceLT, Option.isNone_some, Option.isNone_none, beq_self_eq_true, Nat.reduceEqDiff, setParams, Int.reduceLT, Int.reduceLE, Int.reduceGT, Int.reduceGE, Int.reduceEq, Int.reduceNe, Option.map_some, Option.map_none, Option.isSome_none]
  exact leaf1 ⟨rfl, (e1.trans e2).trans e3⟩


instance : Inhabited It := ⟨it0⟩
def ltI (x y : It) : Bool := decide (cmpI x y < 0)
theorem ltI_t {x y : It} (h : cmpI x y < 0) : ltI x y = true := decide_eq_true h
theorem ltI_f {x y : It} (h : ¬ cmpI x y < 0) : ¬ ltI x y = true := fun e => h (of_decide_eq_true e)
theorem ltI_n {x y : It} (h : ¬ cmpI x y < 0) : ltI x y = false := decide_eq_false h
def Ar (b : Nat) (d : Array It) (rest : List Value) (zz : Nat) (t : Bool) : Rs := Ob b (.cells (d.toList.flatMap ic ++ rest) zz t)

section
variable {ro : Nat → Option (List Value × Nat)} {h : Heap} {R : List Rs} {b zz : Nat} {rest : List Value} {t : Bool} {d : Array It}
theorem rdA (O : Has ro h (Ar b d rest zz t :: R)) {k : Nat} (hk : k < d.size) : readC (h.get b) (k * 3) 3 = some (ic d[k]!) :=
  rd_all ic_len (l := d.toList) (i := k) (x := d[k]!) (by rw [List.getElem?_eq_getElem (by simpa using hk)]; simp [getElem!_pos, hk]) (O.get 0 rfl)
theorem wrA (O : Has ro h (Ar b d rest zz t :: R)) {k : Nat} (hk : k < d.size) (x : It) : ∃ h1, writeC (h.get b) h b (k * 3) (ic x) = some h1 ∧ Has ro h1 (Ar b (d.setIfInBounds k x) rest zz t :: R) := by
  refine ⟨_, wr_at ic_len ic_one (l := d.toList) (i := k) (by simpa using hk) (O.get 0 rfl) (O.can 0 rfl), ?_⟩
  have := O.set 0 rfl (.cells ((d.toList.set k x).flatMap ic ++ rest) zz t)
  unfold Ar
  rw [Array.toList_setIfInBounds]
  exact this
theorem swA (O : Has ro h (Ar b d rest zz t :: R)) {i j : Nat} (hi : i < d.size) (hj : j < d.size) : ∃ h1 h2, writeC (h.get b) h b (i * 3) (ic d[j]!) = some h1 ∧ writeC (h1.get b) h1 b (j * 3) (ic d[i]!) = some h2 ∧ Has ro h2 (Ar b (Sort.swp d i j) rest zz t :: R) := by
  obtain ⟨h1, w1, O1⟩ := wrA O hi d[j]!
  obtain ⟨h2, w2, O2⟩ := wrA O1 (k := j) (by simpa using hj) d[i]!
  exact ⟨h1, h2, w1, w2, O2⟩
end

theorem ins_step {lt : It → It → Bool} {a j : Nat} {d : Array It} (hj : a < j) (hc : lt d[j]! d[j - 1]! = true) : Sort.insInner lt a j d = Sort.insInner lt a (j - 1) (Sort.swp d j (j - 1)) := by
  rcases j with _ | j
  · omega
  · simp only [Nat.add_sub_cancel] at hc ⊢
    rw [Sort.insInner, hc]
    simp [hj]
theorem ins_stop {lt : It → It → Bool} {a j : Nat} {d : Array It} (hc : ¬ (a < j ∧ lt d[j]! d[j - 1]! = true)) : Sort.insInner lt a j d = d := by
  rcases j with _ | j
  · rfl
  · simp only [Nat.add_sub_cancel] at hc
    rw [Sort.insInner, if_neg (by simpa using hc)]

theorem insertion_ok {n b lo hi cap zz m : Nat} {sp : Option Nat} {h : Heap} {d : Array It} {rest : List Value} {t : Bool} {ro : Nat → Option (List Value × Nat)} {R : List Rs} (hn : m + 20 < n) (hm2 : m < 1000000) (hm : d.size = m) (O : Has ro h (Ar b d rest zz t :: R)) (hlo : lo ≤ hi) (hhi : hi ≤ m) :
    (callV env (n + 5) (.func (.func 34) #[] #[]) [.slice (some ⟨b, 0, sp⟩) m cap, .int .i64 (lo : Int), .int .i64 (hi : Int), .func (.func 27) #[] #[]] h).Is fun p => Has ro p.2 (Ar b (Sort.insertionSort ltI d lo hi) rest zz t :: R) ∧ (Sort.insertionSort ltI d lo hi).size = m := by
  refine call_is env34 ?_
  have x0 : IntKind.i64.wrap ((lo : Int) + 1) = ((lo + 1 : Nat) : Int) := by rw [wrap_i64 (by omega) (by omega)]; omega
  simp (disch := first | assumption | omega | (simp only [wkD, oneCell, Option.isSome_some, *]; done) | (simp only [wkE, ne_eq]; omega)) only [ir34, List.append_nil, List.nil_append, List.cons_append, List.length_cons, List.length_nil, Nat.reduceAdd, Nat.reduceSub, List.replicate_succ, List.replicate_zero, x0, wk0, wk1, wk2, wk3, wk4, wk5, X_region, X_seq, X_block, X_loop, X_cond, Y_box, Y_un, Y_store, Y_append, Y_makeMap, Y_buildSlice, ibin_shl, ibin_shr, ibin_and, List.set_cons_zero, List.set_cons_succ, List.getD_cons_zero, List.getD_cons_succ, List.map_cons, List.map_nil, ↓reduceIte, reduceCtorEq, oneCell, List.length_cons, List.length_nil, setAt, readN, bne_iff_ne, ne_eq, Nat.reduceAdd, Nat.reduceLeDiff, List.getElem?_cons_zero, List.getElem?_cons_succ, Nat.reduceMul, Option.isSome_some, layAt, Nat.reduceLT, Option.isNone_some, Option.isNone_none, beq_self_eq_true, Nat.reduceEqDiff, setParams, Int.reduceLT, Int.reduceLE, Int.reduceGT, Int.reduceGE, Int.reduceEq, Int.reduceNe, Option.map_some, Option.map_none, Option.isSome_none]
  refine L_is (fun q s => ∃ (i : Nat) (d1 : Array It), s.defers = [] ∧ s.tmps.length = 53 ∧ s.tmps.getD 0 undefV = .slice (some ⟨b, 0, sp⟩) m cap ∧ s.tmps.getD 1 undefV = .int .i64 (lo : Int) ∧ s.tmps.getD 2 undefV = .int .i64 (hi : Int) ∧ s.tmps.getD 3 undefV = .func (.func 27) #[] #[] ∧ s.tmps.getD 8 undefV = .int .i64 (i : Int) ∧ q = hi + 1 - i ∧ lo + 1 ≤ i ∧ i ≤ hi + 1 ∧ d1.size = m ∧ Has ro s.h (Ar b d1 rest zz t :: R) ∧ Sort.insOuter ltI lo hi i d1 = Sort.insertionSort ltI d lo hi) (hi + 1 - (lo + 1)) ?_ (by omega) ?_
  · exact ⟨lo + 1, d, rfl, rfl, rfl, rfl, rfl, rfl, rfl, by omega, Nat.le_refl _, by omega, hm, O, rfl⟩
  clear O
  rintro q tm df h1 ⟨i, d1, hd, hlen_, g0, g1, g2, g3, g8, hq, hi0, hi1, hs, O, hE⟩
  simp only at hd g0 g1 g2 g3 g8 O
  subst hd
  obtain ⟨w, hg_, rfl⟩ := explode hlen_
  simp only [hg_] at g0 g1 g2 g3 g8
  clear hlen_ hg_
  by_cases hlt : i < hi
  · have hlt' : (i : Int) < (hi : Int) := by omega
    simp (disch := first | assumption | omega | (simp only [wkD, oneCell, Option.isSome_some, *]; done) | (simp only [wkE, ne_eq]; omega)) only [g0, g1, g2, g3, g8, hlt', wk0, wk1, wk2, wk3, wk4, wk5, X_region, X_seq, X_block, X_loop, X_cond, Y_box, Y_un, Y_store, Y_append, Y_makeMap, Y_buildSlice, ibin_shl, ibin_shr, ibin_and, List.set_cons_zero, List.set_cons_succ, List.getD_cons_zero, List.getD_cons_succ, List.map_cons, List.map_nil, ↓reduceIte, reduceCtorEq, oneCell, List.length_cons, List.length_nil, setAt, readN, bne_iff_ne, ne_eq, Nat.reduceAdd, Nat.reduceLeDiff, List.getElem?_cons_zero, List.getElem?_cons_succ, Nat.reduceMul, Option.isSome_some, layAt, Nat.reduceLT, Option.isNone_some, Option.isNone_none, beq_self_eq_true, Nat.reduceEqDiff, setParams, Int.reduceLT, Int.reduceLE, Int.reduceGT, Int.reduceGE, Int.reduceEq, Int.reduceNe, Option.map_some, Option.map_none, Option.isSome_none]
    refine L_is (fun q s => ∃ (j : Nat) (d2 : Array It), s.defers = [] ∧ s.tmps.length = 53 ∧ s.tmps.getD 0 undefV = .slice (some ⟨b, 0, sp⟩) m cap ∧ s.tmps.getD 1 undefV = .int .i64 (lo : Int) ∧ s.tmps.getD 2 undefV = .int .i64 (hi : Int) ∧ s.tmps.getD 3 undefV = .func (.func 27) #[] #[] ∧ s.tmps.getD 8 undefV = .int .i64 (i : Int) ∧ s.tmps.getD 9 undefV = .int .i64 (j : Int) ∧ q = j ∧ lo ≤ j ∧ j ≤ i ∧ d2.size = m ∧ Has ro s.h (Ar b d2 rest zz t :: R) ∧ Sort.insOuter ltI lo hi (i + 1) (Sort.insInner ltI lo j d2) = Sort.insertionSort ltI d lo hi) i ?_ (by omega) ?_
    · exact ⟨i, d1, rfl, rfl, rfl, rfl, rfl, rfl, rfl, rfl, rfl, by omega, Nat.le_refl _, hs, O, by rw [← hE]; conv => rhs; rw [Sort.insOuter, if_pos hlt]⟩
    clear O hE g0 g1 g2 g3 g8 hs
    rintro q tm df h2 ⟨j, d2, hd, hlen_, g0, g1, g2, g3, g8, g9, hq, hj0, hj1, hs, O, hE⟩
    simp only at hd g0 g1 g2 g3 g8 g9 O
    subst hd
    obtain ⟨w, hg_, rfl⟩ := explode hlen_
    simp only [hg_] at g0 g1 g2 g3 g8 g9
    clear hlen_ hg_

    have z1 : IntKind.i64.wrap ((i : Int) + 1) = ((i + 1 : Nat) : Int) := by rw [wrap_i64 (by omega) (by omega)]; omega
    by_cases hjl : lo < j
    · have hjl' : (lo : Int) < (j : Int) := by omega
      have y1 : IntKind.i64.wrap ((j : Int) - 1) = ((j - 1 : Nat) : Int) := by rw [wrap_i64 (by omega) (by omega)]; omega
      have r1 := rdA O (k := j) (by omega)
      have r2 := rdA O (k := j - 1) (by omega)
      have c1 : (0 : Int) ≤ (j : Int) := by omega
      have c2 : (j : Int) < (m : Int) := by omega
      have c3 : (0 : Int) ≤ ((j - 1 : Nat) : Int) := by omega
      have c4 : ((j - 1 : Nat) : Int) < (m : Int) := by omega
      simp (disch := first | assumption | omega | (simp only [wkD, oneCell, Option.isSome_some, *]; done) | (simp only [wkE, ne_eq]; omega)) only [g0, g1, g2, g3, g8, g9, wk0, wk1, wk2, wk3, wk4, wk5, X_region, X_seq, X_block, X_loop, X_cond, Y_box, Y_un, Y_store, Y_append, Y_makeMap, Y_buildSlice, ibin_shl, ibin_shr, ibin_and, List.set_cons_zero, List.set_cons_succ, List.getD_cons_zero, List.getD_cons_succ, List.map_cons, List.map_nil, ↓reduceIte, reduceCtorEq, oneCell, List.length_cons, List.length_nil, setAt, readN, bne_iff_ne, ne_eq, Nat.reduceAdd, Nat.reduceLeDiff, List.getElem?_cons_zero, List.getElem?_cons_succ, Nat.reduceMul, Option.isSome_some, layAt, Nat.reduceLT, Option.isNone_some, Option.isNone_none, beq_self_eq_true, Nat.reduceEqDiff, setParams, Int.reduceLT, Int.reduceLE, Int.reduceGT, Int.reduceGE, Int.reduceEq, Int.reduceNe, Option.map_some, Option.map_none, Option.isSome_none]
      refine X_drawn _ fun an => ?_
      simp (disch := first | assumption | omega | (simp only [wkD, oneCell, Option.isSome_some, *]; done) | (simp only [wkE, ne_eq]; omega)) only [g0, g1, g2, g3, g8, g9, hjl', y1, r1, r2, c1, c2, c3, c4, Int.toNat_natCast, agg_ic, wk0, wk1, wk2, wk3, wk4, wk5, X_region, X_seq, X_block, X_loop, X_cond, Y_box, Y_un, Y_store, Y_append, Y_makeMap, Y_buildSlice, ibin_shl, ibin_shr, ibin_and, List.set_cons_zero, List.set_cons_succ, List.getD_cons_zero, List.getD_cons_succ, List.map_cons, List.map_nil, ↓reduceIte, reduceCtorEq, oneCell, List.length_cons, List.length_nil, setAt, readN, bne_iff_ne, ne_eq, Nat.reduceAdd, Nat.reduceLeDiff, List.getElem?_cons_zero, List.getElem?_cons_succ, Nat.reduceMul, Option.isSome_some, layAt, Nat.reduceLT, Option.isNone_some, Option.isNone_none, beq_self_eq_true, Nat.reduceEqDiff, setParams, Int.reduceLT, Int.reduceLE, Int.reduceGT, Int.reduceGE, Int.reduceEq, Int.reduceNe, Option.map_some, Option.map_none, Option.isSome_none]
      refine DB_is (cmp_ok (n := n) (by omega) O.fine d2[j]! d2[j - 1]!) ?_
      rintro v3 h3 ⟨rfl, e3⟩
      simp only at e3
      replace O := O.ext e3
      by_cases hc : cmpI d2[j]! d2[j - 1]! < 0
      · have r1 := rdA O (k := j) (by omega)
        have r2 := rdA O (k := j - 1) (by omega)
        obtain ⟨k1, k2, w1, w2, O4⟩ := swA O (i := j) (j := j - 1) (by omega) (by omega)
        simp (disch := first | assumption | omega | (simp only [wkD, oneCell, Option.isSome_some, *]; done) | (simp only [wkE, ne_eq]; omega)) only [hc, wk0, wk1, wk2, wk3, wk4, wk5, X_region, X_seq, X_block, X_loop, X_cond, Y_box, Y_un, Y_store, Y_append, Y_makeMap, Y_buildSlice, ibin_shl, ibin_shr, ibin_and, List.set_cons_zero, List.set_cons_succ, List.getD_cons_zero, List.getD_cons_succ, List.map_cons, List.map_nil, ↓reduceIte, reduceCtorEq, oneCell, List.length_cons, List.length_nil, setAt, readN, bne_iff_ne, ne_eq, Nat.reduceAdd, Nat.reduceLeDiff, List.getElem?_cons_zero, List.getElem?_cons_succ, Nat.reduceMul, Option.isSome_some, layAt, Nat.reduceLT, Option.isNone_some, Option.isNone_none, beq_self_eq_true, Nat.reduceEqDiff, setParams, Int.reduceLT, Int.reduceLE, Int.reduceGT, Int.reduceGE, Int.reduceEq, Int.reduceNe, Option.map_some, Option.map_none, Option.isSome_none]
        refine X_drawn _ fun an => ?_
        simp (disch := first | assumption | omega | (simp only [wkD, oneCell, Option.isSome_some, *]; done) | (simp only [wkE, ne_eq]; omega)) only [r1, r2, w1, w2, y1, c1, c2, c3, c4, Int.toNat_natCast, agg_ic, iv_cells, ic_len, wk0, wk1, wk2, wk3, wk4, wk5, X_region, X_seq, X_block, X_loop, X_cond, Y_box, Y_un, Y_store, Y_append, Y_makeMap, Y_buildSlice, ibin_shl, ibin_shr, ibin_and, List.set_cons_zero, List.set_cons_succ, List.getD_cons_zero, List.getD_cons_succ, List.map_cons, List.map_nil, ↓reduceIte, reduceCtorEq, oneCell, List.length_cons, List.length_nil, setAt, readN, bne_iff_ne, ne_eq, Nat.reduceAdd, Nat.reduceLeDiff, List.getElem?_cons_zero, List.getElem?_cons_succ, Nat.reduceMul, Option.isSome_some, layAt, Nat.reduceLT, Option.isNone_some, Option.isNone_none, beq_self_eq_true, Nat.reduceEqDiff, setParams, Int.reduceLT, Int.reduceLE, Int.reduceGT, Int.reduceGE, Int.reduceEq, Int.reduceNe, Option.map_some, Option.map_none, Option.isSome_none]
        exact Is_in ⟨j - 1, by omega, j - 1, _, rfl, rfl, rfl, rfl, rfl, rfl, rfl, rfl, rfl, by omega, by omega, by rw [Sort.size_swp]; exact hs, O4, by rw [← ins_step hjl (decide_eq_true hc)]; exact hE⟩
      · simp (disch := first | assumption | omega | (simp only [wkD, oneCell, Option.isSome_some, *]; done) | (simp only [wkE, ne_eq]; omega)) only [hc, wk0, wk1, wk2, wk3, wk4, wk5, X_region, X_seq, X_block, X_loop, X_cond, Y_box, Y_un, Y_store, Y_append, Y_makeMap, Y_buildSlice, ibin_shl, ibin_shr, ibin_and, List.set_cons_zero, List.set_cons_succ, List.getD_cons_zero, List.getD_cons_succ, List.map_cons, List.map_nil, ↓reduceIte, reduceCtorEq, oneCell, List.length_cons, List.length_nil, setAt, readN, bne_iff_ne, ne_eq, Nat.reduceAdd, Nat.reduceLeDiff, List.getElem?_cons_zero, List.getElem?_cons_succ, Nat.reduceMul, Option.isSome_some, layAt, Nat.reduceLT, Option.isNone_some, Option.isNone_none, beq_self_eq_true, Nat.reduceEqDiff, setParams, Int.reduceLT, Int.reduceLE, Int.reduceGT, Int.reduceGE, Int.reduceEq, Int.reduceNe, Option.map_some, Option.map_none, Option.isSome_none]
        refine Is_in ?_
        simp (disch := first | assumption | omega | (simp only [wkD, oneCell, Option.isSome_some, *]; done) | (simp only [wkE, ne_eq]; omega)) only [z1, wk0, wk1, wk2, wk3, wk4, wk5, X_region, X_seq, X_block, X_loop, X_cond, Y_box, Y_un, Y_store, Y_append, Y_makeMap, Y_buildSlice, ibin_shl, ibin_shr, ibin_and, List.set_cons_zero, List.set_cons_succ, List.getD_cons_zero, List.getD_cons_succ, List.map_cons, List.map_nil, ↓reduceIte, reduceCtorEq, oneCell, List.length_cons, List.length_nil, setAt, readN, bne_iff_ne, ne_eq, Nat.reduceAdd, Nat.reduceLeDiff, List.getElem?_cons_zero, List.getElem?_cons_succ, Nat.reduceMul, Option.isSome_some, layAt, Nat.reduceLT, Option.isNone_some, Option.isNone_none, beq_self_eq_true, Nat.reduceEqDiff, setParams, Int.reduceLT, Int.reduceLE, Int.reduceGT, Int.reduceGE, Int.reduceEq, Int.reduceNe, Option.map_some, Option.map_none, Option.isSome_none]
        exact Is_in ⟨hi + 1 - (i + 1), by omega, i + 1, d2, rfl, rfl, rfl, rfl, rfl, rfl, rfl, rfl, by omega, by omega, hs, O, by rw [ins_stop (fun e => hc (of_decide_eq_true e.2))] at hE; exact hE⟩
    · have hjl' : ¬ (lo : Int) < (j : Int) := by omega
      simp (disch := first | assumption | omega | (simp only [wkD, oneCell, Option.isSome_some, *]; done) | (simp only [wkE, ne_eq]; omega)) only [g0, g1, g2, g3, g8, g9, wk0, wk1, wk2, wk3, wk4, wk5, X_region, X_seq, X_block, X_loop, X_cond, Y_box, Y_un, Y_store, Y_append, Y_makeMap, Y_buildSlice, ibin_shl, ibin_shr, ibin_and, List.set_cons_zero, List.set_cons_succ, List.getD_cons_zero, List.getD_cons_succ, List.map_cons, List.map_nil, ↓reduceIte, reduceCtorEq, oneCell, List.length_cons, List.length_nil, setAt, readN, bne_iff_ne, ne_eq, Nat.reduceAdd, Nat.reduceLeDiff, List.getElem?_cons_zero, List.getElem?_cons_succ, Nat.reduceMul, Option.isSome_some, layAt, Nat.reduceLT, Option.isNone_some, Option.isNone_none, beq_self_eq_true, Nat.reduceEqDiff, setParams, Int.reduceLT, Int.reduceLE, Int.reduceGT, Int.reduceGE, Int.reduceEq, Int.reduceNe, Option.map_some, Option.map_none, Option.isSome_none]
      refine X_drawn _ fun an => ?_
      simp (disch := first | assumption | omega | (simp only [wkD, oneCell, Option.isSome_some, *]; done) | (simp only [wkE, ne_eq]; omega)) only [g0, g1, g2, g3, g8, g9, hjl', wk0, wk1, wk2, wk3, wk4, wk5, X_region, X_seq, X_block, X_loop, X_cond, Y_box, Y_un, Y_store, Y_append, Y_makeMap, Y_buildSlice, ibin_shl, ibin_shr, ibin_and, List.set_cons_zero, List.set_cons_succ, List.getD_cons_zero, List.getD_cons_succ, List.map_cons, List.map_nil, ↓reduceIte, reduceCtorEq, oneCell, List.length_cons, List.length_nil, setAt, readN, bne_iff_ne, ne_eq, Nat.reduceAdd, Nat.reduceLeDiff, List.getElem?_cons_zero, List.getElem?_cons_succ, Nat.reduceMul, Option.isSome_some, layAt, Nat.reduceLT, Option.isNone_some, Option.isNone_none, beq_self_eq_true, Nat.reduceEqDiff, setParams, Int.reduceLT, Int.reduceLE, Int.reduceGT, Int.reduceGE, Int.reduceEq, Int.reduceNe, Option.map_some, Option.map_none, Option.isSome_none]
      refine Is_in ?_
      simp (disch := first | assumption | omega | (simp only [wkD, oneCell, Option.isSome_some, *]; done) | (simp only [wkE, ne_eq]; omega)) only [z1, wk0, wk1, wk2, wk3, wk4, wk5, X_region, X_seq, X_block, X_loop, X_cond, Y_box, Y_un, Y_store, Y_append, Y_makeMap, Y_buildSlice, ibin_shl, ibin_shr, ibin_and, List.set_cons_zero, List.set_cons_succ, List.getD_cons_zero, List.getD_cons_succ, List.map_cons, List.map_nil, ↓reduceIte, reduceCtorEq, oneCell, List.length_cons, List.length_nil, setAt, readN, bne_iff_ne, ne_eq, Nat.reduceAdd, Nat.reduceLeDiff, List.getElem?_cons_zero, List.getElem?_cons_succ, Nat.reduceMul, Option.isSome_some, layAt, Nat.reduceLT, Option.isNone_some, Option.isNone_none, beq_self_eq_true, Nat.reduceEqDiff, setParams, Int.reduceLT, Int.reduceLE, Int.reduceGT, Int.reduceGE, Int.reduceEq, Int.reduceNe, Option.map_some, Option.map_none, Option.isSome_none]
      exact Is_in ⟨hi + 1 - (i + 1), by omega, i + 1, d2, rfl, rfl, rfl, rfl, rfl, rfl, rfl, rfl, by omega, by omega, hs, O, by rw [ins_stop (fun e => hjl e.1)] at hE; exact hE⟩
  · have hlt' : ¬ (i : Int) < (hi : Int) := by omega
    simp (disch := first | assumption | omega | (simp only [wkD, oneCell, Option.isSome_some, *]; done) | (simp only [wkE, ne_eq]; omega)) only [g0, g1, g2, g3, g8, hlt', wk0, wk1, wk2, wk3, wk4, wk5, X_region, X_seq, X_block, X_loop, X_cond, Y_box, Y_un, Y_store, Y_append, Y_makeMap, Y_buildSlice, ibin_shl, ibin_shr, ibin_and, List.set_cons_zero, List.set_cons_succ, List.getD_cons_zero, List.getD_cons_succ, List.map_cons, List.map_nil, ↓reduceIte, reduceCtorEq, oneCell, List.length_cons, List.length_nil, setAt, readN, bne_iff_ne, ne_eq, Nat.reduceAdd, Nat.reduceLeDiff, List.getElem?_cons_zero, List.getElem?_cons_succ, Nat.reduceMul, Option.isSome_some, layAt, Nat.reduceLT, Option.isNone_some, Option.isNone_none, beq_self_eq_true, Nat.reduceEqDiff, setParams, Int.reduceLT, Int.reduceLE, Int.reduceGT, Int.reduceGE, Int.reduceEq, Int.reduceNe, Option.map_some, Option.map_none, Option.isSome_none]
    refine Is_in ?_
    simp (disch := first | assumption | omega | (simp only [wkD, oneCell, Option.isSome_some, *]; done) | (simp only [wkE, ne_eq]; omega)) only [wk0, wk1, wk2, wk3, wk4, wk5, X_region, X_seq, X_block, X_loop, X_cond, Y_box, Y_un, Y_store, Y_append, Y_makeMap, Y_buildSlice, ibin_shl, ibin_shr, ibin_and, List.set_cons_zero, List.set_cons_succ, List.getD_cons_zero, List.getD_cons_succ, List.map_cons, List.map_nil, ↓reduceIte, reduceCtorEq, oneCell, List.length_cons, List.length_nil, setAt, readN, bne_iff_ne, ne_eq, Nat.reduceAdd, Nat.reduceLeDiff, List.getElem?_cons_zero, List.getElem?_cons_succ, Nat.reduceMul, Option.isSome_some, layAt, Nat.reduceLT, Option.isNone_some, Option.isNone_none, beq_self_eq_true, Nat.reduceEqDiff, setParams, Int.reduceLT, Int.reduceLE, Int.reduceGT, Int.reduceGE, Int.reduceEq, Int.reduceNe, Option.map_some, Option.map_none, Option.isSome_none]
    rw [Sort.insOuter, if_neg hlt] at hE
    exact leaf0n ⟨by rw [← hE]; exact O, by rw [← hE]; exact hs⟩

/-- The greater child. -/
def kid (lt : It → It → Bool) (hi first root : Nat) (d : Array It) : Nat := if 2 * root + 1 + 1 < hi ∧ lt d[first + (2 * root + 1)]! d[first + (2 * root + 1) + 1]! = true then 2 * root + 2 else 2 * root + 1
theorem sift_end {lt : It → It → Bool} {hi first root : Nat} {d : Array It} (h1 : ¬ 2 * root + 1 < hi) : Sort.siftDown lt hi first root d = d := by
  rw [Sort.siftDown, dif_pos (by omega)]
theorem sift_step {lt : It → It → Bool} {hi first root : Nat} {d : Array It} (h1 : 2 * root + 1 < hi) : Sort.siftDown lt hi first root d = if lt d[first + root]! d[first + kid lt hi first root d]! = true then Sort.siftDown lt hi first (kid lt hi first root d) (Sort.swp d (first + root) (first + kid lt hi first root d)) else d := by
  rw [Sort.siftDown, dif_neg (by omega)]
  unfold kid
  by_cases hc : 2 * root + 1 + 1 < hi ∧ lt d[first + (2 * root + 1)]! d[first + (2 * root + 1) + 1]! = true
  · rw [if_pos (by simpa using hc), if_pos hc]
    by_cases e : lt d[first + root]! d[first + (2 * root + 2)]! = true
    · rw [if_neg (by simp [e]), dif_pos (by omega), if_pos e]
    · rw [if_pos (by simpa using e), if_neg e]
  · rw [if_neg (by simpa using hc), if_neg hc]
    by_cases e : lt d[first + root]! d[first + (2 * root + 1)]! = true
    · rw [if_neg (by simp [e]), if_pos e]
    · rw [if_pos (by simpa using e), if_neg e]

theorem sift_ok {n b lo hi first cap zz m : Nat} {sp : Option Nat} {h : Heap} {d : Array It} {rest : List Value} {t : Bool} {ro : Nat → Option (List Value × Nat)} {R : List Rs} (hn : m + 20 < n) (hm2 : m < 1000000) (hm : d.size = m) (O : Has ro h (Ar b d rest zz t :: R)) (hlo : lo ≤ hi) (hhi : first + hi ≤ m) :
    (callV env (n + 5) (.func (.func 44) #[] #[]) [.slice (some ⟨b, 0, sp⟩) m cap, .int .i64 (lo : Int), .int .i64 (hi : Int), .int .i64 (first : Int), .func (.func 27) #[] #[]] h).Is fun p => Has ro p.2 (Ar b (Sort.siftDown ltI hi first lo d) rest zz t :: R) ∧ (Sort.siftDown ltI hi first lo d).size = m := by
  refine call_is env44 ?_
  simp (disch := first | assumption | omega | (simp only [wkD, oneCell, Option.isSome_some, *]; done) | (simp only [wkE, ne_eq]; omega)) only [ir44, List.append_nil, List.nil_append, List.cons_append, List.length_cons, List.length_nil, Nat.reduceAdd, Nat.reduceSub, List.replicate_succ, List.replicate_zero, wk0, wk1, wk2, wk3, wk4, wk5, X_region, X_seq, X_block, X_loop, X_cond, Y_box, Y_un, Y_store, Y_append, Y_makeMap, Y_buildSlice, ibin_shl, ibin_shr, ibin_and, List.set_cons_zero, List.set_cons_succ, List.getD_cons_zero, List.getD_cons_succ, List.map_cons, List.map_nil, ↓reduceIte, reduceCtorEq, oneCell, List.length_cons, List.length_nil, setAt, readN, bne_iff_ne, ne_eq, Nat.reduceAdd, Nat.reduceLeDiff, List.getElem?_cons_zero, List.getElem?_cons_succ, Nat.reduceMul, Option.isSome_some, layAt, Nat.reduceLT, Option.isNone_some, Option.isNone_none, beq_self_eq_true, Nat.reduceEqDiff, setParams, Int.reduceLT, Int.reduceLE, Int.reduceGT, Int.reduceGE, Int.reduceEq, Int.reduceNe, Option.map_some, Option.map_none, Option.isSome_none]
  refine L_is (fun q s => ∃ (r : Nat) (d1 : Array It), s.defers = [] ∧ s.tmps.length = 82 ∧ s.tmps.getD 0 undefV = .slice (some ⟨b, 0, sp⟩) m cap ∧ s.tmps.getD 2 undefV = .int .i64 (hi : Int) ∧ s.tmps.getD 3 undefV = .int .i64 (first : Int) ∧ s.tmps.getD 4 undefV = .func (.func 27) #[] #[] ∧ s.tmps.getD 10 undefV = .int .i64 (r : Int) ∧ q = hi - r ∧ r ≤ hi ∧ d1.size = m ∧ Has ro s.h (Ar b d1 rest zz t :: R) ∧ Sort.siftDown ltI hi first r d1 = Sort.siftDown ltI hi first lo d) (hi - lo) ?_ (by omega) ?_
  · exact ⟨lo, d, rfl, rfl, rfl, rfl, rfl, rfl, rfl, by omega, hlo, hm, O, rfl⟩
  clear O
  rintro q tm df h1 ⟨r, d1, hd, hlen_, g0, g2, g3, g4, g10, hq, hr, hs, O, hE⟩
  simp only at hd g0 g2 g3 g4 g10 O
  subst hd
  obtain ⟨w, hg_, rfl⟩ := explode hlen_
  simp only [hg_] at g0 g2 g3 g4 g10
  clear hlen_ hg_
  have y1 : IntKind.i64.wrap (2 * (r : Int)) = ((2 * r : Nat) : Int) := by rw [wrap_i64 (by omega) (by omega)]; omega
  have y2 : IntKind.i64.wrap (((2 * r : Nat) : Int) + 1) = ((2 * r + 1 : Nat) : Int) := by rw [wrap_i64 (by omega) (by omega)]; omega
  by_cases hlt : 2 * r + 1 < hi
  · have hlt' : ¬ (hi : Int) ≤ ((2 * r + 1 : Nat) : Int) := by omega
    have y3 : IntKind.i64.wrap (((2 * r + 1 : Nat) : Int) + 1) = ((2 * r + 2 : Nat) : Int) := by rw [wrap_i64 (by omega) (by omega)]; omega
    simp (disch := first | assumption | omega | (simp only [wkD, oneCell, Option.isSome_some, *]; done) | (simp only [wkE, ne_eq]; omega)) only [g0, g2, g3, g4, g10, y1, y2, hlt', wk0, wk1, wk2, wk3, wk4, wk5, X_region, X_seq, X_block, X_loop, X_cond, Y_box, Y_un, Y_store, Y_append, Y_makeMap, Y_buildSlice, ibin_shl, ibin_shr, ibin_and, List.set_cons_zero, List.set_cons_succ, List.getD_cons_zero, List.getD_cons_succ, List.map_cons, List.map_nil, ↓reduceIte, reduceCtorEq, oneCell, List.length_cons, List.length_nil, setAt, readN, bne_iff_ne, ne_eq, Nat.reduceAdd, Nat.reduceLeDiff, List.getElem?_cons_zero, List.getElem?_cons_succ, Nat.reduceMul, Option.isSome_some, layAt, Nat.reduceLT, Option.isNone_some, Option.isNone_none, beq_self_eq_true, Nat.reduceEqDiff, setParams, Int.reduceLT, Int.reduceLE, Int.reduceGT, Int.reduceGE, Int.reduceEq, Int.reduceNe, Option.map_some, Option.map_none, Option.isSome_none]
    refine X_cut1 (fun s => s.tmps.length = 82 ∧ s.tmps.getD 0 undefV = .slice (some ⟨b, 0, sp⟩) m cap ∧ s.tmps.getD 2 undefV = .int .i64 (hi : Int) ∧ s.tmps.getD 3 undefV = .int .i64 (first : Int) ∧ s.tmps.getD 4 undefV = .func (.func 27) #[] #[] ∧ s.tmps.getD 10 undefV = .int .i64 (r : Int) ∧ s.tmps.getD 11 undefV = .int .i64 (kid ltI hi first r d1 : Int) ∧ Has ro s.h (Ar b d1 rest zz t :: R)) ?_ ?_
    · refine X_drawn _ fun an => ?_
      by_cases h2 : 2 * r + 2 < hi
      · have h2' : ((2 * r + 2 : Nat) : Int) < (hi : Int) := by omega
        have y4 : IntKind.i64.wrap ((first : Int) + ((2 * r + 1 : Nat) : Int)) = ((first + (2 * r + 1) : Nat) : Int) := by rw [wrap_i64 (by omega) (by omega)]; omega
        have y5 : IntKind.i64.wrap (((first + (2 * r + 1) : Nat) : Int) + 1) = ((first + (2 * r + 1) + 1 : Nat) : Int) := by rw [wrap_i64 (by omega) (by omega)]; omega
        have r1 := rdA O (k := first + (2 * r + 1)) (by omega)
        have r2 := rdA O (k := first + (2 * r + 1) + 1) (by omega)
        have c1 : (0 : Int) ≤ ((first + (2 * r + 1) : Nat) : Int) := by omega
        have c2 : ((first + (2 * r + 1) : Nat) : Int) < (m : Int) := by omega
        have c3 : (0 : Int) ≤ ((first + (2 * r + 1) + 1 : Nat) : Int) := by omega
        have c4 : ((first + (2 * r + 1) + 1 : Nat) : Int) < (m : Int) := by omega
        simp (disch := first | assumption | omega | (simp only [wkD, oneCell, Option.isSome_some, *]; done) | (simp only [wkE, ne_eq]; omega)) only [g0, g2, g3, g4, g10, y3, h2', y4, y5, r1, r2, c1, c2, c3, c4, Int.toNat_natCast, agg_ic, wk0, wk1, wk2, wk3, wk4, wk5, X_region, X_seq, X_block, X_loop, X_cond, Y_box, Y_un, Y_store, Y_append, Y_makeMap, Y_buildSlice, ibin_shl, ibin_shr, ibin_and, List.set_cons_zero, List.set_cons_succ, List.getD_cons_zero, List.getD_cons_succ, List.map_cons, List.map_nil, ↓reduceIte, reduceCtorEq, oneCell, List.length_cons, List.length_nil, setAt, readN, bne_iff_ne, ne_eq, Nat.reduceAdd, Nat.reduceLeDiff, List.getElem?_cons_zero, List.getElem?_cons_succ, Nat.reduceMul, Option.isSome_some, layAt, Nat.reduceLT, Option.isNone_some, Option.isNone_none, beq_self_eq_true, Nat.reduceEqDiff, setParams, Int.reduceLT, Int.reduceLE, Int.reduceGT, Int.reduceGE, Int.reduceEq, Int.reduceNe, Option.map_some, Option.map_none, Option.isSome_none]
        refine DB_is (cmp_ok (n := n) (by omega) O.fine d1[first + (2 * r + 1)]! d1[first + (2 * r + 1) + 1]!) ?_
        rintro v3 h3 ⟨rfl, e3⟩
        simp only at e3
        replace O := O.ext e3
        by_cases hc : cmpI d1[first + (2 * r + 1)]! d1[first + (2 * r + 1) + 1]! < 0
        · have hk : kid ltI hi first r d1 = 2 * r + 2 := if_pos ⟨by omega, decide_eq_true hc⟩
          simp (disch := first | assumption | omega | (simp only [wkD, oneCell, Option.isSome_some, *]; done) | (simp only [wkE, ne_eq]; omega)) only [hc, y3, wk0, wk1, wk2, wk3, wk4, wk5, X_region, X_seq, X_block, X_loop, X_cond, Y_box, Y_un, Y_store, Y_append, Y_makeMap, Y_buildSlice, ibin_shl, ibin_shr, ibin_and, List.set_cons_zero, List.set_cons_succ, List.getD_cons_zero, List.getD_cons_succ, List.map_cons, List.map_nil, ↓reduceIte, reduceCtorEq, oneCell, List.length_cons, List.length_nil, setAt, readN, bne_iff_ne, ne_eq, Nat.reduceAdd, Nat.reduceLeDiff, List.getElem?_cons_zero, List.getElem?_cons_succ, Nat.reduceMul, Option.isSome_some, layAt, Nat.reduceLT, Option.isNone_some, Option.isNone_none, beq_self_eq_true, Nat.reduceEqDiff, setParams, Int.reduceLT, Int.reduceLE, Int.reduceGT, Int.reduceGE, Int.reduceEq, Int.reduceNe, Option.map_some, Option.map_none, Option.isSome_none]
          exact mid_in ⟨rfl, rfl, rfl, rfl, rfl, rfl, by rw [hk]; rfl, O⟩
        · have hk : kid ltI hi first r d1 = 2 * r + 1 := if_neg (fun e => hc (of_decide_eq_true e.2))
          simp (disch := first | assumption | omega | (simp only [wkD, oneCell, Option.isSome_some, *]; done) | (simp only [wkE, ne_eq]; omega)) only [hc, wk0, wk1, wk2, wk3, wk4, wk5, X_region, X_seq, X_block, X_loop, X_cond, Y_box, Y_un, Y_store, Y_append, Y_makeMap, Y_buildSlice, ibin_shl, ibin_shr, ibin_and, List.set_cons_zero, List.set_cons_succ, List.getD_cons_zero, List.getD_cons_succ, List.map_cons, List.map_nil, ↓reduceIte, reduceCtorEq, oneCell, List.length_cons, List.length_nil, setAt, readN, bne_iff_ne, ne_eq, Nat.reduceAdd, Nat.reduceLeDiff, List.getElem?_cons_zero, List.getElem?_cons_succ, Nat.reduceMul, Option.isSome_some, layAt, Nat.reduceLT, Option.isNone_some, Option.isNone_none, beq_self_eq_true, Nat.reduceEqDiff, setParams, Int.reduceLT, Int.reduceLE, Int.reduceGT, Int.reduceGE, Int.reduceEq, Int.reduceNe, Option.map_some, Option.map_none, Option.isSome_none]
          exact mid_in ⟨rfl, rfl, rfl, rfl, rfl, rfl, by rw [hk]; rfl, O⟩
      · have h2' : ¬ ((2 * r + 2 : Nat) : Int) < (hi : Int) := by omega
        have hk : kid ltI hi first r d1 = 2 * r + 1 := if_neg (fun e => h2 e.1)
        simp (disch := first | assumption | omega | (simp only [wkD, oneCell, Option.isSome_some, *]; done) | (simp only [wkE, ne_eq]; omega)) only [g0, g2, g3, g4, g10, y3, h2', wk0, wk1, wk2, wk3, wk4, wk5, X_region, X_seq, X_block, X_loop, X_cond, Y_box, Y_un, Y_store, Y_append, Y_makeMap, Y_buildSlice, ibin_shl, ibin_shr, ibin_and, List.set_cons_zero, List.set_cons_succ, List.getD_cons_zero, List.getD_cons_succ, List.map_cons, List.map_nil, ↓reduceIte, reduceCtorEq, oneCell, List.length_cons, List.length_nil, setAt, readN, bne_iff_ne, ne_eq, Nat.reduceAdd, Nat.reduceLeDiff, List.getElem?_cons_zero, List.getElem?_cons_succ, Nat.reduceMul, Option.isSome_some, layAt, Nat.reduceLT, Option.isNone_some, Option.isNone_none, beq_self_eq_true, Nat.reduceEqDiff, setParams, Int.reduceLT, Int.reduceLE, Int.reduceGT, Int.reduceGE, Int.reduceEq, Int.reduceNe, Option.map_some, Option.map_none, Option.isSome_none]
        exact mid_in ⟨rfl, rfl, rfl, rfl, rfl, rfl, by rw [hk]; rfl, O⟩
    clear g0 g2 g3 g4 g10 O
    rintro tm h2 ⟨hlen_, g0, g2, g3, g4, g10, g11, O⟩
    simp only at g0 g2 g3 g4 g10 g11 O
    obtain ⟨w, hg_, rfl⟩ := explode hlen_
    simp only [hg_] at g0 g2 g3 g4 g10 g11
    clear hlen_ hg_

    have hkl : 2 * r + 1 ≤ kid ltI hi first r d1 ∧ kid ltI hi first r d1 < hi := by unfold kid; split <;> omega
    have hst := sift_step (lt := ltI) (first := first) (d := d1) hlt
    rw [hE] at hst
    generalize kid ltI hi first r d1 = k at hkl hst g0 g2 g3 g4 g10 g11 ⊢
    have y4 : IntKind.i64.wrap ((first : Int) + (r : Int)) = ((first + r : Nat) : Int) := by rw [wrap_i64 (by omega) (by omega)]; omega
    have y5 : IntKind.i64.wrap ((first : Int) + (k : Int)) = ((first + k : Nat) : Int) := by rw [wrap_i64 (by omega) (by omega)]; omega
    have c1 : (0 : Int) ≤ ((first + r : Nat) : Int) := by omega
    have c2 : ((first + r : Nat) : Int) < (m : Int) := by omega
    have c3 : (0 : Int) ≤ ((first + k : Nat) : Int) := by omega
    have c4 : ((first + k : Nat) : Int) < (m : Int) := by omega
    have r1 := rdA O (k := first + r) (by omega)
    have r2 := rdA O (k := first + k) (by omega)
    simp (disch := first | assumption | omega | (simp only [wkD, oneCell, Option.isSome_some, *]; done) | (simp only [wkE, ne_eq]; omega)) only [wk0, wk1, wk2, wk3, wk4, wk5, X_region, X_seq, X_block, X_loop, X_cond, Y_box, Y_un, Y_store, Y_append, Y_makeMap, Y_buildSlice, ibin_shl, ibin_shr, ibin_and, List.set_cons_zero, List.set_cons_succ, List.getD_cons_zero, List.getD_cons_succ, List.map_cons, List.map_nil, ↓reduceIte, reduceCtorEq, oneCell, List.length_cons, List.length_nil, setAt, readN, bne_iff_ne, ne_eq, Nat.reduceAdd, Nat.reduceLeDiff, List.getElem?_cons_zero, List.getElem?_cons_succ, Nat.reduceMul, Option.isSome_some, layAt, Nat.reduceLT, Option.isNone_some, Option.isNone_none, beq_self_eq_true, Nat.reduceEqDiff, setParams, Int.reduceLT, Int.reduceLE, Int.reduceGT, Int.reduceGE, Int.reduceEq, Int.reduceNe, Option.map_some, Option.map_none, Option.isSome_none]
    refine X_drawn _ fun an => ?_
    simp (disch := first | assumption | omega | (simp only [wkD, oneCell, Option.isSome_some, *]; done) | (simp only [wkE, ne_eq]; omega)) only [g0, g2, g3, g4, g10, g11, y4, y5, r1, r2, c1, c2, c3, c4, Int.toNat_natCast, agg_ic, wk0, wk1, wk2, wk3, wk4, wk5, X_region, X_seq, X_block, X_loop, X_cond, Y_box, Y_un, Y_store, Y_append, Y_makeMap, Y_buildSlice, ibin_shl, ibin_shr, ibin_and, List.set_cons_zero, List.set_cons_succ, List.getD_cons_zero, List.getD_cons_succ, List.map_cons, List.map_nil, ↓reduceIte, reduceCtorEq, oneCell, List.length_cons, List.length_nil, setAt, readN, bne_iff_ne, ne_eq, Nat.reduceAdd, Nat.reduceLeDiff, List.getElem?_cons_zero, List.getElem?_cons_succ, Nat.reduceMul, Option.isSome_some, layAt, Nat.reduceLT, Option.isNone_some, Option.isNone_none, beq_self_eq_true, Nat.reduceEqDiff, setParams, Int.reduceLT, Int.reduceLE, Int.reduceGT, Int.reduceGE, Int.reduceEq, Int.reduceNe, Option.map_some, Option.map_none, Option.isSome_none]
    refine DB_is (cmp_ok (n := n) (by omega) O.fine d1[first + r]! d1[first + k]!) ?_
    rintro v3 h3 ⟨rfl, e3⟩
    simp only at e3
    replace O := O.ext e3
    by_cases hc : cmpI d1[first + r]! d1[first + k]! < 0
    · have r1 := rdA O (k := first + r) (by omega)
      have r2 := rdA O (k := first + k) (by omega)
      obtain ⟨k1, k2, w1, w2, O4⟩ := swA O (i := first + r) (j := first + k) (by omega) (by omega)
      simp (disch := first | assumption | omega | (simp only [wkD, oneCell, Option.isSome_some, *]; done) | (simp only [wkE, ne_eq]; omega)) only [hc, wk0, wk1, wk2, wk3, wk4, wk5, X_region, X_seq, X_block, X_loop, X_cond, Y_box, Y_un, Y_store, Y_append, Y_makeMap, Y_buildSlice, ibin_shl, ibin_shr, ibin_and, List.set_cons_zero, List.set_cons_succ, List.getD_cons_zero, List.getD_cons_succ, List.map_cons, List.map_nil, ↓reduceIte, reduceCtorEq, oneCell, List.length_cons, List.length_nil, setAt, readN, bne_iff_ne, ne_eq, Nat.reduceAdd, Nat.reduceLeDiff, List.getElem?_cons_zero, List.getElem?_cons_succ, Nat.reduceMul, Option.isSome_some, layAt, Nat.reduceLT, Option.isNone_some, Option.isNone_none, beq_self_eq_true, Nat.reduceEqDiff, setParams, Int.reduceLT, Int.reduceLE, Int.reduceGT, Int.reduceGE, Int.reduceEq, Int.reduceNe, Option.map_some, Option.map_none, Option.isSome_none]
      refine X_drawn _ fun an => ?_
      simp (disch := first | assumption | omega | (simp only [wkD, oneCell, Option.isSome_some, *]; done) | (simp only [wkE, ne_eq]; omega)) only [g0, g2, g3, g4, g10, g11, r1, r2, w1, w2, y4, y5, c1, c2, c3, c4, Int.toNat_natCast, agg_ic, iv_cells, ic_len, wk0, wk1, wk2, wk3, wk4, wk5, X_region, X_seq, X_block, X_loop, X_cond, Y_box, Y_un, Y_store, Y_append, Y_makeMap, Y_buildSlice, ibin_shl, ibin_shr, ibin_and, List.set_cons_zero, List.set_cons_succ, List.getD_cons_zero, List.getD_cons_succ, List.map_cons, List.map_nil, ↓reduceIte, reduceCtorEq, oneCell, List.length_cons, List.length_nil, setAt, readN, bne_iff_ne, ne_eq, Nat.reduceAdd, Nat.reduceLeDiff, List.getElem?_cons_zero, List.getElem?_cons_succ, Nat.reduceMul, Option.isSome_some, layAt, Nat.reduceLT, Option.isNone_some, Option.isNone_none, beq_self_eq_true, Nat.reduceEqDiff, setParams, Int.reduceLT, Int.reduceLE, Int.reduceGT, Int.reduceGE, Int.reduceEq, Int.reduceNe, Option.map_some, Option.map_none, Option.isSome_none]
      rw [if_pos (show ltI d1[first + r]! d1[first + k]! = true from decide_eq_true hc)] at hst
      exact Is_in ⟨hi - k, by omega, k, _, rfl, rfl, rfl, rfl, rfl, rfl, rfl, rfl, by omega, by rw [Sort.size_swp]; exact hs, O4, hst.symm⟩
    · simp (disch := first | assumption | omega | (simp only [wkD, oneCell, Option.isSome_some, *]; done) | (simp only [wkE, ne_eq]; omega)) only [hc, wk0, wk1, wk2, wk3, wk4, wk5, X_region, X_seq, X_block, X_loop, X_cond, Y_box, Y_un, Y_store, Y_append, Y_makeMap, Y_buildSlice, ibin_shl, ibin_shr, ibin_and, List.set_cons_zero, List.set_cons_succ, List.getD_cons_zero, List.getD_cons_succ, List.map_cons, List.map_nil, ↓reduceIte, reduceCtorEq, oneCell, List.length_cons, List.length_nil, setAt, readN, bne_iff_ne, ne_eq, Nat.reduceAdd, Nat.reduceLeDiff, List.getElem?_cons_zero, List.getElem?_cons_succ, Nat.reduceMul, Option.isSome_some, layAt, Nat.reduceLT, Option.isNone_some, Option.isNone_none, beq_self_eq_true, Nat.reduceEqDiff, setParams, Int.reduceLT, Int.reduceLE, Int.reduceGT, Int.reduceGE, Int.reduceEq, Int.reduceNe, Option.map_some, Option.map_none, Option.isSome_none]
      refine Is_in ?_
      simp (disch := first | assumption | omega | (simp only [wkD, oneCell, Option.isSome_some, *]; done) | (simp only [wkE, ne_eq]; omega)) only [wk0, wk1, wk2, wk3, wk4, wk5, X_region, X_seq, X_block, X_loop, X_cond, Y_box, Y_un, Y_store, Y_append, Y_makeMap, Y_buildSlice, ibin_shl, ibin_shr, ibin_and, List.set_cons_zero, List.set_cons_succ, List.getD_cons_zero, List.getD_cons_succ, List.map_cons, List.map_nil, ↓reduceIte, reduceCtorEq, oneCell, List.length_cons, List.length_nil, setAt, readN, bne_iff_ne, ne_eq, Nat.reduceAdd, Nat.reduceLeDiff, List.getElem?_cons_zero, List.getElem?_cons_succ, Nat.reduceMul, Option.isSome_some, layAt, Nat.reduceLT, Option.isNone_some, Option.isNone_none, beq_self_eq_true, Nat.reduceEqDiff, setParams, Int.reduceLT, Int.reduceLE, Int.reduceGT, Int.reduceGE, Int.reduceEq, Int.reduceNe, Option.map_some, Option.map_none, Option.isSome_none]
      rw [if_neg (show ¬ ltI d1[first + r]! d1[first + k]! = true from fun e => hc (of_decide_eq_true e))] at hst
      exact leaf0 ⟨by rw [hst]; exact O, by rw [hst]; exact hs⟩
  · have hlt' : (hi : Int) ≤ ((2 * r + 1 : Nat) : Int) := by omega
    simp (disch := first | assumption | omega | (simp only [wkD, oneCell, Option.isSome_some, *]; done) | (simp only [wkE, ne_eq]; omega)) only [g0, g2, g3, g4, g10, y1, y2, hlt', wk0, wk1, wk2, wk3, wk4, wk5, X_region, X_seq, X_block, X_loop, X_cond, Y_box, Y_un, Y_store, Y_append, Y_makeMap, Y_buildSlice, ibin_shl, ibin_shr, ibin_and, List.set_cons_zero, List.set_cons_succ, List.getD_cons_zero, List.getD_cons_succ, List.map_cons, List.map_nil, ↓reduceIte, reduceCtorEq, oneCell, List.length_cons, List.length_nil, setAt, readN, bne_iff_ne, ne_eq, Nat.reduceAdd, Nat.reduceLeDiff, List.getElem?_cons_zero, List.getElem?_cons_succ, Nat.reduceMul, Option.isSome_some, layAt, Nat.reduceLT, Option.isNone_some, Option.isNone_none, beq_self_eq_true, Nat.reduceEqDiff, setParams, Int.reduceLT, Int.reduceLE, Int.reduceGT, Int.reduceGE, Int.reduceEq, Int.reduceNe, Option.map_some, Option.map_none, Option.isSome_none]
    refine Is_in ?_
    simp (disch := first | assumption | omega | (simp only [wkD, oneCell, Option.isSome_some, *]; done) | (simp only [wkE, ne_eq]; omega)) only [wk0, wk1, wk2, wk3, wk4, wk5, X_region, X_seq, X_block, X_loop, X_cond, Y_box, Y_un, Y_store, Y_append, Y_makeMap, Y_buildSlice, ibin_shl, ibin_shr, ibin_and, List.set_cons_zero, List.set_cons_succ, List.getD_cons_zero, List.getD_cons_succ, List.map_cons, List.map_nil, ↓reduceIte, reduceCtorEq, oneCell, List.length_cons, List.length_nil, setAt, readN, bne_iff_ne, ne_eq, Nat.reduceAdd, Nat.reduceLeDiff, List.getElem?_cons_zero, List.getElem?_cons_succ, Nat.reduceMul, Option.isSome_some, layAt, Nat.reduceLT, Option.isNone_some, Option.isNone_none, beq_self_eq_true, Nat.reduceEqDiff, setParams, Int.reduceLT, Int.reduceLE, Int.reduceGT, Int.reduceGE, Int.reduceEq, Int.reduceNe, Option.map_some, Option.map_none, Option.isSome_none]
    rw [sift_end hlt] at hE
    exact leaf0n ⟨by rw [← hE]; exact O, by rw [← hE]; exact hs⟩

theorem heap_ok {n b lo hi cap zz m : Nat} {sp : Option Nat} {h : Heap} {d : Array It} {rest : List Value} {t : Bool} {ro : Nat → Option (List Value × Nat)} {R : List Rs} (hn : m + 20 < n) (hm2 : m < 1000000) (hm : d.size = m) (O : Has ro h (Ar b d rest zz t :: R)) (hlo : lo < hi) (hhi : hi ≤ m) :
    (callV env (n + 6) (.func (.func 35) #[] #[]) [.slice (some ⟨b, 0, sp⟩) m cap, .int .i64 (lo : Int), .int .i64 (hi : Int), .func (.func 27) #[] #[]] h).Is fun p => Has ro p.2 (Ar b (Sort.heapSort ltI d lo hi) rest zz t :: R) ∧ (Sort.heapSort ltI d lo hi).size = m := by
  refine call_is env35 ?_
  have y1 : IntKind.i64.wrap ((hi : Int) - (lo : Int)) = ((hi - lo : Nat) : Int) := by rw [wrap_i64 (by omega) (by omega)]; omega
  have y2 : IntKind.i64.wrap (((hi - lo : Nat) : Int) - 1) = ((hi - lo - 1 : Nat) : Int) := by rw [wrap_i64 (by omega) (by omega)]; omega
  have y3 : IntKind.i64.wrap (((hi - lo - 1 : Nat) : Int).tdiv 2) = (((hi - lo - 1) / 2 + 1 : Nat) : Int) - 1 := by rw [show (((hi - lo - 1 : Nat) : Int).tdiv 2) = (((hi - lo - 1) / 2 : Nat) : Int) from rfl, wrap_i64 (by omega) (by omega)]; omega
  simp (disch := first | assumption | omega | (simp only [wkD, oneCell, Option.isSome_some, *]; done) | (simp only [wkE, ne_eq]; omega)) only [ir35, List.append_nil, List.nil_append, List.cons_append, List.length_cons, List.length_nil, Nat.reduceAdd, Nat.reduceSub, List.replicate_succ, List.replicate_zero, y1, y2, y3, wk0, wk1, wk2, wk3, wk4, wk5, X_region, X_seq, X_block, X_loop, X_cond, Y_box, Y_un, Y_store, Y_append, Y_makeMap, Y_buildSlice, ibin_shl, ibin_shr, ibin_and, List.set_cons_zero, List.set_cons_succ, List.getD_cons_zero, List.getD_cons_succ, List.map_cons, List.map_nil, ↓reduceIte, reduceCtorEq, oneCell, List.length_cons, List.length_nil, setAt, readN, bne_iff_ne, ne_eq, Nat.reduceAdd, Nat.reduceLeDiff, List.getElem?_cons_zero, List.getElem?_cons_succ, Nat.reduceMul, Option.isSome_some, layAt, Nat.reduceLT, Option.isNone_some, Option.isNone_none, beq_self_eq_true, Nat.reduceEqDiff, setParams, Int.reduceLT, Int.reduceLE, Int.reduceGT, Int.reduceGE, Int.reduceEq, Int.reduceNe, Option.map_some, Option.map_none, Option.isSome_none]
  refine L_is (fun q s => ∃ (k : Nat) (d1 : Array It), s.defers = [] ∧ s.tmps.length = 60 ∧ s.tmps.getD 0 undefV = .slice (some ⟨b, 0, sp⟩) m cap ∧ s.tmps.getD 3 undefV = .func (.func 27) #[] #[] ∧ s.tmps.getD 8 undefV = .int .i64 (lo : Int) ∧ s.tmps.getD 9 undefV = .int .i64 0 ∧ s.tmps.getD 10 undefV = .int .i64 ((hi - lo : Nat) : Int) ∧ s.tmps.getD 11 undefV = .int .i64 ((k : Int) - 1) ∧ q = k ∧ k ≤ hi - lo ∧ d1.size = m ∧ Has ro s.h (Ar b d1 rest zz t :: R) ∧ Sort.heapPop ltI lo (hi - lo) (Sort.heapBuild ltI (hi - lo) lo k d1) = Sort.heapSort ltI d lo hi) ((hi - lo - 1) / 2 + 1) ?_ (by omega) ?_
  · exact ⟨_, d, rfl, rfl, rfl, rfl, rfl, rfl, rfl, rfl, rfl, by omega, hm, O, rfl⟩
  clear O
  rintro q tm df h1 ⟨k, d1, hd, hlen_, g0, g3, g8, g9, g10, g11, hq, hk, hs, O, hE⟩
  simp only at hd g0 g3 g8 g9 g10 g11 O
  subst hd
  obtain ⟨w, hg_, rfl⟩ := explode hlen_
  simp only [hg_] at g0 g3 g8 g9 g10 g11
  clear hlen_ hg_
  rcases k with _ | k
  · have hk' : ¬ (0 : Int) ≤ ((0 : Nat) : Int) - 1 := by omega
    have y4 : IntKind.i64.wrap (((hi - lo : Nat) : Int) - 1) = ((hi - lo : Nat) : Int) - 1 := by rw [wrap_i64 (by omega) (by omega)]
    simp (disch := first | assumption | omega | (simp only [wkD, oneCell, Option.isSome_some, *]; done) | (simp only [wkE, ne_eq]; omega)) only [g0, g3, g8, g9, g10, g11, hk', wk0, wk1, wk2, wk3, wk4, wk5, X_region, X_seq, X_block, X_loop, X_cond, Y_box, Y_un, Y_store, Y_append, Y_makeMap, Y_buildSlice, ibin_shl, ibin_shr, ibin_and, List.set_cons_zero, List.set_cons_succ, List.getD_cons_zero, List.getD_cons_succ, List.map_cons, List.map_nil, ↓reduceIte, reduceCtorEq, oneCell, List.length_cons, List.length_nil, setAt, readN, bne_iff_ne, ne_eq, Nat.reduceAdd, Nat.reduceLeDiff, List.getElem?_cons_zero, List.getElem?_cons_succ, Nat.reduceMul, Option.isSome_some, layAt, Nat.reduceLT, Option.isNone_some, Option.isNone_none, beq_self_eq_true, Nat.reduceEqDiff, setParams, Int.reduceLT, Int.reduceLE, Int.reduceGT, Int.reduceGE, Int.reduceEq, Int.reduceNe, Option.map_some, Option.map_none, Option.isSome_none]
    refine Is_in ?_
    simp (disch := first | assumption | omega | (simp only [wkD, oneCell, Option.isSome_some, *]; done) | (simp only [wkE, ne_eq]; omega)) only [g0, g3, g8, g9, g10, g11, y4, wk0, wk1, wk2, wk3, wk4, wk5, X_region, X_seq, X_block, X_loop, X_cond, Y_box, Y_un, Y_store, Y_append, Y_makeMap, Y_buildSlice, ibin_shl, ibin_shr, ibin_and, List.set_cons_zero, List.set_cons_succ, List.getD_cons_zero, List.getD_cons_succ, List.map_cons, List.map_nil, ↓reduceIte, reduceCtorEq, oneCell, List.length_cons, List.length_nil, setAt, readN, bne_iff_ne, ne_eq, Nat.reduceAdd, Nat.reduceLeDiff, List.getElem?_cons_zero, List.getElem?_cons_succ, Nat.reduceMul, Option.isSome_some, layAt, Nat.reduceLT, Option.isNone_some, Option.isNone_none, beq_self_eq_true, Nat.reduceEqDiff, setParams, Int.reduceLT, Int.reduceLE, Int.reduceGT, Int.reduceGE, Int.reduceEq, Int.reduceNe, Option.map_some, Option.map_none, Option.isSome_none]
    rw [Sort.heapBuild] at hE
    refine L_is (fun q s => ∃ (k : Nat) (d2 : Array It), s.defers = [] ∧ s.tmps.length = 60 ∧ s.tmps.getD 0 undefV = .slice (some ⟨b, 0, sp⟩) m cap ∧ s.tmps.getD 3 undefV = .func (.func 27) #[] #[] ∧ s.tmps.getD 8 undefV = .int .i64 (lo : Int) ∧ s.tmps.getD 9 undefV = .int .i64 0 ∧ s.tmps.getD 12 undefV = .int .i64 ((k : Int) - 1) ∧ q = k ∧ k ≤ hi - lo ∧ d2.size = m ∧ Has ro s.h (Ar b d2 rest zz t :: R) ∧ Sort.heapPop ltI lo k d2 = Sort.heapSort ltI d lo hi) (hi - lo) ?_ (by omega) ?_
    · exact ⟨_, d1, rfl, rfl, rfl, rfl, rfl, rfl, rfl, rfl, by omega, hs, O, hE⟩
    clear O g0 g3 g8 g9 g10 g11 hE hs
    rintro q tm df h2 ⟨k, d2, hd, hlen_, g0, g3, g8, g9, g12, hq, hk, hs, O, hE⟩
    simp only at hd g0 g3 g8 g9 g12 O
    subst hd
    obtain ⟨w, hg_, rfl⟩ := explode hlen_
    simp only [hg_] at g0 g3 g8 g9 g12
    clear hlen_ hg_

    rcases k with _ | k
    · have hk' : ¬ (0 : Int) ≤ ((0 : Nat) : Int) - 1 := by omega
      simp (disch := first | assumption | omega | (simp only [wkD, oneCell, Option.isSome_some, *]; done) | (simp only [wkE, ne_eq]; omega)) only [g0, g3, g8, g9, g12, hk', wk0, wk1, wk2, wk3, wk4, wk5, X_region, X_seq, X_block, X_loop, X_cond, Y_box, Y_un, Y_store, Y_append, Y_makeMap, Y_buildSlice, ibin_shl, ibin_shr, ibin_and, List.set_cons_zero, List.set_cons_succ, List.getD_cons_zero, List.getD_cons_succ, List.map_cons, List.map_nil, ↓reduceIte, reduceCtorEq, oneCell, List.length_cons, List.length_nil, setAt, readN, bne_iff_ne, ne_eq, Nat.reduceAdd, Nat.reduceLeDiff, List.getElem?_cons_zero, List.getElem?_cons_succ, Nat.reduceMul, Option.isSome_some, layAt, Nat.reduceLT, Option.isNone_some, Option.isNone_none, beq_self_eq_true, Nat.reduceEqDiff, setParams, Int.reduceLT, Int.reduceLE, Int.reduceGT, Int.reduceGE, Int.reduceEq, Int.reduceNe, Option.map_some, Option.map_none, Option.isSome_none]
      refine Is_in ?_
      simp (disch := first | assumption | omega | (simp only [wkD, oneCell, Option.isSome_some, *]; done) | (simp only [wkE, ne_eq]; omega)) only [wk0, wk1, wk2, wk3, wk4, wk5, X_region, X_seq, X_block, X_loop, X_cond, Y_box, Y_un, Y_store, Y_append, Y_makeMap, Y_buildSlice, ibin_shl, ibin_shr, ibin_and, List.set_cons_zero, List.set_cons_succ, List.getD_cons_zero, List.getD_cons_succ, List.map_cons, List.map_nil, ↓reduceIte, reduceCtorEq, oneCell, List.length_cons, List.length_nil, setAt, readN, bne_iff_ne, ne_eq, Nat.reduceAdd, Nat.reduceLeDiff, List.getElem?_cons_zero, List.getElem?_cons_succ, Nat.reduceMul, Option.isSome_some, layAt, Nat.reduceLT, Option.isNone_some, Option.isNone_none, beq_self_eq_true, Nat.reduceEqDiff, setParams, Int.reduceLT, Int.reduceLE, Int.reduceGT, Int.reduceGE, Int.reduceEq, Int.reduceNe, Option.map_some, Option.map_none, Option.isSome_none]
      rw [Sort.heapPop] at hE
      exact leaf0n ⟨by rw [← hE]; exact O, by rw [← hE]; exact hs⟩
    · have hk' : (0 : Int) ≤ ((k + 1 : Nat) : Int) - 1 := by omega
      have ek : ((k + 1 : Nat) : Int) - 1 = (k : Int) := by omega
      have z0 : (0 : Int) ≤ (k : Int) := by omega
      have y5 : IntKind.i64.wrap ((lo : Int) + (k : Int)) = ((lo + k : Nat) : Int) := by rw [wrap_i64 (by omega) (by omega)]; omega
      have y6 : IntKind.i64.wrap ((k : Int) - 1) = (k : Int) - 1 := by rw [wrap_i64 (by omega) (by omega)]
      have r1 := rdA O (k := lo) (by omega)
      have r2 := rdA O (k := lo + k) (by omega)
      obtain ⟨k1, k2, w1, w2, O4⟩ := swA O (i := lo) (j := lo + k) (by omega) (by omega)
      have c1 : (0 : Int) ≤ (lo : Int) := by omega
      have c2 : (lo : Int) < (m : Int) := by omega
      have c3 : (0 : Int) ≤ ((lo + k : Nat) : Int) := by omega
      have c4 : ((lo + k : Nat) : Int) < (m : Int) := by omega
      simp only [ek] at g0 g3 g8 g9 g12
      simp (disch := first | assumption | omega | (simp only [wkD, oneCell, Option.isSome_some, *]; done) | (simp only [wkE, ne_eq]; omega)) only [g0, g3, g8, g9, g12, z0, wk0, wk1, wk2, wk3, wk4, wk5, X_region, X_seq, X_block, X_loop, X_cond, Y_box, Y_un, Y_store, Y_append, Y_makeMap, Y_buildSlice, ibin_shl, ibin_shr, ibin_and, List.set_cons_zero, List.set_cons_succ, List.getD_cons_zero, List.getD_cons_succ, List.map_cons, List.map_nil, ↓reduceIte, reduceCtorEq, oneCell, List.length_cons, List.length_nil, setAt, readN, bne_iff_ne, ne_eq, Nat.reduceAdd, Nat.reduceLeDiff, List.getElem?_cons_zero, List.getElem?_cons_succ, Nat.reduceMul, Option.isSome_some, layAt, Nat.reduceLT, Option.isNone_some, Option.isNone_none, beq_self_eq_true, Nat.reduceEqDiff, setParams, Int.reduceLT, Int.reduceLE, Int.reduceGT, Int.reduceGE, Int.reduceEq, Int.reduceNe, Option.map_some, Option.map_none, Option.isSome_none]
      refine X_drawn _ fun an => ?_
      simp (disch := first | assumption | omega | (simp only [wkD, oneCell, Option.isSome_some, *]; done) | (simp only [wkE, ne_eq]; omega)) only [g0, g3, g8, g9, g12, r1, r2, w1, w2, y5, c1, c2, c3, c4, Int.toNat_natCast, agg_ic, iv_cells, ic_len, wk0, wk1, wk2, wk3, wk4, wk5, X_region, X_seq, X_block, X_loop, X_cond, Y_box, Y_un, Y_store, Y_append, Y_makeMap, Y_buildSlice, ibin_shl, ibin_shr, ibin_and, List.set_cons_zero, List.set_cons_succ, List.getD_cons_zero, List.getD_cons_succ, List.map_cons, List.map_nil, ↓reduceIte, reduceCtorEq, oneCell, List.length_cons, List.length_nil, setAt, readN, bne_iff_ne, ne_eq, Nat.reduceAdd, Nat.reduceLeDiff, List.getElem?_cons_zero, List.getElem?_cons_succ, Nat.reduceMul, Option.isSome_some, layAt, Nat.reduceLT, Option.isNone_some, Option.isNone_none, beq_self_eq_true, Nat.reduceEqDiff, setParams, Int.reduceLT, Int.reduceLE, Int.reduceGT, Int.reduceGE, Int.reduceEq, Int.reduceNe, Option.map_some, Option.map_none, Option.isSome_none]
      refine Z_is (sift_ok (n := n) (lo := 0) (first := lo) (hi := k) hn hm2 (by rw [Sort.size_swp]; exact hs) O4 (by omega) (by omega)) ?_
      rintro v3 h3 ⟨O5, hs5⟩
      simp only at O5
      simp (disch := first | assumption | omega | (simp only [wkD, oneCell, Option.isSome_some, *]; done) | (simp only [wkE, ne_eq]; omega)) only [g0, g3, g8, g9, g12, y6, wk0, wk1, wk2, wk3, wk4, wk5, X_region, X_seq, X_block, X_loop, X_cond, Y_box, Y_un, Y_store, Y_append, Y_makeMap, Y_buildSlice, ibin_shl, ibin_shr, ibin_and, List.set_cons_zero, List.set_cons_succ, List.getD_cons_zero, List.getD_cons_succ, List.map_cons, List.map_nil, ↓reduceIte, reduceCtorEq, oneCell, List.length_cons, List.length_nil, setAt, readN, bne_iff_ne, ne_eq, Nat.reduceAdd, Nat.reduceLeDiff, List.getElem?_cons_zero, List.getElem?_cons_succ, Nat.reduceMul, Option.isSome_some, layAt, Nat.reduceLT, Option.isNone_some, Option.isNone_none, beq_self_eq_true, Nat.reduceEqDiff, setParams, Int.reduceLT, Int.reduceLE, Int.reduceGT, Int.reduceGE, Int.reduceEq, Int.reduceNe, Option.map_some, Option.map_none, Option.isSome_none]
      exact Is_in ⟨k, by omega, k, _, rfl, rfl, rfl, rfl, rfl, rfl, rfl, rfl, by omega, hs5, O5, by rw [Sort.heapPop] at hE; exact hE⟩
  · have ek : ((k + 1 : Nat) : Int) - 1 = (k : Int) := by omega
    have z0 : (0 : Int) ≤ (k : Int) := by omega
    have y6 : IntKind.i64.wrap ((k : Int) - 1) = (k : Int) - 1 := by rw [wrap_i64 (by omega) (by omega)]
    simp only [ek] at g0 g3 g8 g9 g10 g11
    simp (disch := first | assumption | omega | (simp only [wkD, oneCell, Option.isSome_some, *]; done) | (simp only [wkE, ne_eq]; omega)) only [g0, g3, g8, g9, g10, g11, z0, wk0, wk1, wk2, wk3, wk4, wk5, X_region, X_seq, X_block, X_loop, X_cond, Y_box, Y_un, Y_store, Y_append, Y_makeMap, Y_buildSlice, ibin_shl, ibin_shr, ibin_and, List.set_cons_zero, List.set_cons_succ, List.getD_cons_zero, List.getD_cons_succ, List.map_cons, List.map_nil, ↓reduceIte, reduceCtorEq, oneCell, List.length_cons, List.length_nil, setAt, readN, bne_iff_ne, ne_eq, Nat.reduceAdd, Nat.reduceLeDiff, List.getElem?_cons_zero, List.getElem?_cons_succ, Nat.reduceMul, Option.isSome_some, layAt, Nat.reduceLT, Option.isNone_some, Option.isNone_none, beq_self_eq_true, Nat.reduceEqDiff, setParams, Int.reduceLT, Int.reduceLE, Int.reduceGT, Int.reduceGE, Int.reduceEq, Int.reduceNe, Option.map_some, Option.map_none, Option.isSome_none]
    refine Z_is (sift_ok (n := n) (lo := k) (first := lo) (hi := hi - lo) hn hm2 hs O (by omega) (by omega)) ?_
    rintro v3 h3 ⟨O5, hs5⟩
    simp only at O5
    simp (disch := first | assumption | omega | (simp only [wkD, oneCell, Option.isSome_some, *]; done) | (simp only [wkE, ne_eq]; omega)) only [g0, g3, g8, g9, g10, g11, y6, wk0, wk1, wk2, wk3, wk4, wk5, X_region, X_seq, X_block, X_loop, X_cond, Y_box, Y_un, Y_store, Y_append, Y_makeMap, Y_buildSlice, ibin_shl, ibin_shr, ibin_and, List.set_cons_zero, List.set_cons_succ, List.getD_cons_zero, List.getD_cons_succ, List.map_cons, List.map_nil, ↓reduceIte, reduceCtorEq, oneCell, List.length_cons, List.length_nil, setAt, readN, bne_iff_ne, ne_eq, Nat.reduceAdd, Nat.reduceLeDiff, List.getElem?_cons_zero, List.getElem?_cons_succ, Nat.reduceMul, Option.isSome_some, layAt, Nat.reduceLT, Option.isNone_some, Option.isNone_none, beq_self_eq_true, Nat.reduceEqDiff, setParams, Int.reduceLT, Int.reduceLE, Int.reduceGT, Int.reduceGE, Int.reduceEq, Int.reduceNe, Option.map_some, Option.map_none, Option.isSome_none]
    exact Is_in ⟨k, by omega, k, _, rfl, rfl, rfl, rfl, rfl, rfl, rfl, rfl, rfl, by omega, hs5, O5, by rw [Sort.heapBuild] at hE; exact hE⟩

theorem reverse_ok {n b lo hi cap zz m : Nat} {sp : Option Nat} {h : Heap} {d : Array It} {rest : List Value} {t : Bool} {ro : Nat → Option (List Value × Nat)} {R : List Rs} {cv : Value} (hn : m + 20 < n) (hm2 : m < 1000000) (hm : d.size = m) (O : Has ro h (Ar b d rest zz t :: R)) (hlo : lo < hi) (hhi : hi ≤ m) :
    (callV env (n + 1) (.func (.func 38) #[] #[]) [.slice (some ⟨b, 0, sp⟩) m cap, .int .i64 (lo : Int), .int .i64 (hi : Int), cv] h).Is fun p => Has ro p.2 (Ar b (Sort.reverseRange d lo hi) rest zz t :: R) ∧ (Sort.reverseRange d lo hi).size = m := by
  refine call_is env38 ?_
  have y1 : IntKind.i64.wrap ((hi : Int) - 1) = ((hi - 1 : Nat) : Int) := by rw [wrap_i64 (by omega) (by omega)]; omega
  simp (disch := first | assumption | omega | (simp only [wkD, oneCell, Option.isSome_some, *]; done) | (simp only [wkE, ne_eq]; omega)) only [ir38, List.append_nil, List.nil_append, List.cons_append, List.length_cons, List.length_nil, Nat.reduceAdd, Nat.reduceSub, List.replicate_succ, List.replicate_zero, y1, wk0, wk1, wk2, wk3, wk4, wk5, X_region, X_seq, X_block, X_loop, X_cond, Y_box, Y_un, Y_store, Y_append, Y_makeMap, Y_buildSlice, ibin_shl, ibin_shr, ibin_and, List.set_cons_zero, List.set_cons_succ, List.getD_cons_zero, List.getD_cons_succ, List.map_cons, List.map_nil, ↓reduceIte, reduceCtorEq, oneCell, List.length_cons, List.length_nil, setAt, readN, bne_iff_ne, ne_eq, Nat.reduceAdd, Nat.reduceLeDiff, List.getElem?_cons_zero, List.getElem?_cons_succ, Nat.reduceMul, Option.isSome_some, layAt, Nat.reduceLT, Option.isNone_some, Option.isNone_none, beq_self_eq_true, Nat.reduceEqDiff, setParams, Int.reduceLT, Int.reduceLE, Int.reduceGT, Int.reduceGE, Int.reduceEq, Int.reduceNe, Option.map_some, Option.map_none, Option.isSome_none]
  refine L_is (fun q s => ∃ (i j : Nat) (d1 : Array It), s.defers = [] ∧ s.tmps.length = 34 ∧ s.tmps.getD 0 undefV = .slice (some ⟨b, 0, sp⟩) m cap ∧ s.tmps.getD 8 undefV = .int .i64 (i : Int) ∧ s.tmps.getD 9 undefV = .int .i64 (j : Int) ∧ q = j - i ∧ j < hi ∧ d1.size = m ∧ Has ro s.h (Ar b d1 rest zz t :: R) ∧ Sort.reverseLoop i j d1 = Sort.reverseRange d lo hi) (hi - 1 - lo) ?_ (by omega) ?_
  · exact ⟨lo, hi - 1, d, rfl, rfl, rfl, rfl, rfl, rfl, by omega, hm, O, rfl⟩
  clear O
  rintro q tm df h1 ⟨i, j, d1, hd, hlen_, g0, g8, g9, hq, hj, hs, O, hE⟩
  simp only at hd g0 g8 g9 O
  subst hd
  obtain ⟨w, hg_, rfl⟩ := explode hlen_
  simp only [hg_] at g0 g8 g9
  clear hlen_ hg_
  by_cases hij : i < j
  · have hij' : (i : Int) < (j : Int) := by omega
    have y2 : IntKind.i64.wrap ((j : Int) - 1) = ((j - 1 : Nat) : Int) := by rw [wrap_i64 (by omega) (by omega)]; omega
    have y3 : IntKind.i64.wrap ((i : Int) + 1) = ((i + 1 : Nat) : Int) := by rw [wrap_i64 (by omega) (by omega)]; omega
    have r1 := rdA O (k := i) (by omega)
    have r2 := rdA O (k := j) (by omega)
    obtain ⟨k1, k2, w1, w2, O4⟩ := swA O (i := i) (j := j) (by omega) (by omega)
    have c1 : (0 : Int) ≤ (i : Int) := by omega
    have c2 : (i : Int) < (m : Int) := by omega
    have c3 : (0 : Int) ≤ (j : Int) := by omega
    have c4 : (j : Int) < (m : Int) := by omega
    simp (disch := first | assumption | omega | (simp only [wkD, oneCell, Option.isSome_some, *]; done) | (simp only [wkE, ne_eq]; omega)) only [g0, g8, g9, hij', wk0, wk1, wk2, wk3, wk4, wk5, X_region, X_seq, X_block, X_loop, X_cond, Y_box, Y_un, Y_store, Y_append, Y_makeMap, Y_buildSlice, ibin_shl, ibin_shr, ibin_and, List.set_cons_zero, List.set_cons_succ, List.getD_cons_zero, List.getD_cons_succ, List.map_cons, List.map_nil, ↓reduceIte, reduceCtorEq, oneCell, List.length_cons, List.length_nil, setAt, readN, bne_iff_ne, ne_eq, Nat.reduceAdd, Nat.reduceLeDiff, List.getElem?_cons_zero, List.getElem?_cons_succ, Nat.reduceMul, Option.isSome_some, layAt, Nat.reduceLT, Option.isNone_some, Option.isNone_none, beq_self_eq_true, Nat.reduceEqDiff, setParams, Int.reduceLT, Int.reduceLE, Int.reduceGT, Int.reduceGE, Int.reduceEq, Int.reduceNe, Option.map_some, Option.map_none, Option.isSome_none]
    refine X_drawn _ fun an => ?_
    simp (disch := first | assumption | omega | (simp only [wkD, oneCell, Option.isSome_some, *]; done) | (simp only [wkE, ne_eq]; omega)) only [g0, g8, g9, r1, r2, w1, w2, c1, c2, c3, c4, y2, y3, Int.toNat_natCast, agg_ic, iv_cells, ic_len, wk0, wk1, wk2, wk3, wk4, wk5, X_region, X_seq, X_block, X_loop, X_cond, Y_box, Y_un, Y_store, Y_append, Y_makeMap, Y_buildSlice, ibin_shl, ibin_shr, ibin_and, List.set_cons_zero, List.set_cons_succ, List.getD_cons_zero, List.getD_cons_succ, List.map_cons, List.map_nil, ↓reduceIte, reduceCtorEq, oneCell, List.length_cons, List.length_nil, setAt, readN, bne_iff_ne, ne_eq, Nat.reduceAdd, Nat.reduceLeDiff, List.getElem?_cons_zero, List.getElem?_cons_succ, Nat.reduceMul, Option.isSome_some, layAt, Nat.reduceLT, Option.isNone_some, Option.isNone_none, beq_self_eq_true, Nat.reduceEqDiff, setParams, Int.reduceLT, Int.reduceLE, Int.reduceGT, Int.reduceGE, Int.reduceEq, Int.reduceNe, Option.map_some, Option.map_none, Option.isSome_none]
    exact Is_in ⟨j - 1 - (i + 1), by omega, i + 1, j - 1, _, rfl, rfl, rfl, rfl, rfl, rfl, by omega, by rw [Sort.size_swp]; exact hs, O4, by rw [Sort.reverseLoop, if_pos hij] at hE; exact hE⟩
  · have hij' : ¬ (i : Int) < (j : Int) := by omega
    simp (disch := first | assumption | omega | (simp only [wkD, oneCell, Option.isSome_some, *]; done) | (simp only [wkE, ne_eq]; omega)) only [g0, g8, g9, hij', wk0, wk1, wk2, wk3, wk4, wk5, X_region, X_seq, X_block, X_loop, X_cond, Y_box, Y_un, Y_store, Y_append, Y_makeMap, Y_buildSlice, ibin_shl, ibin_shr, ibin_and, List.set_cons_zero, List.set_cons_succ, List.getD_cons_zero, List.getD_cons_succ, List.map_cons, List.map_nil, ↓reduceIte, reduceCtorEq, oneCell, List.length_cons, List.length_nil, setAt, readN, bne_iff_ne, ne_eq, Nat.reduceAdd, Nat.reduceLeDiff, List.getElem?_cons_zero, List.getElem?_cons_succ, Nat.reduceMul, Option.isSome_some, layAt, Nat.reduceLT, Option.isNone_some, Option.isNone_none, beq_self_eq_true, Nat.reduceEqDiff, setParams, Int.reduceLT, Int.reduceLE, Int.reduceGT, Int.reduceGE, Int.reduceEq, Int.reduceNe, Option.map_some, Option.map_none, Option.isSome_none]
    refine Is_in ?_
    simp (disch := first | assumption | omega | (simp only [wkD, oneCell, Option.isSome_some, *]; done) | (simp only [wkE, ne_eq]; omega)) only [wk0, wk1, wk2, wk3, wk4, wk5, X_region, X_seq, X_block, X_loop, X_cond, Y_box, Y_un, Y_store, Y_append, Y_makeMap, Y_buildSlice, ibin_shl, ibin_shr, ibin_and, List.set_cons_zero, List.set_cons_succ, List.getD_cons_zero, List.getD_cons_succ, List.map_cons, List.map_nil, ↓reduceIte, reduceCtorEq, oneCell, List.length_cons, List.length_nil, setAt, readN, bne_iff_ne, ne_eq, Nat.reduceAdd, Nat.reduceLeDiff, List.getElem?_cons_zero, List.getElem?_cons_succ, Nat.reduceMul, Option.isSome_some, layAt, Nat.reduceLT, Option.isNone_some, Option.isNone_none, beq_self_eq_true, Nat.reduceEqDiff, setParams, Int.reduceLT, Int.reduceLE, Int.reduceGT, Int.reduceGE, Int.reduceEq, Int.reduceNe, Option.map_some, Option.map_none, Option.isSome_none]
    rw [Sort.reverseLoop, if_neg hij] at hE
    exact leaf0n ⟨by rw [← hE]; exact O, by rw [← hE]; exact hs⟩
end Go.Proofs.Ytafaefeekilclaa
