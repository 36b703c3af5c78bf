/-
  Sorting: what the functions of the package slices leave, as its plain form says.
-/
import Derived.Test.YtafaefeekilclaaFk
import Derived.Test.YtafaefeekilclaaHeap
import Derived.Sort.AssemblyPlain
import Derived.Sort.LotD5
import Derived.Test.YtafaefeekilclaaPqa
namespace Go.Proofs.Ytafaefeekilclaa
open Go Go.Ideal
set_option maxHeartbeats 0
set_option linter.unusedSimpArgs false
set_option linter.unusedVariables false
set_option maxRecDepth 100000
attribute [local irreducible] callV T.All T.Is run
theorem env41 : env 41 = some ir41 := rfl

theorem su_go {p : It → Bool} {d : Array It} {i j : Nat} (h : i ≤ j) (hp : p d[i]! = true) : Sort.scanUp p d j i = Sort.scanUp p d j (i + 1) := by
  rw [Sort.scanUp, if_pos (by simp [h, hp])]
theorem su_stop {p : It → Bool} {d : Array It} {i j : Nat} (h : ¬ (i ≤ j ∧ p d[i]! = true)) : Sort.scanUp p d j i = i := by
  rw [Sort.scanUp, if_neg (by simpa using h)]
theorem sd_go {p : It → Bool} {d : Array It} {i j : Nat} (h : i ≤ j) (h1 : 1 ≤ i) (hp : p d[j]! = true) : Sort.scanDown p d i j = Sort.scanDown p d i (j - 1) := by
  rcases j with _ | j
  · omega
  · rw [Sort.scanDown, if_pos (by simp [h, hp])]; rfl
theorem sd_stop {p : It → Bool} {d : Array It} {i j : Nat} (h : ¬ (i ≤ j ∧ p d[j]! = true)) : Sort.scanDown p d i j = j := by
  rcases j with _ | j
  · rfl
  · rw [Sort.scanDown, if_neg (by simpa using h)]

theorem scan_lt {p q : It → Bool} (hq : ∀ x, q x = !p x) {d : Array It} {i j : Nat} (hi : 0 < i) (h : ¬ Sort.scanDown q d (Sort.scanUp p d j i) j < Sort.scanUp p d j i) : Sort.scanUp p d j i < Sort.scanDown q d (Sort.scanUp p d j i) j := by
  obtain ⟨u1, u2, u3, u4⟩ := Sort.scanUp_spec p d j _ i rfl
  obtain ⟨v1, v2, v3, v4⟩ := Sort.scanDown_spec q d (Sort.scanUp p d j i) j
  have f1 := u4 (by omega)
  have f2 := v4 (by omega) (by omega)
  rw [hq] at f2
  rcases Nat.lt_or_ge (Sort.scanUp p d j i) (Sort.scanDown q d (Sort.scanUp p d j i) j) with h' | h'
  · exact h'
  · have e : Sort.scanUp p d j i = Sort.scanDown q d (Sort.scanUp p d j i) j := by omega
    rw [← e, f1] at f2
    cases f2

theorem sd_low {p : It → Bool} {d : Array It} {i : Nat} : ∀ {j : Nat}, i ≤ j + 1 → i ≤ Sort.scanDown p d i j + 1
  | 0, h => by rw [Sort.scanDown]; exact h
  | j + 1, h => by
    rw [Sort.scanDown]
    split
    · rename_i hc
      simp only [Bool.and_eq_true, decide_eq_true_eq] at hc
      exact sd_low (by omega)
    · exact h

theorem part_ok {n b lo hi cap zz m : Nat} {sp : Option Nat} {h : Heap} {d : Array It} {rest : List Value} {t : Bool} {ro : Nat → Option (List Value × Nat)} {R : List Rs} {pv : Nat} (hn : m + 20 < n) (hm2 : m < 1000000) (hm : d.size = m) (O : Has ro h (Ar b d rest zz t :: R)) (h1 : lo ≤ pv) (h2 : pv < hi) (hhi : hi ≤ m) :
    (callV env (n + 5) (.func (.func 41) #[] #[]) [.slice (some ⟨b, 0, sp⟩) m cap, .int .i64 (lo : Int), .int .i64 (hi : Int), .int .i64 (pv : Int), .func (.func 27) #[] #[]] h).Is fun p => p.1 = .tuple #[.int .i64 ((Sort.partition ltI d lo hi pv).1 : Int), .bool (Sort.partition ltI d lo hi pv).2.1] ∧ Has ro p.2 (Ar b (Sort.partition ltI d lo hi pv).2.2 rest zz t :: R) ∧ (Sort.partition ltI d lo hi pv).2.2.size = m := by
  refine call_is env41 ?_
  have y1 : IntKind.i64.wrap ((lo : Int) + 1) = ((lo + 1 : Nat) : Int) := by rw [wrap_i64 (by omega) (by omega)]; omega
  have y2 : IntKind.i64.wrap ((hi : Int) - 1) = ((hi - 1 : Nat) : Int) := by rw [wrap_i64 (by omega) (by omega)]; omega
  simp (disch := first | assumption | omega | (simp only [wkD, oneCell, Option.isSome_some, *]; done) | (simp only [wkE, ne_eq]; omega)) only [ir41, List.append_nil, List.nil_append, List.cons_append, List.length_cons, List.length_nil, Nat.reduceAdd, Nat.reduceSub, List.replicate_succ, List.replicate_zero, wk0, wk1, wk2, wk3, wk4, wk5, X_region, X_seq, X_block, X_loop, X_cond, Y_box, Y_un, Y_store, Y_append, Y_makeMap, Y_buildSlice, ibin_shl, ibin_shr, ibin_and, List.set_cons_zero, List.set_cons_succ, List.getD_cons_zero, List.getD_cons_succ, List.map_cons, List.map_nil, ↓reduceIte, reduceCtorEq, oneCell, List.length_cons, List.length_nil, setAt, readN, bne_iff_ne, ne_eq, Nat.reduceAdd, Nat.reduceLeDiff, List.getElem?_cons_zero, List.getElem?_cons_succ, Nat.reduceMul, Option.isSome_some, layAt, Nat.reduceLT, Option.isNone_some, Option.isNone_none, beq_self_eq_true, Nat.reduceEqDiff, setParams, Int.reduceLT, Int.reduceLE, Int.reduceGT, Int.reduceGE, Int.reduceEq, Int.reduceNe, Option.map_some, Option.map_none, Option.isSome_none]
  have r1 := rdA O (k := lo) (by omega)
  have r2 := rdA O (k := pv) (by omega)
  obtain ⟨k1, k2, w1, w2, O4⟩ := swA O (i := lo) (j := pv) (by omega) (by omega)
  have c1 : (0 : Int) ≤ ((lo : Nat) : Int) := by omega
  have c2 : ((lo : Nat) : Int) < (m : Int) := by omega
  have c3 : (0 : Int) ≤ ((pv : Nat) : Int) := by omega
  have c4 : ((pv : Nat) : Int) < (m : Int) := by omega
  refine X_drawn _ fun an => ?_
  simp (disch := first | assumption | omega | (simp only [wkD, oneCell, Option.isSome_some, *]; done) | (simp only [wkE, ne_eq]; omega)) only [y1, y2, r1, r2, w1, w2, c1, c2, c3, c4, Int.toNat_natCast, agg_ic, iv_cells, ic_len, wk0, wk1, wk2, wk3, wk4, wk5, X_region, X_seq, X_block, X_loop, X_cond, Y_box, Y_un, Y_store, Y_append, Y_makeMap, Y_buildSlice, ibin_shl, ibin_shr, ibin_and, List.set_cons_zero, List.set_cons_succ, List.getD_cons_zero, List.getD_cons_succ, List.map_cons, List.map_nil, ↓reduceIte, reduceCtorEq, oneCell, List.length_cons, List.length_nil, setAt, readN, bne_iff_ne, ne_eq, Nat.reduceAdd, Nat.reduceLeDiff, List.getElem?_cons_zero, List.getElem?_cons_succ, Nat.reduceMul, Option.isSome_some, layAt, Nat.reduceLT, Option.isNone_some, Option.isNone_none, beq_self_eq_true, Nat.reduceEqDiff, setParams, Int.reduceLT, Int.reduceLE, Int.reduceGT, Int.reduceGE, Int.reduceEq, Int.reduceNe, Option.map_some, Option.map_none, Option.isSome_none]
  replace O := O4
  clear r1 r2 w1 w2 c1 c2 c3 c4 O4
  unfold Sort.partition
  simp only []
  have hs0 : (Sort.swp d lo pv).size = m := by rw [Sort.size_swp]; exact hm
  generalize Sort.swp d lo pv = d0 at O hs0 ⊢
  refine L_cut1 (fun s => s.tmps.length = 178 ∧ s.tmps.getD 0 undefV = .slice (some ⟨b, 0, sp⟩) m cap ∧ s.tmps.getD 1 undefV = .int .i64 ((lo : Nat) : Int) ∧ s.tmps.getD 4 undefV = .func (.func 27) #[] #[] ∧ s.tmps.getD 12 undefV = .int .i64 ((Sort.scanUp (fun x => ltI x d0[lo]!) d0 (hi - 1) (lo + 1) : Nat) : Int) ∧ s.tmps.getD 13 undefV = .int .i64 (((hi - 1) : Nat) : Int) ∧ Has ro s.h (Ar b d0 rest zz t :: R)) ?_ ?_
  · refine L_is (fun q s => ∃ (i2 : Nat), s.defers = [] ∧ s.tmps.length = 178 ∧ s.tmps.getD 0 undefV = .slice (some ⟨b, 0, sp⟩) m cap ∧ s.tmps.getD 1 undefV = .int .i64 ((lo : Nat) : Int) ∧ s.tmps.getD 4 undefV = .func (.func 27) #[] #[] ∧ s.tmps.getD 12 undefV = .int .i64 ((i2 : Nat) : Int) ∧ s.tmps.getD 13 undefV = .int .i64 (((hi - 1) : Nat) : Int) ∧ q = (hi - 1) + 1 - i2 ∧ (lo + 1) ≤ i2 ∧ i2 ≤ (hi - 1) + 1 ∧ Has ro s.h (Ar b d0 rest zz t :: R) ∧ Sort.scanUp (fun x => ltI x d0[lo]!) d0 (hi - 1) i2 = Sort.scanUp (fun x => ltI x d0[lo]!) d0 (hi - 1) (lo + 1)) ((hi - 1) + 1 - (lo + 1)) ?_ (by omega) ?_
    · exact ⟨(lo + 1), rfl, rfl, rfl, rfl, rfl, rfl, rfl, rfl, by omega, by omega, O, rfl⟩
    clear O 
    rintro q tm df h7 ⟨i2, hd, hlen_, g0, g1, g4, g12, g13, hq, q1, q2, O, hE⟩
    simp only at hd g0 g1 g4 g12 g13 O
    subst hd
    obtain ⟨w, hg_, rfl⟩ := explode hlen_
    simp only [hg_] at g0 g1 g4 g12 g13
    clear hlen_ hg_
    have r1 := rdA O (k := lo) (by omega)
    have c1 : (0 : Int) ≤ (lo : Int) := by omega
    have c2 : (lo : Int) < (m : Int) := by omega
    simp (disch := first | assumption | omega | (simp only [wkD, oneCell, Option.isSome_some, *]; done) | (simp only [wkE, ne_eq]; omega)) only [g0, g1, g4, g12, g13, wk0, wk1, wk2, wk3, wk4, wk5, X_region, X_seq, X_block, X_loop, X_cond, Y_box, Y_un, Y_store, Y_append, Y_makeMap, Y_buildSlice, ibin_shl, ibin_shr, ibin_and, List.set_cons_zero, List.set_cons_succ, List.getD_cons_zero, List.getD_cons_succ, List.map_cons, List.map_nil, ↓reduceIte, reduceCtorEq, oneCell, List.length_cons, List.length_nil, setAt, readN, bne_iff_ne, ne_eq, Nat.reduceAdd, Nat.reduceLeDiff, List.getElem?_cons_zero, List.getElem?_cons_succ, Nat.reduceMul, Option.isSome_some, layAt, Nat.reduceLT, Option.isNone_some, Option.isNone_none, beq_self_eq_true, Nat.reduceEqDiff, setParams, Int.reduceLT, Int.reduceLE, Int.reduceGT, Int.reduceGE, Int.reduceEq, Int.reduceNe, Option.map_some, Option.map_none, Option.isSome_none]
    refine X_drawn _ fun an => ?_
    by_cases hij : i2 ≤ (hi - 1)
    · have hij' : (i2 : Int) ≤ (((hi - 1) : Nat) : Int) := by omega
      have y9 : IntKind.i64.wrap ((i2 : Int) + 1) = ((i2 + 1 : Nat) : Int) := by rw [wrap_i64 (by omega) (by omega)]; omega
      have r2 := rdA O (k := i2) (by omega)
      have c3 : (0 : Int) ≤ (i2 : Int) := by omega
      have c4 : (i2 : Int) < (m : Int) := by omega
      simp (disch := first | assumption | omega | (simp only [wkD, oneCell, Option.isSome_some, *]; done) | (simp only [wkE, ne_eq]; omega)) only [g0, g1, g4, g12, g13, hij', r1, r2, c1, c2, c3, c4, Int.toNat_natCast, agg_ic, wk0, wk1, wk2, wk3, wk4, wk5, X_region, X_seq, X_block, X_loop, X_cond, Y_box, Y_un, Y_store, Y_append, Y_makeMap, Y_buildSlice, ibin_shl, ibin_shr, ibin_and, List.set_cons_zero, List.set_cons_succ, List.getD_cons_zero, List.getD_cons_succ, List.map_cons, List.map_nil, ↓reduceIte, reduceCtorEq, oneCell, List.length_cons, List.length_nil, setAt, readN, bne_iff_ne, ne_eq, Nat.reduceAdd, Nat.reduceLeDiff, List.getElem?_cons_zero, List.getElem?_cons_succ, Nat.reduceMul, Option.isSome_some, layAt, Nat.reduceLT, Option.isNone_some, Option.isNone_none, beq_self_eq_true, Nat.reduceEqDiff, setParams, Int.reduceLT, Int.reduceLE, Int.reduceGT, Int.reduceGE, Int.reduceEq, Int.reduceNe, Option.map_some, Option.map_none, Option.isSome_none]
      refine DB_is (cmp_ok (n := n) (by omega) O.fine d0[i2]! d0[lo]!) ?_
      rintro v8 h8 ⟨rfl, e8⟩
      simp only at e8
      replace O := O.ext e8
      by_cases hc : cmpI d0[i2]! d0[lo]! < 0
      · simp (disch := first | assumption | omega | (simp only [wkD, oneCell, Option.isSome_some, *]; done) | (simp only [wkE, ne_eq]; omega)) only [hc, y9, wk0, wk1, wk2, wk3, wk4, wk5, X_region, X_seq, X_block, X_loop, X_cond, Y_box, Y_un, Y_store, Y_append, Y_makeMap, Y_buildSlice, ibin_shl, ibin_shr, ibin_and, List.set_cons_zero, List.set_cons_succ, List.getD_cons_zero, List.getD_cons_succ, List.map_cons, List.map_nil, ↓reduceIte, reduceCtorEq, oneCell, List.length_cons, List.length_nil, setAt, readN, bne_iff_ne, ne_eq, Nat.reduceAdd, Nat.reduceLeDiff, List.getElem?_cons_zero, List.getElem?_cons_succ, Nat.reduceMul, Option.isSome_some, layAt, Nat.reduceLT, Option.isNone_some, Option.isNone_none, beq_self_eq_true, Nat.reduceEqDiff, setParams, Int.reduceLT, Int.reduceLE, Int.reduceGT, Int.reduceGE, Int.reduceEq, Int.reduceNe, Option.map_some, Option.map_none, Option.isSome_none]
        exact Is_in ⟨(hi - 1) + 1 - (i2 + 1), by omega, i2 + 1, rfl, rfl, rfl, rfl, rfl, rfl, rfl, rfl, by omega, by omega, O, by rw [← hE]; exact (su_go hij (decide_eq_true hc)).symm⟩
      · simp (disch := first | assumption | omega | (simp only [wkD, oneCell, Option.isSome_some, *]; done) | (simp only [wkE, ne_eq]; omega)) only [hc, wk0, wk1, wk2, wk3, wk4, wk5, X_region, X_seq, X_block, X_loop, X_cond, Y_box, Y_un, Y_store, Y_append, Y_makeMap, Y_buildSlice, ibin_shl, ibin_shr, ibin_and, List.set_cons_zero, List.set_cons_succ, List.getD_cons_zero, List.getD_cons_succ, List.map_cons, List.map_nil, ↓reduceIte, reduceCtorEq, oneCell, List.length_cons, List.length_nil, setAt, readN, bne_iff_ne, ne_eq, Nat.reduceAdd, Nat.reduceLeDiff, List.getElem?_cons_zero, List.getElem?_cons_succ, Nat.reduceMul, Option.isSome_some, layAt, Nat.reduceLT, Option.isNone_some, Option.isNone_none, beq_self_eq_true, Nat.reduceEqDiff, setParams, Int.reduceLT, Int.reduceLE, Int.reduceGT, Int.reduceGE, Int.reduceEq, Int.reduceNe, Option.map_some, Option.map_none, Option.isSome_none]
        refine Is_in ?_
        simp (disch := first | assumption | omega | (simp only [wkD, oneCell, Option.isSome_some, *]; done) | (simp only [wkE, ne_eq]; omega)) only [wk0, wk1, wk2, wk3, wk4, wk5, X_region, X_seq, X_block, X_loop, X_cond, Y_box, Y_un, Y_store, Y_append, Y_makeMap, Y_buildSlice, ibin_shl, ibin_shr, ibin_and, List.set_cons_zero, List.set_cons_succ, List.getD_cons_zero, List.getD_cons_succ, List.map_cons, List.map_nil, ↓reduceIte, reduceCtorEq, oneCell, List.length_cons, List.length_nil, setAt, readN, bne_iff_ne, ne_eq, Nat.reduceAdd, Nat.reduceLeDiff, List.getElem?_cons_zero, List.getElem?_cons_succ, Nat.reduceMul, Option.isSome_some, layAt, Nat.reduceLT, Option.isNone_some, Option.isNone_none, beq_self_eq_true, Nat.reduceEqDiff, setParams, Int.reduceLT, Int.reduceLE, Int.reduceGT, Int.reduceGE, Int.reduceEq, Int.reduceNe, Option.map_some, Option.map_none, Option.isSome_none]
        exact mid_in ⟨rfl, rfl, rfl, rfl, by rw [← hE, su_stop (fun e => hc (of_decide_eq_true e.2))]; rfl, rfl, O⟩
    · have hij' : ¬ (i2 : Int) ≤ (((hi - 1) : Nat) : Int) := by omega
      simp (disch := first | assumption | omega | (simp only [wkD, oneCell, Option.isSome_some, *]; done) | (simp only [wkE, ne_eq]; omega)) only [g0, g1, g4, g12, g13, hij', wk0, wk1, wk2, wk3, wk4, wk5, X_region, X_seq, X_block, X_loop, X_cond, Y_box, Y_un, Y_store, Y_append, Y_makeMap, Y_buildSlice, ibin_shl, ibin_shr, ibin_and, List.set_cons_zero, List.set_cons_succ, List.getD_cons_zero, List.getD_cons_succ, List.map_cons, List.map_nil, ↓reduceIte, reduceCtorEq, oneCell, List.length_cons, List.length_nil, setAt, readN, bne_iff_ne, ne_eq, Nat.reduceAdd, Nat.reduceLeDiff, List.getElem?_cons_zero, List.getElem?_cons_succ, Nat.reduceMul, Option.isSome_some, layAt, Nat.reduceLT, Option.isNone_some, Option.isNone_none, beq_self_eq_true, Nat.reduceEqDiff, setParams, Int.reduceLT, Int.reduceLE, Int.reduceGT, Int.reduceGE, Int.reduceEq, Int.reduceNe, Option.map_some, Option.map_none, Option.isSome_none]
      refine Is_in ?_
      simp (disch := first | assumption | omega | (simp only [wkD, oneCell, Option.isSome_some, *]; done) | (simp only [wkE, ne_eq]; omega)) only [wk0, wk1, wk2, wk3, wk4, wk5, X_region, X_seq, X_block, X_loop, X_cond, Y_box, Y_un, Y_store, Y_append, Y_makeMap, Y_buildSlice, ibin_shl, ibin_shr, ibin_and, List.set_cons_zero, List.set_cons_succ, List.getD_cons_zero, List.getD_cons_succ, List.map_cons, List.map_nil, ↓reduceIte, reduceCtorEq, oneCell, List.length_cons, List.length_nil, setAt, readN, bne_iff_ne, ne_eq, Nat.reduceAdd, Nat.reduceLeDiff, List.getElem?_cons_zero, List.getElem?_cons_succ, Nat.reduceMul, Option.isSome_some, layAt, Nat.reduceLT, Option.isNone_some, Option.isNone_none, beq_self_eq_true, Nat.reduceEqDiff, setParams, Int.reduceLT, Int.reduceLE, Int.reduceGT, Int.reduceGE, Int.reduceEq, Int.reduceNe, Option.map_some, Option.map_none, Option.isSome_none]
      exact mid_in ⟨rfl, rfl, rfl, rfl, by rw [← hE, su_stop (fun e => hij e.1)]; rfl, rfl, O⟩
  clear O 
  rintro tm h2 ⟨hlen_, g0, g1, g4, g12, g13, O⟩
  simp only at g0 g1 g4 g12 g13 O
  obtain ⟨w, hg_, rfl⟩ := explode hlen_
  simp only [hg_] at g0 g1 g4 g12 g13
  clear hlen_ hg_

  have b1 := Sort.scanUp_ge (fun x => ltI x d0[lo]!) d0 (hi - 1) (lo + 1)
  have b2 := (Sort.scanUp_spec (fun x => ltI x d0[lo]!) d0 (hi - 1) _ (lo + 1) rfl).2.1
  have hlt := scan_lt (p := fun x => ltI x d0[lo]!) (q := fun x => !ltI x d0[lo]!) (fun x => rfl) (d := d0) (i := (lo + 1)) (j := (hi - 1)) (by omega)
  generalize Sort.scanUp (fun x => ltI x d0[lo]!) d0 (hi - 1) (lo + 1) = i at hlt b1 b2 g0 g1 g4 g12 g13 ⊢
  simp (disch := first | assumption | omega | (simp only [wkD, oneCell, Option.isSome_some, *]; done) | (simp only [wkE, ne_eq]; omega)) only [g0, g1, g4, g12, g13, wk0, wk1, wk2, wk3, wk4, wk5, X_region, X_seq, X_block, X_loop, X_cond, Y_box, Y_un, Y_store, Y_append, Y_makeMap, Y_buildSlice, ibin_shl, ibin_shr, ibin_and, List.set_cons_zero, List.set_cons_succ, List.getD_cons_zero, List.getD_cons_succ, List.map_cons, List.map_nil, ↓reduceIte, reduceCtorEq, oneCell, List.length_cons, List.length_nil, setAt, readN, bne_iff_ne, ne_eq, Nat.reduceAdd, Nat.reduceLeDiff, List.getElem?_cons_zero, List.getElem?_cons_succ, Nat.reduceMul, Option.isSome_some, layAt, Nat.reduceLT, Option.isNone_some, Option.isNone_none, beq_self_eq_true, Nat.reduceEqDiff, setParams, Int.reduceLT, Int.reduceLE, Int.reduceGT, Int.reduceGE, Int.reduceEq, Int.reduceNe, Option.map_some, Option.map_none, Option.isSome_none]
  refine L_cut1 (fun s => s.tmps.length = 178 ∧ s.tmps.getD 0 undefV = .slice (some ⟨b, 0, sp⟩) m cap ∧ s.tmps.getD 1 undefV = .int .i64 ((lo : Nat) : Int) ∧ s.tmps.getD 4 undefV = .func (.func 27) #[] #[] ∧ s.tmps.getD 12 undefV = .int .i64 ((i : Nat) : Int) ∧ s.tmps.getD 13 undefV = .int .i64 ((Sort.scanDown (fun x => !ltI x d0[lo]!) d0 i (hi - 1) : Nat) : Int) ∧ Has ro s.h (Ar b d0 rest zz t :: R)) ?_ ?_
  · refine L_is (fun q s => ∃ (j2 : Nat), s.defers = [] ∧ s.tmps.length = 178 ∧ s.tmps.getD 0 undefV = .slice (some ⟨b, 0, sp⟩) m cap ∧ s.tmps.getD 1 undefV = .int .i64 ((lo : Nat) : Int) ∧ s.tmps.getD 4 undefV = .func (.func 27) #[] #[] ∧ s.tmps.getD 12 undefV = .int .i64 ((i : Nat) : Int) ∧ s.tmps.getD 13 undefV = .int .i64 ((j2 : Nat) : Int) ∧ q = j2 ∧ i ≤ j2 + 1 ∧ j2 ≤ (hi - 1) ∧ Has ro s.h (Ar b d0 rest zz t :: R) ∧ Sort.scanDown (fun x => !ltI x d0[lo]!) d0 i j2 = Sort.scanDown (fun x => !ltI x d0[lo]!) d0 i (hi - 1)) ((hi - 1)) ?_ (by omega) ?_
    · exact ⟨(hi - 1), rfl, rfl, rfl, rfl, rfl, rfl, rfl, rfl, by omega, by omega, O, rfl⟩
    clear O g0 g1 g4 g12 g13
    rintro q tm df h7 ⟨j2, hd, hlen_, g0, g1, g4, g12, g13, hq, q1, q2, O, hE⟩
    simp only at hd g0 g1 g4 g12 g13 O
    subst hd
    obtain ⟨w, hg_, rfl⟩ := explode hlen_
    simp only [hg_] at g0 g1 g4 g12 g13
    clear hlen_ hg_
    have r1 := rdA O (k := lo) (by omega)
    have c1 : (0 : Int) ≤ (lo : Int) := by omega
    have c2 : (lo : Int) < (m : Int) := by omega
    simp (disch := first | assumption | omega | (simp only [wkD, oneCell, Option.isSome_some, *]; done) | (simp only [wkE, ne_eq]; omega)) only [g0, g1, g4, g12, g13, wk0, wk1, wk2, wk3, wk4, wk5, X_region, X_seq, X_block, X_loop, X_cond, Y_box, Y_un, Y_store, Y_append, Y_makeMap, Y_buildSlice, ibin_shl, ibin_shr, ibin_and, List.set_cons_zero, List.set_cons_succ, List.getD_cons_zero, List.getD_cons_succ, List.map_cons, List.map_nil, ↓reduceIte, reduceCtorEq, oneCell, List.length_cons, List.length_nil, setAt, readN, bne_iff_ne, ne_eq, Nat.reduceAdd, Nat.reduceLeDiff, List.getElem?_cons_zero, List.getElem?_cons_succ, Nat.reduceMul, Option.isSome_some, layAt, Nat.reduceLT, Option.isNone_some, Option.isNone_none, beq_self_eq_true, Nat.reduceEqDiff, setParams, Int.reduceLT, Int.reduceLE, Int.reduceGT, Int.reduceGE, Int.reduceEq, Int.reduceNe, Option.map_some, Option.map_none, Option.isSome_none]
    refine X_drawn _ fun an => ?_
    by_cases hij : i ≤ j2
    · have hij' : ((i : Nat) : Int) ≤ (j2 : Int) := by omega
      have y9 : IntKind.i64.wrap ((j2 : Int) - 1) = ((j2 - 1 : Nat) : Int) := by rw [wrap_i64 (by omega) (by omega)]; omega
      have r2 := rdA O (k := j2) (by omega)
      have c3 : (0 : Int) ≤ (j2 : Int) := by omega
      have c4 : (j2 : Int) < (m : Int) := by omega
      simp (disch := first | assumption | omega | (simp only [wkD, oneCell, Option.isSome_some, *]; done) | (simp only [wkE, ne_eq]; omega)) only [g0, g1, g4, g12, g13, hij', r1, r2, c1, c2, c3, c4, Int.toNat_natCast, agg_ic, wk0, wk1, wk2, wk3, wk4, wk5, X_region, X_seq, X_block, X_loop, X_cond, Y_box, Y_un, Y_store, Y_append, Y_makeMap, Y_buildSlice, ibin_shl, ibin_shr, ibin_and, List.set_cons_zero, List.set_cons_succ, List.getD_cons_zero, List.getD_cons_succ, List.map_cons, List.map_nil, ↓reduceIte, reduceCtorEq, oneCell, List.length_cons, List.length_nil, setAt, readN, bne_iff_ne, ne_eq, Nat.reduceAdd, Nat.reduceLeDiff, List.getElem?_cons_zero, List.getElem?_cons_succ, Nat.reduceMul, Option.isSome_some, layAt, Nat.reduceLT, Option.isNone_some, Option.isNone_none, beq_self_eq_true, Nat.reduceEqDiff, setParams, Int.reduceLT, Int.reduceLE, Int.reduceGT, Int.reduceGE, Int.reduceEq, Int.reduceNe, Option.map_some, Option.map_none, Option.isSome_none]
      refine DB_is (cmp_ok (n := n) (by omega) O.fine d0[j2]! d0[lo]!) ?_
      rintro v8 h8 ⟨rfl, e8⟩
      simp only at e8
      replace O := O.ext e8
      by_cases hc : cmpI d0[j2]! d0[lo]! < 0
      · simp (disch := first | assumption | omega | (simp only [wkD, oneCell, Option.isSome_some, *]; done) | (simp only [wkE, ne_eq]; omega)) only [hc, wk0, wk1, wk2, wk3, wk4, wk5, X_region, X_seq, X_block, X_loop, X_cond, Y_box, Y_un, Y_store, Y_append, Y_makeMap, Y_buildSlice, ibin_shl, ibin_shr, ibin_and, List.set_cons_zero, List.set_cons_succ, List.getD_cons_zero, List.getD_cons_succ, List.map_cons, List.map_nil, ↓reduceIte, reduceCtorEq, oneCell, List.length_cons, List.length_nil, setAt, readN, bne_iff_ne, ne_eq, Nat.reduceAdd, Nat.reduceLeDiff, List.getElem?_cons_zero, List.getElem?_cons_succ, Nat.reduceMul, Option.isSome_some, layAt, Nat.reduceLT, Option.isNone_some, Option.isNone_none, beq_self_eq_true, Nat.reduceEqDiff, setParams, Int.reduceLT, Int.reduceLE, Int.reduceGT, Int.reduceGE, Int.reduceEq, Int.reduceNe, Option.map_some, Option.map_none, Option.isSome_none]
        refine Is_in ?_
        simp (disch := first | assumption | omega | (simp only [wkD, oneCell, Option.isSome_some, *]; done) | (simp only [wkE, ne_eq]; omega)) only [wk0, wk1, wk2, wk3, wk4, wk5, X_region, X_seq, X_block, X_loop, X_cond, Y_box, Y_un, Y_store, Y_append, Y_makeMap, Y_buildSlice, ibin_shl, ibin_shr, ibin_and, List.set_cons_zero, List.set_cons_succ, List.getD_cons_zero, List.getD_cons_succ, List.map_cons, List.map_nil, ↓reduceIte, reduceCtorEq, oneCell, List.length_cons, List.length_nil, setAt, readN, bne_iff_ne, ne_eq, Nat.reduceAdd, Nat.reduceLeDiff, List.getElem?_cons_zero, List.getElem?_cons_succ, Nat.reduceMul, Option.isSome_some, layAt, Nat.reduceLT, Option.isNone_some, Option.isNone_none, beq_self_eq_true, Nat.reduceEqDiff, setParams, Int.reduceLT, Int.reduceLE, Int.reduceGT, Int.reduceGE, Int.reduceEq, Int.reduceNe, Option.map_some, Option.map_none, Option.isSome_none]
        exact mid_in ⟨rfl, rfl, rfl, rfl, rfl, by rw [← hE, sd_stop (fun e => by have := e.2; rw [show ltI d0[j2]! d0[lo]! = true from decide_eq_true hc] at this; cases this)]; rfl, O⟩
      · simp (disch := first | assumption | omega | (simp only [wkD, oneCell, Option.isSome_some, *]; done) | (simp only [wkE, ne_eq]; omega)) only [hc, y9, wk0, wk1, wk2, wk3, wk4, wk5, X_region, X_seq, X_block, X_loop, X_cond, Y_box, Y_un, Y_store, Y_append, Y_makeMap, Y_buildSlice, ibin_shl, ibin_shr, ibin_and, List.set_cons_zero, List.set_cons_succ, List.getD_cons_zero, List.getD_cons_succ, List.map_cons, List.map_nil, ↓reduceIte, reduceCtorEq, oneCell, List.length_cons, List.length_nil, setAt, readN, bne_iff_ne, ne_eq, Nat.reduceAdd, Nat.reduceLeDiff, List.getElem?_cons_zero, List.getElem?_cons_succ, Nat.reduceMul, Option.isSome_some, layAt, Nat.reduceLT, Option.isNone_some, Option.isNone_none, beq_self_eq_true, Nat.reduceEqDiff, setParams, Int.reduceLT, Int.reduceLE, Int.reduceGT, Int.reduceGE, Int.reduceEq, Int.reduceNe, Option.map_some, Option.map_none, Option.isSome_none]
        exact Is_in ⟨j2 - 1, by omega, j2 - 1, rfl, rfl, rfl, rfl, rfl, rfl, rfl, rfl, by omega, by omega, O, by rw [← hE]; exact (sd_go hij (by omega) ((by rw [show ltI d0[j2]! d0[lo]! = false from decide_eq_false hc]; rfl))).symm⟩
    · have hij' : ¬ ((i : Nat) : Int) ≤ (j2 : Int) := by omega
      simp (disch := first | assumption | omega | (simp only [wkD, oneCell, Option.isSome_some, *]; done) | (simp only [wkE, ne_eq]; omega)) only [g0, g1, g4, g12, g13, hij', wk0, wk1, wk2, wk3, wk4, wk5, X_region, X_seq, X_block, X_loop, X_cond, Y_box, Y_un, Y_store, Y_append, Y_makeMap, Y_buildSlice, ibin_shl, ibin_shr, ibin_and, List.set_cons_zero, List.set_cons_succ, List.getD_cons_zero, List.getD_cons_succ, List.map_cons, List.map_nil, ↓reduceIte, reduceCtorEq, oneCell, List.length_cons, List.length_nil, setAt, readN, bne_iff_ne, ne_eq, Nat.reduceAdd, Nat.reduceLeDiff, List.getElem?_cons_zero, List.getElem?_cons_succ, Nat.reduceMul, Option.isSome_some, layAt, Nat.reduceLT, Option.isNone_some, Option.isNone_none, beq_self_eq_true, Nat.reduceEqDiff, setParams, Int.reduceLT, Int.reduceLE, Int.reduceGT, Int.reduceGE, Int.reduceEq, Int.reduceNe, Option.map_some, Option.map_none, Option.isSome_none]
      refine Is_in ?_
      simp (disch := first | assumption | omega | (simp only [wkD, oneCell, Option.isSome_some, *]; done) | (simp only [wkE, ne_eq]; omega)) only [wk0, wk1, wk2, wk3, wk4, wk5, X_region, X_seq, X_block, X_loop, X_cond, Y_box, Y_un, Y_store, Y_append, Y_makeMap, Y_buildSlice, ibin_shl, ibin_shr, ibin_and, List.set_cons_zero, List.set_cons_succ, List.getD_cons_zero, List.getD_cons_succ, List.map_cons, List.map_nil, ↓reduceIte, reduceCtorEq, oneCell, List.length_cons, List.length_nil, setAt, readN, bne_iff_ne, ne_eq, Nat.reduceAdd, Nat.reduceLeDiff, List.getElem?_cons_zero, List.getElem?_cons_succ, Nat.reduceMul, Option.isSome_some, layAt, Nat.reduceLT, Option.isNone_some, Option.isNone_none, beq_self_eq_true, Nat.reduceEqDiff, setParams, Int.reduceLT, Int.reduceLE, Int.reduceGT, Int.reduceGE, Int.reduceEq, Int.reduceNe, Option.map_some, Option.map_none, Option.isSome_none]
      exact mid_in ⟨rfl, rfl, rfl, rfl, rfl, by rw [← hE, sd_stop (fun e => hij e.1)]; rfl, O⟩
  clear O g0 g1 g4 g12 g13
  rintro tm h2 ⟨hlen_, g0, g1, g4, g12, g13, O⟩
  simp only at g0 g1 g4 g12 g13 O
  obtain ⟨w, hg_, rfl⟩ := explode hlen_
  simp only [hg_] at g0 g1 g4 g12 g13
  clear hlen_ hg_

  have b3 := Sort.scanDown_le (fun x => !ltI x d0[lo]!) d0 i (hi - 1)
  have b4 := sd_low (p := fun x => !ltI x d0[lo]!) (d := d0) (i := i) (j := hi - 1) (by omega)
  generalize Sort.scanDown (fun x => !ltI x d0[lo]!) d0 i (hi - 1) = j at hlt b3 b4 g0 g1 g4 g12 g13 ⊢
  by_cases hgt : j < i
  · have hgt' : (j : Int) < (i : Int) := by omega
    rw [if_pos (show i > j from hgt)]
    simp (disch := first | assumption | omega | (simp only [wkD, oneCell, Option.isSome_some, *]; done) | (simp only [wkE, ne_eq]; omega)) only [g0, g1, g4, g12, g13, hgt', wk0, wk1, wk2, wk3, wk4, wk5, X_region, X_seq, X_block, X_loop, X_cond, Y_box, Y_un, Y_store, Y_append, Y_makeMap, Y_buildSlice, ibin_shl, ibin_shr, ibin_and, List.set_cons_zero, List.set_cons_succ, List.getD_cons_zero, List.getD_cons_succ, List.map_cons, List.map_nil, ↓reduceIte, reduceCtorEq, oneCell, List.length_cons, List.length_nil, setAt, readN, bne_iff_ne, ne_eq, Nat.reduceAdd, Nat.reduceLeDiff, List.getElem?_cons_zero, List.getElem?_cons_succ, Nat.reduceMul, Option.isSome_some, layAt, Nat.reduceLT, Option.isNone_some, Option.isNone_none, beq_self_eq_true, Nat.reduceEqDiff, setParams, Int.reduceLT, Int.reduceLE, Int.reduceGT, Int.reduceGE, Int.reduceEq, Int.reduceNe, Option.map_some, Option.map_none, Option.isSome_none]
    have r1 := rdA O (k := j) (by omega)
    have r2 := rdA O (k := lo) (by omega)
    obtain ⟨k1, k2, w1, w2, O4⟩ := swA O (i := j) (j := lo) (by omega) (by omega)
    have c1 : (0 : Int) ≤ ((j : Nat) : Int) := by omega
    have c2 : ((j : Nat) : Int) < (m : Int) := by omega
    have c3 : (0 : Int) ≤ ((lo : Nat) : Int) := by omega
    have c4 : ((lo : Nat) : Int) < (m : Int) := by omega
    refine X_drawn _ fun an => ?_
    simp (disch := first | assumption | omega | (simp only [wkD, oneCell, Option.isSome_some, *]; done) | (simp only [wkE, ne_eq]; omega)) only [g0, g1, g4, g12, g13, r1, r2, w1, w2, c1, c2, c3, c4, Int.toNat_natCast, agg_ic, iv_cells, ic_len, wk0, wk1, wk2, wk3, wk4, wk5, X_region, X_seq, X_block, X_loop, X_cond, Y_box, Y_un, Y_store, Y_append, Y_makeMap, Y_buildSlice, ibin_shl, ibin_shr, ibin_and, List.set_cons_zero, List.set_cons_succ, List.getD_cons_zero, List.getD_cons_succ, List.map_cons, List.map_nil, ↓reduceIte, reduceCtorEq, oneCell, List.length_cons, List.length_nil, setAt, readN, bne_iff_ne, ne_eq, Nat.reduceAdd, Nat.reduceLeDiff, List.getElem?_cons_zero, List.getElem?_cons_succ, Nat.reduceMul, Option.isSome_some, layAt, Nat.reduceLT, Option.isNone_some, Option.isNone_none, beq_self_eq_true, Nat.reduceEqDiff, setParams, Int.reduceLT, Int.reduceLE, Int.reduceGT, Int.reduceGE, Int.reduceEq, Int.reduceNe, Option.map_some, Option.map_none, Option.isSome_none]
    replace O := O4
    clear r1 r2 w1 w2 c1 c2 c3 c4 O4
    exact leaf2 ⟨rfl, O, by rw [Sort.size_swp]; exact hs0⟩
  · have hgt' : ¬ (j : Int) < (i : Int) := by omega
    replace hlt := hlt hgt
    rw [if_neg (show ¬ i > j from hgt)]
    have y3 : IntKind.i64.wrap ((i : Int) + 1) = ((i + 1 : Nat) : Int) := by rw [wrap_i64 (by omega) (by omega)]; omega
    have y4 : IntKind.i64.wrap ((j : Int) - 1) = ((j - 1 : Nat) : Int) := by rw [wrap_i64 (by omega) (by omega)]; omega
    simp (disch := first | assumption | omega | (simp only [wkD, oneCell, Option.isSome_some, *]; done) | (simp only [wkE, ne_eq]; omega)) only [g0, g1, g4, g12, g13, hgt', wk0, wk1, wk2, wk3, wk4, wk5, X_region, X_seq, X_block, X_loop, X_cond, Y_box, Y_un, Y_store, Y_append, Y_makeMap, Y_buildSlice, ibin_shl, ibin_shr, ibin_and, List.set_cons_zero, List.set_cons_succ, List.getD_cons_zero, List.getD_cons_succ, List.map_cons, List.map_nil, ↓reduceIte, reduceCtorEq, oneCell, List.length_cons, List.length_nil, setAt, readN, bne_iff_ne, ne_eq, Nat.reduceAdd, Nat.reduceLeDiff, List.getElem?_cons_zero, List.getElem?_cons_succ, Nat.reduceMul, Option.isSome_some, layAt, Nat.reduceLT, Option.isNone_some, Option.isNone_none, beq_self_eq_true, Nat.reduceEqDiff, setParams, Int.reduceLT, Int.reduceLE, Int.reduceGT, Int.reduceGE, Int.reduceEq, Int.reduceNe, Option.map_some, Option.map_none, Option.isSome_none]
    have r1 := rdA O (k := i) (by omega)
    have r2 := rdA O (k := j) (by omega)
    obtain ⟨k1, k2, w1, w2, O4⟩ := swA O (i := i) (j := j) (by omega) (by omega)
    have c1 : (0 : Int) ≤ ((i : Nat) : Int) := by omega
    have c2 : ((i : Nat) : Int) < (m : Int) := by omega
    have c3 : (0 : Int) ≤ ((j : Nat) : Int) := by omega
    have c4 : ((j : Nat) : Int) < (m : Int) := by omega
    refine X_drawn _ fun an => ?_
    simp (disch := first | assumption | omega | (simp only [wkD, oneCell, Option.isSome_some, *]; done) | (simp only [wkE, ne_eq]; omega)) only [g0, g1, g4, g12, g13, y3, y4, r1, r2, w1, w2, c1, c2, c3, c4, Int.toNat_natCast, agg_ic, iv_cells, ic_len, wk0, wk1, wk2, wk3, wk4, wk5, X_region, X_seq, X_block, X_loop, X_cond, Y_box, Y_un, Y_store, Y_append, Y_makeMap, Y_buildSlice, ibin_shl, ibin_shr, ibin_and, List.set_cons_zero, List.set_cons_succ, List.getD_cons_zero, List.getD_cons_succ, List.map_cons, List.map_nil, ↓reduceIte, reduceCtorEq, oneCell, List.length_cons, List.length_nil, setAt, readN, bne_iff_ne, ne_eq, Nat.reduceAdd, Nat.reduceLeDiff, List.getElem?_cons_zero, List.getElem?_cons_succ, Nat.reduceMul, Option.isSome_some, layAt, Nat.reduceLT, Option.isNone_some, Option.isNone_none, beq_self_eq_true, Nat.reduceEqDiff, setParams, Int.reduceLT, Int.reduceLE, Int.reduceGT, Int.reduceGE, Int.reduceEq, Int.reduceNe, Option.map_some, Option.map_none, Option.isSome_none]
    replace O := O4
    clear r1 r2 w1 w2 c1 c2 c3 c4 O4
    have hs1 : (Sort.swp d0 i j).size = m := by rw [Sort.size_swp]; exact hs0
    generalize Sort.swp d0 i j = d1 at O hs1 ⊢
    have hrr : ∀ r, r = Sort.partLoop ltI lo (i + 1) (j - 1) d1 → r.1 < m → (lo : Nat) ≤ r.1 → r.2.size = m → True := fun _ _ _ _ _ => trivial
    refine L_cut1 (fun s => s.tmps.length = 178 ∧ s.tmps.getD 0 undefV = .slice (some ⟨b, 0, sp⟩) m cap ∧ s.tmps.getD 1 undefV = .int .i64 (lo : Int) ∧ s.tmps.getD 13 undefV = .int .i64 ((Sort.partLoop ltI lo (i + 1) (j - 1) d1).1 : Int) ∧ Has ro s.h (Ar b (Sort.partLoop ltI lo (i + 1) (j - 1) d1).2 rest zz t :: R) ∧ (Sort.partLoop ltI lo (i + 1) (j - 1) d1).1 < m ∧ (Sort.partLoop ltI lo (i + 1) (j - 1) d1).2.size = m) ?_ ?_
    · refine L_is (fun q s => ∃ (i0 j0 : Nat) (d2 : Array It), s.defers = [] ∧ s.tmps.length = 178 ∧ s.tmps.getD 0 undefV = .slice (some ⟨b, 0, sp⟩) m cap ∧ s.tmps.getD 1 undefV = .int .i64 (lo : Int) ∧ s.tmps.getD 4 undefV = .func (.func 27) #[] #[] ∧ s.tmps.getD 12 undefV = .int .i64 (i0 : Int) ∧ s.tmps.getD 13 undefV = .int .i64 (j0 : Int) ∧ q = j0 + 1 - i0 ∧ lo + 1 ≤ i0 ∧ i0 ≤ j0 + 1 ∧ j0 < hi ∧ d2.size = m ∧ Has ro s.h (Ar b d2 rest zz t :: R) ∧ Sort.partLoop ltI lo i0 j0 d2 = Sort.partLoop ltI lo (i + 1) (j - 1) d1) (j - 1 + 1 - (i + 1)) ?_ (by omega) ?_
      · exact ⟨i + 1, j - 1, d1, rfl, rfl, rfl, rfl, rfl, rfl, rfl, rfl, by omega, by omega, by omega, hs1, O, rfl⟩
      clear O g0 g1 g4 g12 g13
      rintro q tm df h3 ⟨i0, j0, d2, hd, hlen_, g0, g1, g4, g12, g13, hq, p1, p2, p3, hs2, O, hE⟩
      simp only at hd g0 g1 g4 g12 g13 O
      subst hd
      obtain ⟨w, hg_, rfl⟩ := explode hlen_
      simp only [hg_] at g0 g1 g4 g12 g13
      clear hlen_ hg_
      rw [Sort.partLoop_eq] at hE
      simp (disch := first | assumption | omega | (simp only [wkD, oneCell, Option.isSome_some, *]; done) | (simp only [wkE, ne_eq]; omega)) only [g0, g1, g4, g12, g13, wk0, wk1, wk2, wk3, wk4, wk5, X_region, X_seq, X_block, X_loop, X_cond, Y_box, Y_un, Y_store, Y_append, Y_makeMap, Y_buildSlice, ibin_shl, ibin_shr, ibin_and, List.set_cons_zero, List.set_cons_succ, List.getD_cons_zero, List.getD_cons_succ, List.map_cons, List.map_nil, ↓reduceIte, reduceCtorEq, oneCell, List.length_cons, List.length_nil, setAt, readN, bne_iff_ne, ne_eq, Nat.reduceAdd, Nat.reduceLeDiff, List.getElem?_cons_zero, List.getElem?_cons_succ, Nat.reduceMul, Option.isSome_some, layAt, Nat.reduceLT, Option.isNone_some, Option.isNone_none, beq_self_eq_true, Nat.reduceEqDiff, setParams, Int.reduceLT, Int.reduceLE, Int.reduceGT, Int.reduceGE, Int.reduceEq, Int.reduceNe, Option.map_some, Option.map_none, Option.isSome_none]
      refine L_cut1 (fun s => s.tmps.length = 178 ∧ s.tmps.getD 0 undefV = .slice (some ⟨b, 0, sp⟩) m cap ∧ s.tmps.getD 1 undefV = .int .i64 ((lo : Nat) : Int) ∧ s.tmps.getD 4 undefV = .func (.func 27) #[] #[] ∧ s.tmps.getD 12 undefV = .int .i64 ((Sort.scanUp (fun x => ltI x d2[lo]!) d2 j0 i0 : Nat) : Int) ∧ s.tmps.getD 13 undefV = .int .i64 ((j0 : Nat) : Int) ∧ Has ro s.h (Ar b d2 rest zz t :: R)) ?_ ?_
      · refine L_is (fun q s => ∃ (i2 : Nat), s.defers = [] ∧ s.tmps.length = 178 ∧ s.tmps.getD 0 undefV = .slice (some ⟨b, 0, sp⟩) m cap ∧ s.tmps.getD 1 undefV = .int .i64 ((lo : Nat) : Int) ∧ s.tmps.getD 4 undefV = .func (.func 27) #[] #[] ∧ s.tmps.getD 12 undefV = .int .i64 ((i2 : Nat) : Int) ∧ s.tmps.getD 13 undefV = .int .i64 ((j0 : Nat) : Int) ∧ q = j0 + 1 - i2 ∧ i0 ≤ i2 ∧ i2 ≤ j0 + 1 ∧ Has ro s.h (Ar b d2 rest zz t :: R) ∧ Sort.scanUp (fun x => ltI x d2[lo]!) d2 j0 i2 = Sort.scanUp (fun x => ltI x d2[lo]!) d2 j0 i0) (j0 + 1 - i0) ?_ (by omega) ?_
        · exact ⟨i0, rfl, rfl, rfl, rfl, rfl, rfl, rfl, rfl, by omega, by omega, O, rfl⟩
        clear O g0 g1 g4 g12 g13
        rintro q tm df h7 ⟨i2, hd, hlen_, g0, g1, g4, g12, g13, hq, q1, q2, O, hE⟩
        simp only at hd g0 g1 g4 g12 g13 O
        subst hd
        obtain ⟨w, hg_, rfl⟩ := explode hlen_
        simp only [hg_] at g0 g1 g4 g12 g13
        clear hlen_ hg_
        have r1 := rdA O (k := lo) (by omega)
        have c1 : (0 : Int) ≤ (lo : Int) := by omega
        have c2 : (lo : Int) < (m : Int) := by omega
        simp (disch := first | assumption | omega | (simp only [wkD, oneCell, Option.isSome_some, *]; done) | (simp only [wkE, ne_eq]; omega)) only [g0, g1, g4, g12, g13, wk0, wk1, wk2, wk3, wk4, wk5, X_region, X_seq, X_block, X_loop, X_cond, Y_box, Y_un, Y_store, Y_append, Y_makeMap, Y_buildSlice, ibin_shl, ibin_shr, ibin_and, List.set_cons_zero, List.set_cons_succ, List.getD_cons_zero, List.getD_cons_succ, List.map_cons, List.map_nil, ↓reduceIte, reduceCtorEq, oneCell, List.length_cons, List.length_nil, setAt, readN, bne_iff_ne, ne_eq, Nat.reduceAdd, Nat.reduceLeDiff, List.getElem?_cons_zero, List.getElem?_cons_succ, Nat.reduceMul, Option.isSome_some, layAt, Nat.reduceLT, Option.isNone_some, Option.isNone_none, beq_self_eq_true, Nat.reduceEqDiff, setParams, Int.reduceLT, Int.reduceLE, Int.reduceGT, Int.reduceGE, Int.reduceEq, Int.reduceNe, Option.map_some, Option.map_none, Option.isSome_none]
        refine X_drawn _ fun an => ?_
        by_cases hij : i2 ≤ j0
        · have hij' : (i2 : Int) ≤ ((j0 : Nat) : Int) := by omega
          have y9 : IntKind.i64.wrap ((i2 : Int) + 1) = ((i2 + 1 : Nat) : Int) := by rw [wrap_i64 (by omega) (by omega)]; omega
          have r2 := rdA O (k := i2) (by omega)
          have c3 : (0 : Int) ≤ (i2 : Int) := by omega
          have c4 : (i2 : Int) < (m : Int) := by omega
          simp (disch := first | assumption | omega | (simp only [wkD, oneCell, Option.isSome_some, *]; done) | (simp only [wkE, ne_eq]; omega)) only [g0, g1, g4, g12, g13, hij', r1, r2, c1, c2, c3, c4, Int.toNat_natCast, agg_ic, wk0, wk1, wk2, wk3, wk4, wk5, X_region, X_seq, X_block, X_loop, X_cond, Y_box, Y_un, Y_store, Y_append, Y_makeMap, Y_buildSlice, ibin_shl, ibin_shr, ibin_and, List.set_cons_zero, List.set_cons_succ, List.getD_cons_zero, List.getD_cons_succ, List.map_cons, List.map_nil, ↓reduceIte, reduceCtorEq, oneCell, List.length_cons, List.length_nil, setAt, readN, bne_iff_ne, ne_eq, Nat.reduceAdd, Nat.reduceLeDiff, List.getElem?_cons_zero, List.getElem?_cons_succ, Nat.reduceMul, Option.isSome_some, layAt, Nat.reduceLT, Option.isNone_some, Option.isNone_none, beq_self_eq_true, Nat.reduceEqDiff, setParams, Int.reduceLT, Int.reduceLE, Int.reduceGT, Int.reduceGE, Int.reduceEq, Int.reduceNe, Option.map_some, Option.map_none, Option.isSome_none]
          refine DB_is (cmp_ok (n := n) (by omega) O.fine d2[i2]! d2[lo]!) ?_
          rintro v8 h8 ⟨rfl, e8⟩
          simp only at e8
          replace O := O.ext e8
          by_cases hc : cmpI d2[i2]! d2[lo]! < 0
          · simp (disch := first | assumption | omega | (simp only [wkD, oneCell, Option.isSome_some, *]; done) | (simp only [wkE, ne_eq]; omega)) only [hc, y9, wk0, wk1, wk2, wk3, wk4, wk5, X_region, X_seq, X_block, X_loop, X_cond, Y_box, Y_un, Y_store, Y_append, Y_makeMap, Y_buildSlice, ibin_shl, ibin_shr, ibin_and, List.set_cons_zero, List.set_cons_succ, List.getD_cons_zero, List.getD_cons_succ, List.map_cons, List.map_nil, ↓reduceIte, reduceCtorEq, oneCell, List.length_cons, List.length_nil, setAt, readN, bne_iff_ne, ne_eq, Nat.reduceAdd, Nat.reduceLeDiff, List.getElem?_cons_zero, List.getElem?_cons_succ, Nat.reduceMul, Option.isSome_some, layAt, Nat.reduceLT, Option.isNone_some, Option.isNone_none, beq_self_eq_true, Nat.reduceEqDiff, setParams, Int.reduceLT, Int.reduceLE, Int.reduceGT, Int.reduceGE, Int.reduceEq, Int.reduceNe, Option.map_some, Option.map_none, Option.isSome_none]
            exact Is_in ⟨j0 + 1 - (i2 + 1), by omega, i2 + 1, rfl, rfl, rfl, rfl, rfl, rfl, rfl, rfl, by omega, by omega, O, by rw [← hE]; exact (su_go hij (decide_eq_true hc)).symm⟩
          · simp (disch := first | assumption | omega | (simp only [wkD, oneCell, Option.isSome_some, *]; done) | (simp only [wkE, ne_eq]; omega)) only [hc, wk0, wk1, wk2, wk3, wk4, wk5, X_region, X_seq, X_block, X_loop, X_cond, Y_box, Y_un, Y_store, Y_append, Y_makeMap, Y_buildSlice, ibin_shl, ibin_shr, ibin_and, List.set_cons_zero, List.set_cons_succ, List.getD_cons_zero, List.getD_cons_succ, List.map_cons, List.map_nil, ↓reduceIte, reduceCtorEq, oneCell, List.length_cons, List.length_nil, setAt, readN, bne_iff_ne, ne_eq, Nat.reduceAdd, Nat.reduceLeDiff, List.getElem?_cons_zero, List.getElem?_cons_succ, Nat.reduceMul, Option.isSome_some, layAt, Nat.reduceLT, Option.isNone_some, Option.isNone_none, beq_self_eq_true, Nat.reduceEqDiff, setParams, Int.reduceLT, Int.reduceLE, Int.reduceGT, Int.reduceGE, Int.reduceEq, Int.reduceNe, Option.map_some, Option.map_none, Option.isSome_none]
            refine Is_in ?_
            simp (disch := first | assumption | omega | (simp only [wkD, oneCell, Option.isSome_some, *]; done) | (simp only [wkE, ne_eq]; omega)) only [wk0, wk1, wk2, wk3, wk4, wk5, X_region, X_seq, X_block, X_loop, X_cond, Y_box, Y_un, Y_store, Y_append, Y_makeMap, Y_buildSlice, ibin_shl, ibin_shr, ibin_and, List.set_cons_zero, List.set_cons_succ, List.getD_cons_zero, List.getD_cons_succ, List.map_cons, List.map_nil, ↓reduceIte, reduceCtorEq, oneCell, List.length_cons, List.length_nil, setAt, readN, bne_iff_ne, ne_eq, Nat.reduceAdd, Nat.reduceLeDiff, List.getElem?_cons_zero, List.getElem?_cons_succ, Nat.reduceMul, Option.isSome_some, layAt, Nat.reduceLT, Option.isNone_some, Option.isNone_none, beq_self_eq_true, Nat.reduceEqDiff, setParams, Int.reduceLT, Int.reduceLE, Int.reduceGT, Int.reduceGE, Int.reduceEq, Int.reduceNe, Option.map_some, Option.map_none, Option.isSome_none]
            exact mid_in ⟨rfl, rfl, rfl, rfl, by rw [← hE, su_stop (fun e => hc (of_decide_eq_true e.2))]; rfl, rfl, O⟩
        · have hij' : ¬ (i2 : Int) ≤ ((j0 : Nat) : Int) := by omega
          simp (disch := first | assumption | omega | (simp only [wkD, oneCell, Option.isSome_some, *]; done) | (simp only [wkE, ne_eq]; omega)) only [g0, g1, g4, g12, g13, hij', wk0, wk1, wk2, wk3, wk4, wk5, X_region, X_seq, X_block, X_loop, X_cond, Y_box, Y_un, Y_store, Y_append, Y_makeMap, Y_buildSlice, ibin_shl, ibin_shr, ibin_and, List.set_cons_zero, List.set_cons_succ, List.getD_cons_zero, List.getD_cons_succ, List.map_cons, List.map_nil, ↓reduceIte, reduceCtorEq, oneCell, List.length_cons, List.length_nil, setAt, readN, bne_iff_ne, ne_eq, Nat.reduceAdd, Nat.reduceLeDiff, List.getElem?_cons_zero, List.getElem?_cons_succ, Nat.reduceMul, Option.isSome_some, layAt, Nat.reduceLT, Option.isNone_some, Option.isNone_none, beq_self_eq_true, Nat.reduceEqDiff, setParams, Int.reduceLT, Int.reduceLE, Int.reduceGT, Int.reduceGE, Int.reduceEq, Int.reduceNe, Option.map_some, Option.map_none, Option.isSome_none]
          refine Is_in ?_
          simp (disch := first | assumption | omega | (simp only [wkD, oneCell, Option.isSome_some, *]; done) | (simp only [wkE, ne_eq]; omega)) only [wk0, wk1, wk2, wk3, wk4, wk5, X_region, X_seq, X_block, X_loop, X_cond, Y_box, Y_un, Y_store, Y_append, Y_makeMap, Y_buildSlice, ibin_shl, ibin_shr, ibin_and, List.set_cons_zero, List.set_cons_succ, List.getD_cons_zero, List.getD_cons_succ, List.map_cons, List.map_nil, ↓reduceIte, reduceCtorEq, oneCell, List.length_cons, List.length_nil, setAt, readN, bne_iff_ne, ne_eq, Nat.reduceAdd, Nat.reduceLeDiff, List.getElem?_cons_zero, List.getElem?_cons_succ, Nat.reduceMul, Option.isSome_some, layAt, Nat.reduceLT, Option.isNone_some, Option.isNone_none, beq_self_eq_true, Nat.reduceEqDiff, setParams, Int.reduceLT, Int.reduceLE, Int.reduceGT, Int.reduceGE, Int.reduceEq, Int.reduceNe, Option.map_some, Option.map_none, Option.isSome_none]
          exact mid_in ⟨rfl, rfl, rfl, rfl, by rw [← hE, su_stop (fun e => hij e.1)]; rfl, rfl, O⟩
      clear O g0 g1 g4 g12 g13
      rintro tm h2 ⟨hlen_, g0, g1, g4, g12, g13, O⟩
      simp only at g0 g1 g4 g12 g13 O
      obtain ⟨w, hg_, rfl⟩ := explode hlen_
      simp only [hg_] at g0 g1 g4 g12 g13
      clear hlen_ hg_

      have b5 := Sort.scanUp_ge (fun x => ltI x d2[lo]!) d2 j0 i0
      have b6 := (Sort.scanUp_spec (fun x => ltI x d2[lo]!) d2 j0 _ i0 rfl).2.1
      have hlt := scan_lt (p := fun x => ltI x d2[lo]!) (q := fun x => !ltI x d2[lo]!) (fun x => rfl) (d := d2) (i := i0) (j := j0) (by omega)
      generalize Sort.scanUp (fun x => ltI x d2[lo]!) d2 j0 i0 = ia at hlt b5 b6 hE g0 g1 g4 g12 g13 ⊢
      simp (disch := first | assumption | omega | (simp only [wkD, oneCell, Option.isSome_some, *]; done) | (simp only [wkE, ne_eq]; omega)) only [g0, g1, g4, g12, g13, wk0, wk1, wk2, wk3, wk4, wk5, X_region, X_seq, X_block, X_loop, X_cond, Y_box, Y_un, Y_store, Y_append, Y_makeMap, Y_buildSlice, ibin_shl, ibin_shr, ibin_and, List.set_cons_zero, List.set_cons_succ, List.getD_cons_zero, List.getD_cons_succ, List.map_cons, List.map_nil, ↓reduceIte, reduceCtorEq, oneCell, List.length_cons, List.length_nil, setAt, readN, bne_iff_ne, ne_eq, Nat.reduceAdd, Nat.reduceLeDiff, List.getElem?_cons_zero, List.getElem?_cons_succ, Nat.reduceMul, Option.isSome_some, layAt, Nat.reduceLT, Option.isNone_some, Option.isNone_none, beq_self_eq_true, Nat.reduceEqDiff, setParams, Int.reduceLT, Int.reduceLE, Int.reduceGT, Int.reduceGE, Int.reduceEq, Int.reduceNe, Option.map_some, Option.map_none, Option.isSome_none]
      refine L_cut1 (fun s => s.tmps.length = 178 ∧ s.tmps.getD 0 undefV = .slice (some ⟨b, 0, sp⟩) m cap ∧ s.tmps.getD 1 undefV = .int .i64 ((lo : Nat) : Int) ∧ s.tmps.getD 4 undefV = .func (.func 27) #[] #[] ∧ s.tmps.getD 12 undefV = .int .i64 ((ia : Nat) : Int) ∧ s.tmps.getD 13 undefV = .int .i64 ((Sort.scanDown (fun x => !ltI x d2[lo]!) d2 ia j0 : Nat) : Int) ∧ Has ro s.h (Ar b d2 rest zz t :: R)) ?_ ?_
      · refine L_is (fun q s => ∃ (j2 : Nat), s.defers = [] ∧ s.tmps.length = 178 ∧ s.tmps.getD 0 undefV = .slice (some ⟨b, 0, sp⟩) m cap ∧ s.tmps.getD 1 undefV = .int .i64 ((lo : Nat) : Int) ∧ s.tmps.getD 4 undefV = .func (.func 27) #[] #[] ∧ s.tmps.getD 12 undefV = .int .i64 ((ia : Nat) : Int) ∧ s.tmps.getD 13 undefV = .int .i64 ((j2 : Nat) : Int) ∧ q = j2 ∧ ia ≤ j2 + 1 ∧ j2 ≤ j0 ∧ Has ro s.h (Ar b d2 rest zz t :: R) ∧ Sort.scanDown (fun x => !ltI x d2[lo]!) d2 ia j2 = Sort.scanDown (fun x => !ltI x d2[lo]!) d2 ia j0) (j0) ?_ (by omega) ?_
        · exact ⟨j0, rfl, rfl, rfl, rfl, rfl, rfl, rfl, rfl, by omega, by omega, O, rfl⟩
        clear O g0 g1 g4 g12 g13
        rintro q tm df h7 ⟨j2, hd, hlen_, g0, g1, g4, g12, g13, hq, q1, q2, O, hE⟩
        simp only at hd g0 g1 g4 g12 g13 O
        subst hd
        obtain ⟨w, hg_, rfl⟩ := explode hlen_
        simp only [hg_] at g0 g1 g4 g12 g13
        clear hlen_ hg_
        have r1 := rdA O (k := lo) (by omega)
        have c1 : (0 : Int) ≤ (lo : Int) := by omega
        have c2 : (lo : Int) < (m : Int) := by omega
        simp (disch := first | assumption | omega | (simp only [wkD, oneCell, Option.isSome_some, *]; done) | (simp only [wkE, ne_eq]; omega)) only [g0, g1, g4, g12, g13, wk0, wk1, wk2, wk3, wk4, wk5, X_region, X_seq, X_block, X_loop, X_cond, Y_box, Y_un, Y_store, Y_append, Y_makeMap, Y_buildSlice, ibin_shl, ibin_shr, ibin_and, List.set_cons_zero, List.set_cons_succ, List.getD_cons_zero, List.getD_cons_succ, List.map_cons, List.map_nil, ↓reduceIte, reduceCtorEq, oneCell, List.length_cons, List.length_nil, setAt, readN, bne_iff_ne, ne_eq, Nat.reduceAdd, Nat.reduceLeDiff, List.getElem?_cons_zero, List.getElem?_cons_succ, Nat.reduceMul, Option.isSome_some, layAt, Nat.reduceLT, Option.isNone_some, Option.isNone_none, beq_self_eq_true, Nat.reduceEqDiff, setParams, Int.reduceLT, Int.reduceLE, Int.reduceGT, Int.reduceGE, Int.reduceEq, Int.reduceNe, Option.map_some, Option.map_none, Option.isSome_none]
        refine X_drawn _ fun an => ?_
        by_cases hij : ia ≤ j2
        · have hij' : ((ia : Nat) : Int) ≤ (j2 : Int) := by omega
          have y9 : IntKind.i64.wrap ((j2 : Int) - 1) = ((j2 - 1 : Nat) : Int) := by rw [wrap_i64 (by omega) (by omega)]; omega
          have r2 := rdA O (k := j2) (by omega)
          have c3 : (0 : Int) ≤ (j2 : Int) := by omega
          have c4 : (j2 : Int) < (m : Int) := by omega
          simp (disch := first | assumption | omega | (simp only [wkD, oneCell, Option.isSome_some, *]; done) | (simp only [wkE, ne_eq]; omega)) only [g0, g1, g4, g12, g13, hij', r1, r2, c1, c2, c3, c4, Int.toNat_natCast, agg_ic, wk0, wk1, wk2, wk3, wk4, wk5, X_region, X_seq, X_block, X_loop, X_cond, Y_box, Y_un, Y_store, Y_append, Y_makeMap, Y_buildSlice, ibin_shl, ibin_shr, ibin_and, List.set_cons_zero, List.set_cons_succ, List.getD_cons_zero, List.getD_cons_succ, List.map_cons, List.map_nil, ↓reduceIte, reduceCtorEq, oneCell, List.length_cons, List.length_nil, setAt, readN, bne_iff_ne, ne_eq, Nat.reduceAdd, Nat.reduceLeDiff, List.getElem?_cons_zero, List.getElem?_cons_succ, Nat.reduceMul, Option.isSome_some, layAt, Nat.reduceLT, Option.isNone_some, Option.isNone_none, beq_self_eq_true, Nat.reduceEqDiff, setParams, Int.reduceLT, Int.reduceLE, Int.reduceGT, Int.reduceGE, Int.reduceEq, Int.reduceNe, Option.map_some, Option.map_none, Option.isSome_none]
          refine DB_is (cmp_ok (n := n) (by omega) O.fine d2[j2]! d2[lo]!) ?_
          rintro v8 h8 ⟨rfl, e8⟩
          simp only at e8
          replace O := O.ext e8
          by_cases hc : cmpI d2[j2]! d2[lo]! < 0
          · simp (disch := first | assumption | omega | (simp only [wkD, oneCell, Option.isSome_some, *]; done) | (simp only [wkE, ne_eq]; omega)) only [hc, wk0, wk1, wk2, wk3, wk4, wk5, X_region, X_seq, X_block, X_loop, X_cond, Y_box, Y_un, Y_store, Y_append, Y_makeMap, Y_buildSlice, ibin_shl, ibin_shr, ibin_and, List.set_cons_zero, List.set_cons_succ, List.getD_cons_zero, List.getD_cons_succ, List.map_cons, List.map_nil, ↓reduceIte, reduceCtorEq, oneCell, List.length_cons, List.length_nil, setAt, readN, bne_iff_ne, ne_eq, Nat.reduceAdd, Nat.reduceLeDiff, List.getElem?_cons_zero, List.getElem?_cons_succ, Nat.reduceMul, Option.isSome_some, layAt, Nat.reduceLT, Option.isNone_some, Option.isNone_none, beq_self_eq_true, Nat.reduceEqDiff, setParams, Int.reduceLT, Int.reduceLE, Int.reduceGT, Int.reduceGE, Int.reduceEq, Int.reduceNe, Option.map_some, Option.map_none, Option.isSome_none]
            refine Is_in ?_
            simp (disch := first | assumption | omega | (simp only [wkD, oneCell, Option.isSome_some, *]; done) | (simp only [wkE, ne_eq]; omega)) only [wk0, wk1, wk2, wk3, wk4, wk5, X_region, X_seq, X_block, X_loop, X_cond, Y_box, Y_un, Y_store, Y_append, Y_makeMap, Y_buildSlice, ibin_shl, ibin_shr, ibin_and, List.set_cons_zero, List.set_cons_succ, List.getD_cons_zero, List.getD_cons_succ, List.map_cons, List.map_nil, ↓reduceIte, reduceCtorEq, oneCell, List.length_cons, List.length_nil, setAt, readN, bne_iff_ne, ne_eq, Nat.reduceAdd, Nat.reduceLeDiff, List.getElem?_cons_zero, List.getElem?_cons_succ, Nat.reduceMul, Option.isSome_some, layAt, Nat.reduceLT, Option.isNone_some, Option.isNone_none, beq_self_eq_true, Nat.reduceEqDiff, setParams, Int.reduceLT, Int.reduceLE, Int.reduceGT, Int.reduceGE, Int.reduceEq, Int.reduceNe, Option.map_some, Option.map_none, Option.isSome_none]
            exact mid_in ⟨rfl, rfl, rfl, rfl, rfl, by rw [← hE, sd_stop (fun e => by have := e.2; rw [show ltI d2[j2]! d2[lo]! = true from decide_eq_true hc] at this; cases this)]; rfl, O⟩
          · simp (disch := first | assumption | omega | (simp only [wkD, oneCell, Option.isSome_some, *]; done) | (simp only [wkE, ne_eq]; omega)) only [hc, y9, wk0, wk1, wk2, wk3, wk4, wk5, X_region, X_seq, X_block, X_loop, X_cond, Y_box, Y_un, Y_store, Y_append, Y_makeMap, Y_buildSlice, ibin_shl, ibin_shr, ibin_and, List.set_cons_zero, List.set_cons_succ, List.getD_cons_zero, List.getD_cons_succ, List.map_cons, List.map_nil, ↓reduceIte, reduceCtorEq, oneCell, List.length_cons, List.length_nil, setAt, readN, bne_iff_ne, ne_eq, Nat.reduceAdd, Nat.reduceLeDiff, List.getElem?_cons_zero, List.getElem?_cons_succ, Nat.reduceMul, Option.isSome_some, layAt, Nat.reduceLT, Option.isNone_some, Option.isNone_none, beq_self_eq_true, Nat.reduceEqDiff, setParams, Int.reduceLT, Int.reduceLE, Int.reduceGT, Int.reduceGE, Int.reduceEq, Int.reduceNe, Option.map_some, Option.map_none, Option.isSome_none]
            exact Is_in ⟨j2 - 1, by omega, j2 - 1, rfl, rfl, rfl, rfl, rfl, rfl, rfl, rfl, by omega, by omega, O, by rw [← hE]; exact (sd_go hij (by omega) ((by rw [show ltI d2[j2]! d2[lo]! = false from decide_eq_false hc]; rfl))).symm⟩
        · have hij' : ¬ ((ia : Nat) : Int) ≤ (j2 : Int) := by omega
          simp (disch := first | assumption | omega | (simp only [wkD, oneCell, Option.isSome_some, *]; done) | (simp only [wkE, ne_eq]; omega)) only [g0, g1, g4, g12, g13, hij', wk0, wk1, wk2, wk3, wk4, wk5, X_region, X_seq, X_block, X_loop, X_cond, Y_box, Y_un, Y_store, Y_append, Y_makeMap, Y_buildSlice, ibin_shl, ibin_shr, ibin_and, List.set_cons_zero, List.set_cons_succ, List.getD_cons_zero, List.getD_cons_succ, List.map_cons, List.map_nil, ↓reduceIte, reduceCtorEq, oneCell, List.length_cons, List.length_nil, setAt, readN, bne_iff_ne, ne_eq, Nat.reduceAdd, Nat.reduceLeDiff, List.getElem?_cons_zero, List.getElem?_cons_succ, Nat.reduceMul, Option.isSome_some, layAt, Nat.reduceLT, Option.isNone_some, Option.isNone_none, beq_self_eq_true, Nat.reduceEqDiff, setParams, Int.reduceLT, Int.reduceLE, Int.reduceGT, Int.reduceGE, Int.reduceEq, Int.reduceNe, Option.map_some, Option.map_none, Option.isSome_none]
          refine Is_in ?_
          simp (disch := first | assumption | omega | (simp only [wkD, oneCell, Option.isSome_some, *]; done) | (simp only [wkE, ne_eq]; omega)) only [wk0, wk1, wk2, wk3, wk4, wk5, X_region, X_seq, X_block, X_loop, X_cond, Y_box, Y_un, Y_store, Y_append, Y_makeMap, Y_buildSlice, ibin_shl, ibin_shr, ibin_and, List.set_cons_zero, List.set_cons_succ, List.getD_cons_zero, List.getD_cons_succ, List.map_cons, List.map_nil, ↓reduceIte, reduceCtorEq, oneCell, List.length_cons, List.length_nil, setAt, readN, bne_iff_ne, ne_eq, Nat.reduceAdd, Nat.reduceLeDiff, List.getElem?_cons_zero, List.getElem?_cons_succ, Nat.reduceMul, Option.isSome_some, layAt, Nat.reduceLT, Option.isNone_some, Option.isNone_none, beq_self_eq_true, Nat.reduceEqDiff, setParams, Int.reduceLT, Int.reduceLE, Int.reduceGT, Int.reduceGE, Int.reduceEq, Int.reduceNe, Option.map_some, Option.map_none, Option.isSome_none]
          exact mid_in ⟨rfl, rfl, rfl, rfl, rfl, by rw [← hE, sd_stop (fun e => hij e.1)]; rfl, O⟩
      clear O g0 g1 g4 g12 g13
      rintro tm h2 ⟨hlen_, g0, g1, g4, g12, g13, O⟩
      simp only at g0 g1 g4 g12 g13 O
      obtain ⟨w, hg_, rfl⟩ := explode hlen_
      simp only [hg_] at g0 g1 g4 g12 g13
      clear hlen_ hg_

      have b7 := Sort.scanDown_le (fun x => !ltI x d2[lo]!) d2 ia j0
      have b8 := sd_low (p := fun x => !ltI x d2[lo]!) (d := d2) (i := ia) (j := j0) (by omega)
      generalize Sort.scanDown (fun x => !ltI x d2[lo]!) d2 ia j0 = ja at hlt b7 b8 hE g0 g1 g4 g12 g13 ⊢
      by_cases hgt : ja < ia
      · have hgt' : (ja : Int) < (ia : Int) := by omega
        rw [if_pos (show ia > ja from hgt)] at hE
        simp (disch := first | assumption | omega | (simp only [wkD, oneCell, Option.isSome_some, *]; done) | (simp only [wkE, ne_eq]; omega)) only [g0, g1, g4, g12, g13, hgt', wk0, wk1, wk2, wk3, wk4, wk5, X_region, X_seq, X_block, X_loop, X_cond, Y_box, Y_un, Y_store, Y_append, Y_makeMap, Y_buildSlice, ibin_shl, ibin_shr, ibin_and, List.set_cons_zero, List.set_cons_succ, List.getD_cons_zero, List.getD_cons_succ, List.map_cons, List.map_nil, ↓reduceIte, reduceCtorEq, oneCell, List.length_cons, List.length_nil, setAt, readN, bne_iff_ne, ne_eq, Nat.reduceAdd, Nat.reduceLeDiff, List.getElem?_cons_zero, List.getElem?_cons_succ, Nat.reduceMul, Option.isSome_some, layAt, Nat.reduceLT, Option.isNone_some, Option.isNone_none, beq_self_eq_true, Nat.reduceEqDiff, setParams, Int.reduceLT, Int.reduceLE, Int.reduceGT, Int.reduceGE, Int.reduceEq, Int.reduceNe, Option.map_some, Option.map_none, Option.isSome_none]
        refine Is_in ?_
        simp (disch := first | assumption | omega | (simp only [wkD, oneCell, Option.isSome_some, *]; done) | (simp only [wkE, ne_eq]; omega)) only [wk0, wk1, wk2, wk3, wk4, wk5, X_region, X_seq, X_block, X_loop, X_cond, Y_box, Y_un, Y_store, Y_append, Y_makeMap, Y_buildSlice, ibin_shl, ibin_shr, ibin_and, List.set_cons_zero, List.set_cons_succ, List.getD_cons_zero, List.getD_cons_succ, List.map_cons, List.map_nil, ↓reduceIte, reduceCtorEq, oneCell, List.length_cons, List.length_nil, setAt, readN, bne_iff_ne, ne_eq, Nat.reduceAdd, Nat.reduceLeDiff, List.getElem?_cons_zero, List.getElem?_cons_succ, Nat.reduceMul, Option.isSome_some, layAt, Nat.reduceLT, Option.isNone_some, Option.isNone_none, beq_self_eq_true, Nat.reduceEqDiff, setParams, Int.reduceLT, Int.reduceLE, Int.reduceGT, Int.reduceGE, Int.reduceEq, Int.reduceNe, Option.map_some, Option.map_none, Option.isSome_none]
        rw [← hE]
        exact mid_in ⟨rfl, rfl, rfl, rfl, O, by show ja < m; omega, hs2⟩
      · have hgt' : ¬ (ja : Int) < (ia : Int) := by omega
        replace hlt := hlt hgt
        rw [if_neg (show ¬ ia > ja from hgt)] at hE
        have y5 : IntKind.i64.wrap ((ia : Int) + 1) = ((ia + 1 : Nat) : Int) := by rw [wrap_i64 (by omega) (by omega)]; omega
        have y6 : IntKind.i64.wrap ((ja : Int) - 1) = ((ja - 1 : Nat) : Int) := by rw [wrap_i64 (by omega) (by omega)]; omega
        simp (disch := first | assumption | omega | (simp only [wkD, oneCell, Option.isSome_some, *]; done) | (simp only [wkE, ne_eq]; omega)) only [g0, g1, g4, g12, g13, hgt', wk0, wk1, wk2, wk3, wk4, wk5, X_region, X_seq, X_block, X_loop, X_cond, Y_box, Y_un, Y_store, Y_append, Y_makeMap, Y_buildSlice, ibin_shl, ibin_shr, ibin_and, List.set_cons_zero, List.set_cons_succ, List.getD_cons_zero, List.getD_cons_succ, List.map_cons, List.map_nil, ↓reduceIte, reduceCtorEq, oneCell, List.length_cons, List.length_nil, setAt, readN, bne_iff_ne, ne_eq, Nat.reduceAdd, Nat.reduceLeDiff, List.getElem?_cons_zero, List.getElem?_cons_succ, Nat.reduceMul, Option.isSome_some, layAt, Nat.reduceLT, Option.isNone_some, Option.isNone_none, beq_self_eq_true, Nat.reduceEqDiff, setParams, Int.reduceLT, Int.reduceLE, Int.reduceGT, Int.reduceGE, Int.reduceEq, Int.reduceNe, Option.map_some, Option.map_none, Option.isSome_none]
        have r1 := rdA O (k := ia) (by omega)
        have r2 := rdA O (k := ja) (by omega)
        obtain ⟨k1, k2, w1, w2, O4⟩ := swA O (i := ia) (j := ja) (by omega) (by omega)
        have c1 : (0 : Int) ≤ ((ia : Nat) : Int) := by omega
        have c2 : ((ia : Nat) : Int) < (m : Int) := by omega
        have c3 : (0 : Int) ≤ ((ja : Nat) : Int) := by omega
        have c4 : ((ja : Nat) : Int) < (m : Int) := by omega
        refine X_drawn _ fun an => ?_
        simp (disch := first | assumption | omega | (simp only [wkD, oneCell, Option.isSome_some, *]; done) | (simp only [wkE, ne_eq]; omega)) only [g0, g1, g4, g12, g13, y5, y6, r1, r2, w1, w2, c1, c2, c3, c4, Int.toNat_natCast, agg_ic, iv_cells, ic_len, wk0, wk1, wk2, wk3, wk4, wk5, X_region, X_seq, X_block, X_loop, X_cond, Y_box, Y_un, Y_store, Y_append, Y_makeMap, Y_buildSlice, ibin_shl, ibin_shr, ibin_and, List.set_cons_zero, List.set_cons_succ, List.getD_cons_zero, List.getD_cons_succ, List.map_cons, List.map_nil, ↓reduceIte, reduceCtorEq, oneCell, List.length_cons, List.length_nil, setAt, readN, bne_iff_ne, ne_eq, Nat.reduceAdd, Nat.reduceLeDiff, List.getElem?_cons_zero, List.getElem?_cons_succ, Nat.reduceMul, Option.isSome_some, layAt, Nat.reduceLT, Option.isNone_some, Option.isNone_none, beq_self_eq_true, Nat.reduceEqDiff, setParams, Int.reduceLT, Int.reduceLE, Int.reduceGT, Int.reduceGE, Int.reduceEq, Int.reduceNe, Option.map_some, Option.map_none, Option.isSome_none]
        replace O := O4
        clear r1 r2 w1 w2 c1 c2 c3 c4 O4
        exact Is_in ⟨ja - 1 + 1 - (ia + 1), by omega, ia + 1, ja - 1, _, rfl, rfl, rfl, rfl, rfl, rfl, rfl, rfl, by omega, by omega, by omega, by rw [Sort.size_swp]; exact hs2, O, hE⟩
    clear O g0 g1 g4 g12 g13
    rintro tm h9 ⟨hlen_, g0, g1, g13, O, p4, p5⟩
    simp only at g0 g1 g13 O
    obtain ⟨w, hg_, rfl⟩ := explode hlen_
    simp only [hg_] at g0 g1 g13
    clear hlen_ hg_
    generalize Sort.partLoop ltI lo (i + 1) (j - 1) d1 = r at O p4 p5 g0 g1 g13 ⊢
    simp (disch := first | assumption | omega | (simp only [wkD, oneCell, Option.isSome_some, *]; done) | (simp only [wkE, ne_eq]; omega)) only [g0, g1, g13, wk0, wk1, wk2, wk3, wk4, wk5, X_region, X_seq, X_block, X_loop, X_cond, Y_box, Y_un, Y_store, Y_append, Y_makeMap, Y_buildSlice, ibin_shl, ibin_shr, ibin_and, List.set_cons_zero, List.set_cons_succ, List.getD_cons_zero, List.getD_cons_succ, List.map_cons, List.map_nil, ↓reduceIte, reduceCtorEq, oneCell, List.length_cons, List.length_nil, setAt, readN, bne_iff_ne, ne_eq, Nat.reduceAdd, Nat.reduceLeDiff, List.getElem?_cons_zero, List.getElem?_cons_succ, Nat.reduceMul, Option.isSome_some, layAt, Nat.reduceLT, Option.isNone_some, Option.isNone_none, beq_self_eq_true, Nat.reduceEqDiff, setParams, Int.reduceLT, Int.reduceLE, Int.reduceGT, Int.reduceGE, Int.reduceEq, Int.reduceNe, Option.map_some, Option.map_none, Option.isSome_none]
    have r1 := rdA O (k := r.1) (by omega)
    have r2 := rdA O (k := lo) (by omega)
    obtain ⟨k1, k2, w1, w2, O4⟩ := swA O (i := r.1) (j := lo) (by omega) (by omega)
    have c1 : (0 : Int) ≤ ((r.1 : Nat) : Int) := by omega
    have c2 : ((r.1 : Nat) : Int) < (m : Int) := by omega
    have c3 : (0 : Int) ≤ ((lo : Nat) : Int) := by omega
    have c4 : ((lo : Nat) : Int) < (m : Int) := by omega
    refine X_drawn _ fun an => ?_
    simp (disch := first | assumption | omega | (simp only [wkD, oneCell, Option.isSome_some, *]; done) | (simp only [wkE, ne_eq]; omega)) only [g0, g1, g13, r1, r2, w1, w2, c1, c2, c3, c4, Int.toNat_natCast, agg_ic, iv_cells, ic_len, wk0, wk1, wk2, wk3, wk4, wk5, X_region, X_seq, X_block, X_loop, X_cond, Y_box, Y_un, Y_store, Y_append, Y_makeMap, Y_buildSlice, ibin_shl, ibin_shr, ibin_and, List.set_cons_zero, List.set_cons_succ, List.getD_cons_zero, List.getD_cons_succ, List.map_cons, List.map_nil, ↓reduceIte, reduceCtorEq, oneCell, List.length_cons, List.length_nil, setAt, readN, bne_iff_ne, ne_eq, Nat.reduceAdd, Nat.reduceLeDiff, List.getElem?_cons_zero, List.getElem?_cons_succ, Nat.reduceMul, Option.isSome_some, layAt, Nat.reduceLT, Option.isNone_some, Option.isNone_none, beq_self_eq_true, Nat.reduceEqDiff, setParams, Int.reduceLT, Int.reduceLE, Int.reduceGT, Int.reduceGE, Int.reduceEq, Int.reduceNe, Option.map_some, Option.map_none, Option.isSome_none]
    replace O := O4
    clear r1 r2 w1 w2 c1 c2 c3 c4 O4
    exact leaf2 ⟨rfl, O, by rw [Sort.size_swp]; exact p5⟩
end Go.Proofs.Ytafaefeekilclaa
