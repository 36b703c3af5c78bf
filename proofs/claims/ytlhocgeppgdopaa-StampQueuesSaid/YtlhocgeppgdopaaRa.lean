/-
  The reference's queue in order: each waiter at the place that those ahead of it leave.
-/
import Derived.Test.YtlhocgeppgdopaaFk
import Derived.Test.YtlhocgeppgdopaaRf
namespace Go.Proofs.Ytlhocgeppgdopaa
open Go Go.Ideal Go.ChangeShapes Go.RowKit
set_option maxHeartbeats 0
set_option linter.unusedSimpArgs false
set_option linter.unusedVariables false
set_option maxRecDepth 100000
attribute [local irreducible] callV T.All T.Is run

def Dist (l : List It) : Prop := ∀ i j, i < j → j < l.length → (nth l i).r ≠ (nth l j).r
def ahd (x : It) (y : It) : Bool := decide (¬ le x y)
theorem nth_mem {l : List It} {k : Nat} (h : k < l.length) : nth l k ∈ l := List.mem_of_getElem? (nth_get h)
theorem mem_nth {l : List It} {x : It} (h : x ∈ l) : ∃ k, k < l.length ∧ nth l k = x := by
  obtain ⟨k, hk, rfl⟩ := List.mem_iff_getElem.1 h
  refine ⟨k, hk, ?_⟩
  have := nth_get hk
  rw [List.getElem?_eq_getElem hk] at this
  exact (Option.some.inj this).symm
theorem le_anti' {x y : It} (h : le x y) (k : le y x) : x = y := by
  obtain ⟨a, b, c⟩ := x
  obtain ⟨d, e, f⟩ := y
  unfold le at h k
  simp only at h k
  have e1 : a = d := by omega
  have e2 : b = e := by omega
  have e3 : c = f := by omega
  rw [e1, e2, e3]
theorem le_refl' (x : It) : le x x := by unfold le; omega
/-- How many stand ahead of one in a list in order. -/
theorem rank_upto {A : List It} (hA : Sorted A 0 A.length) (hd : Dist A) {k : Nat} (hk : k < A.length) : ∀ j, j ≤ A.length → (A.take j).countP (ahd (nth A k)) = min j k
  | 0, _ => by simp
  | j + 1, hj => by
    rw [take_succ_nth (by omega), List.countP_append, rank_upto hA hd hk j (by omega), List.countP_singleton]
    by_cases h : j < k
    · have h1 := hA j k (by omega) h hk
      have : ahd (nth A k) (nth A j) = true := by
        refine decide_eq_true fun h2 => hd j k h hk ?_
        rw [le_anti' h1 h2]
      rw [if_pos this]; omega
    · have : ahd (nth A k) (nth A j) = false := by
        refine decide_eq_false fun h2 => h2 ?_
        by_cases e : j = k
        · subst e; exact le_refl' _
        · exact hA k j (by omega) (by omega) (by omega)
      rw [if_neg (by rw [this]; simp)]; omega
theorem rank_is {A B : List It} (hA : Sorted A 0 A.length) (hd : Dist A) (hc : ∀ y, A.count y = B.count y) {k : Nat} (hk : k < A.length) : B.countP (ahd (nth A k)) = k := by
  have hp : A.Perm B := List.perm_iff_count.2 hc
  rw [← hp.countP_eq]
  have := rank_upto hA hd hk A.length (Nat.le_refl _)
  rw [List.take_length] at this
  omega
theorem flat_rep : ∀ (n : Nat), (List.replicate n [Value.int .i64 0, .int .u64 0, .int .i64 0]).flatten = (List.replicate n it0).flatMap ic
  | 0 => rfl
  | n + 1 => by rw [List.replicate_succ, List.flatten_cons, flat_rep n, List.replicate_succ, List.flatMap_cons]; rfl
theorem list_nth {D A : List It} (hl : D.length = A.length) (h : ∀ k, k < A.length → nth D k = nth A k) : D = A := by
  refine List.ext_getElem? fun k => ?_
  by_cases hk : k < A.length
  · rw [nth_get hk, nth_get (by omega), h k hk]
  · rw [List.getElem?_eq_none (by omega), List.getElem?_eq_none (by omega)]

section
variable {ro : Nat → Option (List Value × Nat)} {h : Heap} {R : List Rs} {qb : Nat} {B l : List It} {v : Value}

theorem rall_h {n : Nat} {A : List It} (hA : Sorted A 0 A.length) (hd : Dist A) (hc : ∀ y, A.count y = B.count y) (hn : B.length + 20 < n) (hl : B.length < 60000) (O : Has ro h (Qs qb B :: R)) :
    (callV env (n + 2) (.func (.func 27) #[] #[]) [.pointer (some ⟨qb, 0, none⟩)] h).Is fun q => Has ro q.2 (Sc 3 ic q.1 A :: Qs qb B :: R) := by
  have hpm : A.Perm B := List.perm_iff_count.2 hc
  have hlen : A.length = B.length := hpm.length_eq
  refine call_is env27 ?_
  obtain ⟨p, c, hcc, hsp, V, O1⟩ := Has.qs O
  have gq := O1.get 0 rfl
  simp (disch := first | assumption | omega | (simp only [wkD, oneCell, Option.isSome_some, *]; done) | (simp only [wkE, ne_eq]; omega)) only [ir27, List.append_nil, List.nil_append, List.cons_append, List.length_cons, List.length_nil, Nat.reduceAdd, Nat.reduceSub, List.replicate_succ, List.replicate_zero, gq, wk0, wk1, wk2, wk3, wk4, wk5, X_region, X_seq, X_block, X_loop, X_cond, Y_box, Y_un, Y_store, Y_append, Y_makeMap, Y_buildSlice, ibin_shl, ibin_shr, ibin_and, List.set_cons_zero, List.set_cons_succ, List.getD_cons_zero, List.getD_cons_succ, List.map_cons, List.map_nil, ↓reduceIte, reduceCtorEq, oneCell, List.length_cons, List.length_nil, setAt, readN, bne_iff_ne, ne_eq, Nat.reduceAdd, Nat.reduceLeDiff, List.getElem?_cons_zero, List.getElem?_cons_succ, Nat.reduceMul, Option.isSome_some, layAt, Nat.reduceLT, Option.isNone_some, Option.isNone_none, beq_self_eq_true, Nat.reduceEqDiff, setParams, Int.reduceLT, Int.reduceLE, Int.reduceGT, Int.reduceGE, Int.reduceEq, Int.reduceNe, Option.map_some, Option.map_none, Option.isSome_none]
  refine Y_makeSliceO O1 (n := B.length) rfl rfl (by unfold roomMost; omega) (by unfold roomMost; omega) ?_
  intro ob h2 O2 e2
  have O3 : Has ro h2 (Sc 3 ic (.slice (some ⟨ob, 0, none⟩) B.length B.length) (List.replicate B.length it0) :: Ob qb (.cells [.slice p B.length c] 1 false) :: Sc 3 ic (.slice p B.length c) B :: R) :=
    Has.scClose (b := ob) (c := B.length) (rest := []) (sp := none) (t := false) (zz := 3) (by rw [List.length_replicate]) (by rw [List.length_replicate]; exact Nat.le_refl _) (by rw [List.length_replicate]; simp) (Or.inr rfl) (by rw [List.append_nil, ← flat_rep]; exact O2)
  clear O O1 O2 V gq e2
  simp (disch := first | assumption | omega | (simp only [wkD, oneCell, Option.isSome_some, *]; done) | (simp only [wkE, ne_eq]; omega)) only [wk0, wk1, wk2, wk3, wk4, wk5, X_region, X_seq, X_block, X_loop, X_cond, Y_box, Y_un, Y_store, Y_append, Y_makeMap, Y_buildSlice, ibin_shl, ibin_shr, ibin_and, List.set_cons_zero, List.set_cons_succ, List.getD_cons_zero, List.getD_cons_succ, List.map_cons, List.map_nil, ↓reduceIte, reduceCtorEq, oneCell, List.length_cons, List.length_nil, setAt, readN, bne_iff_ne, ne_eq, Nat.reduceAdd, Nat.reduceLeDiff, List.getElem?_cons_zero, List.getElem?_cons_succ, Nat.reduceMul, Option.isSome_some, layAt, Nat.reduceLT, Option.isNone_some, Option.isNone_none, beq_self_eq_true, Nat.reduceEqDiff, setParams, Int.reduceLT, Int.reduceLE, Int.reduceGT, Int.reduceGE, Int.reduceEq, Int.reduceNe, Option.map_some, Option.map_none, Option.isSome_none]
  refine L_is (fun q s => ∃ (i : Nat) (D : List It), s.defers = [] ∧ s.tmps.length = 61 ∧ s.tmps.getD 0 undefV = .pointer (some ⟨qb, 0, none⟩) ∧ s.tmps.getD 3 undefV = .slice (some ⟨ob, 0, none⟩) B.length B.length ∧ s.tmps.getD 4 undefV = .int .i64 (i : Int) ∧ q = B.length - i ∧ i ≤ B.length ∧ D.length = B.length ∧ (∀ k, k < A.length → nth A k ∈ B.take i → nth D k = nth A k) ∧ Has ro s.h (Sc 3 ic (.slice (some ⟨ob, 0, none⟩) B.length B.length) D :: Ob qb (.cells [.slice p B.length c] 1 false) :: Sc 3 ic (.slice p B.length c) B :: R)) B.length ?_ (by omega) ?_
  · exact ⟨0, _, rfl, rfl, rfl, rfl, rfl, rfl, by omega, List.length_replicate, fun k _ h => by simp at h, O3⟩
  clear O3
  rintro q_ tm df h3 ⟨i, D, hd, hlen_, g0, g3, g4, hq, hi, hD, hin, O⟩
  simp only at hd g0 g3 g4 O
  subst hd
  obtain ⟨w, hg_, rfl⟩ := explode hlen_
  simp only [hg_] at g0 g3 g4
  clear hlen_ hg_
  by_cases hlt : i < B.length
  · have hlt' : (i : Int) < (B.length : Int) := by omega
    have c0 : (0 : Int) ≤ (i : Int) := by omega
    have y1 : IntKind.i64.wrap ((i : Int) + 1) = ((i + 1 : Nat) : Int) := by rw [wrap_i64 (by omega) (by omega)]; omega
    have gq := O.get 1 rfl
    obtain ⟨k, hk, hkx⟩ := mem_nth (hpm.mem_iff.2 (nth_mem hlt))
    have hrk : B.countP (ahd (nth B i)) = k := by rw [← hkx]; exact rank_is hA hd hc hk
    simp (disch := first | assumption | omega | (simp only [wkD, oneCell, Option.isSome_some, *]; done) | (simp only [wkE, ne_eq]; omega)) only [g0, g3, g4, gq, hlt', wk0, wk1, wk2, wk3, wk4, wk5, X_region, X_seq, X_block, X_loop, X_cond, Y_box, Y_un, Y_store, Y_append, Y_makeMap, Y_buildSlice, ibin_shl, ibin_shr, ibin_and, List.set_cons_zero, List.set_cons_succ, List.getD_cons_zero, List.getD_cons_succ, List.map_cons, List.map_nil, ↓reduceIte, reduceCtorEq, oneCell, List.length_cons, List.length_nil, setAt, readN, bne_iff_ne, ne_eq, Nat.reduceAdd, Nat.reduceLeDiff, List.getElem?_cons_zero, List.getElem?_cons_succ, Nat.reduceMul, Option.isSome_some, layAt, Nat.reduceLT, Option.isNone_some, Option.isNone_none, beq_self_eq_true, Nat.reduceEqDiff, setParams, Int.reduceLT, Int.reduceLE, Int.reduceGT, Int.reduceGE, Int.reduceEq, Int.reduceNe, Option.map_some, Option.map_none, Option.isSome_none]
    refine L_cut1 (fun s => s.tmps.length = 61 ∧ s.tmps.getD 0 undefV = .pointer (some ⟨qb, 0, none⟩) ∧ s.tmps.getD 3 undefV = .slice (some ⟨ob, 0, none⟩) B.length B.length ∧ s.tmps.getD 4 undefV = .int .i64 (i : Int) ∧ s.tmps.getD 5 undefV = .int .i64 (k : Int) ∧ Has ro s.h (Sc 3 ic (.slice (some ⟨ob, 0, none⟩) B.length B.length) D :: Ob qb (.cells [.slice p B.length c] 1 false) :: Sc 3 ic (.slice p B.length c) B :: R)) ?_ ?_
    · refine L_is (fun q s => ∃ (j m : Nat), s.defers = [] ∧ s.tmps.length = 61 ∧ s.tmps.getD 0 undefV = .pointer (some ⟨qb, 0, none⟩) ∧ s.tmps.getD 3 undefV = .slice (some ⟨ob, 0, none⟩) B.length B.length ∧ s.tmps.getD 4 undefV = .int .i64 (i : Int) ∧ s.tmps.getD 5 undefV = .int .i64 (m : Int) ∧ s.tmps.getD 6 undefV = .int .i64 (j : Int) ∧ q = B.length - j ∧ j ≤ B.length ∧ m = (B.take j).countP (ahd (nth B i)) ∧ Has ro s.h (Sc 3 ic (.slice (some ⟨ob, 0, none⟩) B.length B.length) D :: Ob qb (.cells [.slice p B.length c] 1 false) :: Sc 3 ic (.slice p B.length c) B :: R)) B.length ?_ (by omega) ?_
      · exact ⟨0, 0, rfl, rfl, rfl, rfl, rfl, rfl, rfl, rfl, by omega, by simp, O⟩
      clear O gq g0 g3 g4 hq
      rintro q_ tm df h4 ⟨j, m, hd, hlen_, g0, g3, g4, g5, g6, hq, hj, hm, O⟩
      simp only at hd g0 g3 g4 g5 g6 O
      subst hd
      obtain ⟨w, hg_, rfl⟩ := explode hlen_
      simp only [hg_] at g0 g3 g4 g5 g6
      clear hlen_ hg_
      have gq := O.get 1 rfl
      by_cases hlj : j < B.length
      · have hlj' : (j : Int) < (B.length : Int) := by omega
        have c1 : (0 : Int) ≤ (j : Int) := by omega
        have y2 : IntKind.i64.wrap ((j : Int) + 1) = ((j + 1 : Nat) : Int) := by rw [wrap_i64 (by omega) (by omega)]; omega
        have hcj : m ≤ j := by
          rw [hm]
          refine Nat.le_trans (List.countP_le_length) ?_
          rw [List.length_take]; omega
        have y3 : IntKind.i64.wrap ((m : Int) + 1) = ((m + 1 : Nat) : Int) := by rw [wrap_i64 (by omega) (by omega)]; omega
        obtain ⟨b1, o1, sp1, rfl, r1, _, _⟩ := rdW (O.vw 2 rfl) hlj
        obtain ⟨b2, o2, sp2, he, r2, _, _⟩ := rdW (O.vw 2 rfl) hlt
        cases he
        simp (disch := first | assumption | omega | (simp only [wkD, oneCell, Option.isSome_some, *]; done) | (simp only [wkE, ne_eq]; omega)) only [g0, g3, g4, g5, g6, gq, hlj', wk0, wk1, wk2, wk3, wk4, wk5, X_region, X_seq, X_block, X_loop, X_cond, Y_box, Y_un, Y_store, Y_append, Y_makeMap, Y_buildSlice, ibin_shl, ibin_shr, ibin_and, List.set_cons_zero, List.set_cons_succ, List.getD_cons_zero, List.getD_cons_succ, List.map_cons, List.map_nil, ↓reduceIte, reduceCtorEq, oneCell, List.length_cons, List.length_nil, setAt, readN, bne_iff_ne, ne_eq, Nat.reduceAdd, Nat.reduceLeDiff, List.getElem?_cons_zero, List.getElem?_cons_succ, Nat.reduceMul, Option.isSome_some, layAt, Nat.reduceLT, Option.isNone_some, Option.isNone_none, beq_self_eq_true, Nat.reduceEqDiff, setParams, Int.reduceLT, Int.reduceLE, Int.reduceGT, Int.reduceGE, Int.reduceEq, Int.reduceNe, Option.map_some, Option.map_none, Option.isSome_none]
        refine X_drawn _ fun an => ?_
        simp (disch := first | assumption | omega | (simp only [wkD, oneCell, Option.isSome_some, *]; done) | (simp only [wkE, ne_eq]; omega)) only [g0, g3, g4, g5, g6, gq, hlj', hlt', c0, c1, r1, r2, agg_ic, Int.toNat_natCast, wk0, wk1, wk2, wk3, wk4, wk5, X_region, X_seq, X_block, X_loop, X_cond, Y_box, Y_un, Y_store, Y_append, Y_makeMap, Y_buildSlice, ibin_shl, ibin_shr, ibin_and, List.set_cons_zero, List.set_cons_succ, List.getD_cons_zero, List.getD_cons_succ, List.map_cons, List.map_nil, ↓reduceIte, reduceCtorEq, oneCell, List.length_cons, List.length_nil, setAt, readN, bne_iff_ne, ne_eq, Nat.reduceAdd, Nat.reduceLeDiff, List.getElem?_cons_zero, List.getElem?_cons_succ, Nat.reduceMul, Option.isSome_some, layAt, Nat.reduceLT, Option.isNone_some, Option.isNone_none, beq_self_eq_true, Nat.reduceEqDiff, setParams, Int.reduceLT, Int.reduceLE, Int.reduceGT, Int.reduceGE, Int.reduceEq, Int.reduceNe, Option.map_some, Option.map_none, Option.isSome_none]
        refine DB_is (rahead_h (n := n) O.fine (nth B j) (nth B i)) ?_
        rintro v5 h5 ⟨rfl, e5⟩
        simp only at e5
        have O5 := O.ext e5
        have hsucc := take_succ_nth hlj
        by_cases hx : le (nth B i) (nth B j)
        · have d1 : decide (¬ le (nth B i) (nth B j)) = false := decide_eq_false fun h => h hx
          have e : (B.take (j + 1)).countP (ahd (nth B i)) = (B.take j).countP (ahd (nth B i)) := by
            rw [hsucc, List.countP_append, List.countP_singleton, if_neg (by unfold ahd; rw [d1]; simp)]; rfl
          simp (disch := first | assumption | omega | (simp only [wkD, oneCell, Option.isSome_some, *]; done) | (simp only [wkE, ne_eq]; omega)) only [g0, g3, g4, g5, g6, d1, y2, wk0, wk1, wk2, wk3, wk4, wk5, X_region, X_seq, X_block, X_loop, X_cond, Y_box, Y_un, Y_store, Y_append, Y_makeMap, Y_buildSlice, ibin_shl, ibin_shr, ibin_and, List.set_cons_zero, List.set_cons_succ, List.getD_cons_zero, List.getD_cons_succ, List.map_cons, List.map_nil, ↓reduceIte, reduceCtorEq, oneCell, List.length_cons, List.length_nil, setAt, readN, bne_iff_ne, ne_eq, Nat.reduceAdd, Nat.reduceLeDiff, List.getElem?_cons_zero, List.getElem?_cons_succ, Nat.reduceMul, Option.isSome_some, layAt, Nat.reduceLT, Option.isNone_some, Option.isNone_none, beq_self_eq_true, Nat.reduceEqDiff, setParams, Int.reduceLT, Int.reduceLE, Int.reduceGT, Int.reduceGE, Int.reduceEq, Int.reduceNe, Option.map_some, Option.map_none, Option.isSome_none]
          exact Is_in ⟨B.length - (j + 1), by omega, j + 1, _, rfl, rfl, rfl, rfl, rfl, rfl, rfl, rfl, by omega, by rw [e, hm], O5⟩
        · have d1 : decide (¬ le (nth B i) (nth B j)) = true := decide_eq_true hx
          have e : (B.take (j + 1)).countP (ahd (nth B i)) = (B.take j).countP (ahd (nth B i)) + 1 := by
            rw [hsucc, List.countP_append, List.countP_singleton, if_pos (by unfold ahd; exact d1)]
          simp (disch := first | assumption | omega | (simp only [wkD, oneCell, Option.isSome_some, *]; done) | (simp only [wkE, ne_eq]; omega)) only [g0, g3, g4, g5, g6, d1, y2, y3, wk0, wk1, wk2, wk3, wk4, wk5, X_region, X_seq, X_block, X_loop, X_cond, Y_box, Y_un, Y_store, Y_append, Y_makeMap, Y_buildSlice, ibin_shl, ibin_shr, ibin_and, List.set_cons_zero, List.set_cons_succ, List.getD_cons_zero, List.getD_cons_succ, List.map_cons, List.map_nil, ↓reduceIte, reduceCtorEq, oneCell, List.length_cons, List.length_nil, setAt, readN, bne_iff_ne, ne_eq, Nat.reduceAdd, Nat.reduceLeDiff, List.getElem?_cons_zero, List.getElem?_cons_succ, Nat.reduceMul, Option.isSome_some, layAt, Nat.reduceLT, Option.isNone_some, Option.isNone_none, beq_self_eq_true, Nat.reduceEqDiff, setParams, Int.reduceLT, Int.reduceLE, Int.reduceGT, Int.reduceGE, Int.reduceEq, Int.reduceNe, Option.map_some, Option.map_none, Option.isSome_none]
          exact Is_in ⟨B.length - (j + 1), by omega, j + 1, _, rfl, rfl, rfl, rfl, rfl, rfl, rfl, rfl, by omega, by rw [e, hm], O5⟩
      · have hlj' : ¬ (j : Int) < (B.length : Int) := by omega
        have e : m = k := by rw [hm, List.take_of_length_le (by omega)]; exact hrk
        subst e
        simp (disch := first | assumption | omega | (simp only [wkD, oneCell, Option.isSome_some, *]; done) | (simp only [wkE, ne_eq]; omega)) only [g0, g3, g4, g5, g6, gq, hlj', wk0, wk1, wk2, wk3, wk4, wk5, X_region, X_seq, X_block, X_loop, X_cond, Y_box, Y_un, Y_store, Y_append, Y_makeMap, Y_buildSlice, ibin_shl, ibin_shr, ibin_and, List.set_cons_zero, List.set_cons_succ, List.getD_cons_zero, List.getD_cons_succ, List.map_cons, List.map_nil, ↓reduceIte, reduceCtorEq, oneCell, List.length_cons, List.length_nil, setAt, readN, bne_iff_ne, ne_eq, Nat.reduceAdd, Nat.reduceLeDiff, List.getElem?_cons_zero, List.getElem?_cons_succ, Nat.reduceMul, Option.isSome_some, layAt, Nat.reduceLT, Option.isNone_some, Option.isNone_none, beq_self_eq_true, Nat.reduceEqDiff, setParams, Int.reduceLT, Int.reduceLE, Int.reduceGT, Int.reduceGE, Int.reduceEq, Int.reduceNe, Option.map_some, Option.map_none, Option.isSome_none]
        refine Is_in ?_
        simp (disch := first | assumption | omega | (simp only [wkD, oneCell, Option.isSome_some, *]; done) | (simp only [wkE, ne_eq]; omega)) only [g0, g3, g4, g5, g6, wk0, wk1, wk2, wk3, wk4, wk5, X_region, X_seq, X_block, X_loop, X_cond, Y_box, Y_un, Y_store, Y_append, Y_makeMap, Y_buildSlice, ibin_shl, ibin_shr, ibin_and, List.set_cons_zero, List.set_cons_succ, List.getD_cons_zero, List.getD_cons_succ, List.map_cons, List.map_nil, ↓reduceIte, reduceCtorEq, oneCell, List.length_cons, List.length_nil, setAt, readN, bne_iff_ne, ne_eq, Nat.reduceAdd, Nat.reduceLeDiff, List.getElem?_cons_zero, List.getElem?_cons_succ, Nat.reduceMul, Option.isSome_some, layAt, Nat.reduceLT, Option.isNone_some, Option.isNone_none, beq_self_eq_true, Nat.reduceEqDiff, setParams, Int.reduceLT, Int.reduceLE, Int.reduceGT, Int.reduceGE, Int.reduceEq, Int.reduceNe, Option.map_some, Option.map_none, Option.isSome_none]
        exact mid_in ⟨rfl, rfl, rfl, rfl, rfl, O⟩
    clear O gq g0 g3 g4
    rintro tm h6 ⟨hlen_, g0, g3, g4, g5, O⟩
    simp only at g0 g3 g4 g5 O
    obtain ⟨w, hg_, rfl⟩ := explode hlen_
    simp only [hg_] at g0 g3 g4 g5
    clear hlen_ hg_
    have gq := O.get 1 rfl
    have ck : (0 : Int) ≤ (k : Int) := by omega
    have hk' : (k : Int) < (B.length : Int) := by omega
    obtain ⟨b2, o2, sp2, rfl, r2, _, _⟩ := rdW (O.vw 2 rfl) hlt
    have O' : Has ro h6 (Sc 3 ic (.slice (some ⟨ob, 0, none⟩) D.length B.length) D :: Ob qb (.cells [.slice (some ⟨b2, o2, sp2⟩) B.length c] 1 false) :: Sc 3 ic (.slice (some ⟨b2, o2, sp2⟩) B.length c) B :: R) := by rw [hD]; exact O
    obtain ⟨b, sp, he, hw, _⟩ := Has.scWr O' (i := k) (by omega)
    cases he
    obtain ⟨h7, w7, O7⟩ := hw (nth B i)
    rw [hD] at O7
    simp (disch := first | assumption | omega | (simp only [wkD, oneCell, Option.isSome_some, *]; done) | (simp only [wkE, ne_eq]; omega)) only [g0, g3, g4, g5, gq, hlt', c0, ck, hk', r2, agg_ic, iv_cells, ic_len, Int.toNat_natCast, w7, y1, wk0, wk1, wk2, wk3, wk4, wk5, X_region, X_seq, X_block, X_loop, X_cond, Y_box, Y_un, Y_store, Y_append, Y_makeMap, Y_buildSlice, ibin_shl, ibin_shr, ibin_and, List.set_cons_zero, List.set_cons_succ, List.getD_cons_zero, List.getD_cons_succ, List.map_cons, List.map_nil, ↓reduceIte, reduceCtorEq, oneCell, List.length_cons, List.length_nil, setAt, readN, bne_iff_ne, ne_eq, Nat.reduceAdd, Nat.reduceLeDiff, List.getElem?_cons_zero, List.getElem?_cons_succ, Nat.reduceMul, Option.isSome_some, layAt, Nat.reduceLT, Option.isNone_some, Option.isNone_none, beq_self_eq_true, Nat.reduceEqDiff, setParams, Int.reduceLT, Int.reduceLE, Int.reduceGT, Int.reduceGE, Int.reduceEq, Int.reduceNe, Option.map_some, Option.map_none, Option.isSome_none]
    refine Is_in ⟨B.length - (i + 1), by omega, i + 1, _, rfl, rfl, rfl, rfl, rfl, rfl, by omega, by rw [List.length_set]; exact hD, fun k' hk' hm => ?_, O7⟩
    rw [nth_set (by omega)]
    by_cases e : k' = k
    · rw [if_pos e, e, hkx]
    · rw [if_neg e]
      refine hin k' hk' ?_
      rw [take_succ_nth hlt, List.mem_append, List.mem_singleton] at hm
      rcases hm with hm | hm
      · exact hm
      · exfalso
        rw [← hkx] at hm
        rcases Nat.lt_or_gt_of_ne e with h | h
        · exact hd k' k h hk (by rw [hm])
        · exact hd k k' h hk' (by rw [hm])
  · have hlt' : ¬ (i : Int) < (B.length : Int) := by omega
    have gq := O.get 1 rfl
    simp (disch := first | assumption | omega | (simp only [wkD, oneCell, Option.isSome_some, *]; done) | (simp only [wkE, ne_eq]; omega)) only [g0, g3, g4, gq, hlt', wk0, wk1, wk2, wk3, wk4, wk5, X_region, X_seq, X_block, X_loop, X_cond, Y_box, Y_un, Y_store, Y_append, Y_makeMap, Y_buildSlice, ibin_shl, ibin_shr, ibin_and, List.set_cons_zero, List.set_cons_succ, List.getD_cons_zero, List.getD_cons_succ, List.map_cons, List.map_nil, ↓reduceIte, reduceCtorEq, oneCell, List.length_cons, List.length_nil, setAt, readN, bne_iff_ne, ne_eq, Nat.reduceAdd, Nat.reduceLeDiff, List.getElem?_cons_zero, List.getElem?_cons_succ, Nat.reduceMul, Option.isSome_some, layAt, Nat.reduceLT, Option.isNone_some, Option.isNone_none, beq_self_eq_true, Nat.reduceEqDiff, setParams, Int.reduceLT, Int.reduceLE, Int.reduceGT, Int.reduceGE, Int.reduceEq, Int.reduceNe, Option.map_some, Option.map_none, Option.isSome_none]
    refine Is_in ?_
    simp (disch := first | assumption | omega | (simp only [wkD, oneCell, Option.isSome_some, *]; done) | (simp only [wkE, ne_eq]; omega)) only [g0, g3, g4, wk0, wk1, wk2, wk3, wk4, wk5, X_region, X_seq, X_block, X_loop, X_cond, Y_box, Y_un, Y_store, Y_append, Y_makeMap, Y_buildSlice, ibin_shl, ibin_shr, ibin_and, List.set_cons_zero, List.set_cons_succ, List.getD_cons_zero, List.getD_cons_succ, List.map_cons, List.map_nil, ↓reduceIte, reduceCtorEq, oneCell, List.length_cons, List.length_nil, setAt, readN, bne_iff_ne, ne_eq, Nat.reduceAdd, Nat.reduceLeDiff, List.getElem?_cons_zero, List.getElem?_cons_succ, Nat.reduceMul, Option.isSome_some, layAt, Nat.reduceLT, Option.isNone_some, Option.isNone_none, beq_self_eq_true, Nat.reduceEqDiff, setParams, Int.reduceLT, Int.reduceLE, Int.reduceGT, Int.reduceGE, Int.reduceEq, Int.reduceNe, Option.map_some, Option.map_none, Option.isSome_none]
    have e : D = A := list_nth (by omega) fun k hk => hin k hk (by rw [List.take_of_length_le (by omega)]; exact hpm.mem_iff.1 (nth_mem hk))
    subst e
    refine leaf1 ?_
    have O9 := O.at 1 rfl
    simp only [List.eraseIdx_cons_succ, List.eraseIdx_cons_zero] at O9
    exact (Has.mkQs (O9.at 2 rfl |>.at 1 rfl)).swap2
end
end Go.Proofs.Ytlhocgeppgdopaa
