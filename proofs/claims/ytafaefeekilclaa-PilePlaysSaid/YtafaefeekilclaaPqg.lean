/-
  Sorting: what the functions of the package slices leave, as its plain form says.
-/
import Derived.Test.YtafaefeekilclaaFk
import Derived.Test.YtafaefeekilclaaHeap
import Derived.Sort.AssemblyPlain
import Derived.Sort.LotD5
import Derived.Test.YtafaefeekilclaaPqb
import Derived.Test.YtafaefeekilclaaPqc
import Derived.Test.YtafaefeekilclaaPqd
import Derived.Test.YtafaefeekilclaaPqe
import Derived.Test.YtafaefeekilclaaPqf
namespace Go.Proofs.Ytafaefeekilclaa
open Go Go.Ideal
set_option maxHeartbeats 0
set_option linter.unusedSimpArgs false
set_option linter.unusedVariables false
set_option maxRecDepth 100000
attribute [local irreducible] callV T.All T.Is run
theorem env31 : env 31 = some ir31 := rfl
theorem env26 : env 26 = some ir26 := rfl

theorem lt_swo : Sort.SWO ltI := ⟨fun x => decide_eq_false (fun e => (cmpI_lt x x).1 e (le_refl x)), fun x y z h1 h2 => by
    have a1 := (cmpI_lt x y).1 (of_decide_eq_true h1)
    have a2 := (cmpI_lt y z).1 (of_decide_eq_true h2)
    refine decide_eq_true ((cmpI_lt x z).2 fun e => a1 (le_trans ((le_total z y).resolve_left a2) e)), fun x y z h1 h2 => by
    have a1 : le y x := Decidable.byContradiction fun e => of_decide_eq_false h1 ((cmpI_lt x y).2 e)
    have a2 : le z y := Decidable.byContradiction fun e => of_decide_eq_false h2 ((cmpI_lt y z).2 e)
    exact decide_eq_false fun e => (cmpI_lt x z).1 e (le_trans a2 a1)⟩

theorem hintZ_two (x : Sort.Hint) : decide (hintZ x = 2) = decide (x = .decreasing) := by cases x <;> rfl
theorem hintZ_one (x : Sort.Hint) : decide (hintZ x = 1) = decide (x = .increasing) := by cases x <;> rfl

/-- The contract of the whole. -/
structure PdqOk (f : Nat) (m : Nat) (lo hi : Nat) : Prop where
  ok : ∀ {b cap zz : Nat} {sp : Option Nat} {h : Heap} {d : Array It} {rest : List Value} {t : Bool} {ro : Nat → Option (List Value × Nat)} {R : List Rs} {lim : Nat}, d.size = m → Has ro h (Ar b d rest zz t :: R) → lo ≤ hi → hi ≤ m → lim ≤ 64 →
    (callV env f (.func (.func 31) #[] #[]) [.slice (some ⟨b, 0, sp⟩) m cap, .int .i64 (lo : Int), .int .i64 (hi : Int), .int .i64 (lim : Int), .func (.func 27) #[] #[]] h).Is fun p => Has ro p.2 (Ar b (Sort.pdq ltI d lo hi lim true true) rest zz t :: R) ∧ (Sort.pdq ltI d lo hi lim true true).size = m

theorem pdq_step {n m lo hi : Nat} (hn : m + 20 < n) (hm2 : m < 65536) (ih : ∀ lo' hi', hi' - lo' < hi - lo → PdqOk (n + 8) m lo' hi') : PdqOk (n + 9) m lo hi := by
  constructor
  intro b cap zz sp h d rest t ro R lim hm O hlo hhi hlim
  refine call_is env31 ?_
  simp (disch := first | assumption | omega | (simp only [wkD, oneCell, Option.isSome_some, *]; done) | (simp only [wkE, ne_eq]; omega)) only [ir31, List.append_nil, List.nil_append, List.cons_append, List.length_cons, List.length_nil, Nat.reduceAdd, Nat.reduceSub, List.replicate_succ, List.replicate_zero, wk0, wk1, wk2, wk3, wk4, wk5, X_region, X_seq, X_block, X_loop, X_cond, Y_box, Y_un, Y_store, Y_append, Y_makeMap, Y_buildSlice, ibin_shl, ibin_shr, ibin_and, List.set_cons_zero, List.set_cons_succ, List.getD_cons_zero, List.getD_cons_succ, List.map_cons, List.map_nil, ↓reduceIte, reduceCtorEq, oneCell, List.length_cons, List.length_nil, setAt, readN, bne_iff_ne, ne_eq, Nat.reduceAdd, Nat.reduceLeDiff, List.getElem?_cons_zero, List.getElem?_cons_succ, Nat.reduceMul, Option.isSome_some, layAt, Nat.reduceLT, Option.isNone_some, Option.isNone_none, beq_self_eq_true, Nat.reduceEqDiff, setParams, Int.reduceLT, Int.reduceLE, Int.reduceGT, Int.reduceGE, Int.reduceEq, Int.reduceNe, Option.map_some, Option.map_none, Option.isSome_none]
  refine L_is (fun q s => ∃ (a e lm : Nat) (wb wp : Bool) (d1 : Array It), s.defers = [] ∧ s.tmps.length = 148 ∧ s.tmps.getD 0 undefV = .slice (some ⟨b, 0, sp⟩) m cap ∧ s.tmps.getD 1 undefV = .int .i64 ((a : Nat) : Int) ∧ s.tmps.getD 2 undefV = .int .i64 ((e : Nat) : Int) ∧ s.tmps.getD 3 undefV = .int .i64 ((lm : Nat) : Int) ∧ s.tmps.getD 4 undefV = .func (.func 27) #[] #[] ∧ s.tmps.getD 10 undefV = .bool wb ∧ s.tmps.getD 11 undefV = .bool wp ∧ q = e - a ∧ lo ≤ a ∧ a ≤ e ∧ e ≤ hi ∧ lm ≤ 64 ∧ d1.size = m ∧ Has ro s.h (Ar b d1 rest zz t :: R) ∧ Sort.pdq ltI d1 a e lm wb wp = Sort.pdq ltI d lo hi lim true true) (hi - lo) ?_ (by omega) ?_
  · exact ⟨lo, hi, lim, true, true, d, rfl, rfl, rfl, rfl, rfl, rfl, rfl, rfl, rfl, rfl, Nat.le_refl _, hlo, Nat.le_refl _, hlim, hm, O, rfl⟩
  clear O
  rintro q tm df h1 ⟨a, e, lm, wb, wp, d1, hd, hlen_, g0, g1, g2, g3, g4, g10, g11, hq, p1, p2, p3, p4, hs, O, hE⟩
  simp only at hd g0 g1 g2 g3 g4 g10 g11 O
  subst hd
  obtain ⟨w, hg_, rfl⟩ := explode hlen_
  simp only [hg_] at g0 g1 g2 g3 g4 g10 g11
  clear hlen_ hg_
  have y1 : IntKind.i64.wrap ((e : Int) - (a : Int)) = ((e - a : Nat) : Int) := by rw [wrap_i64 (by omega) (by omega)]; omega
  rw [Sort.pdq] at hE
  by_cases h12 : e - a ≤ 12
  · have h12' : ((e - a : Nat) : Int) ≤ 12 := by omega
    rw [if_pos h12] at hE
    simp (disch := first | assumption | omega | (simp only [wkD, oneCell, Option.isSome_some, *]; done) | (simp only [wkE, ne_eq]; omega)) only [g0, g1, g2, g3, g4, g10, g11, y1, h12', wk0, wk1, wk2, wk3, wk4, wk5, X_region, X_seq, X_block, X_loop, X_cond, Y_box, Y_un, Y_store, Y_append, Y_makeMap, Y_buildSlice, ibin_shl, ibin_shr, ibin_and, List.set_cons_zero, List.set_cons_succ, List.getD_cons_zero, List.getD_cons_succ, List.map_cons, List.map_nil, ↓reduceIte, reduceCtorEq, oneCell, List.length_cons, List.length_nil, setAt, readN, bne_iff_ne, ne_eq, Nat.reduceAdd, Nat.reduceLeDiff, List.getElem?_cons_zero, List.getElem?_cons_succ, Nat.reduceMul, Option.isSome_some, layAt, Nat.reduceLT, Option.isNone_some, Option.isNone_none, beq_self_eq_true, Nat.reduceEqDiff, setParams, Int.reduceLT, Int.reduceLE, Int.reduceGT, Int.reduceGE, Int.reduceEq, Int.reduceNe, Option.map_some, Option.map_none, Option.isSome_none]
    refine Z_is (insertion_ok (n := n + 3) (by omega) (by omega) hs O p2 (by omega)) ?_
    rintro v2 h2 ⟨O2, hs2⟩
    simp only at O2
    simp (disch := first | assumption | omega | (simp only [wkD, oneCell, Option.isSome_some, *]; done) | (simp only [wkE, ne_eq]; omega)) only [wk0, wk1, wk2, wk3, wk4, wk5, X_region, X_seq, X_block, X_loop, X_cond, Y_box, Y_un, Y_store, Y_append, Y_makeMap, Y_buildSlice, ibin_shl, ibin_shr, ibin_and, List.set_cons_zero, List.set_cons_succ, List.getD_cons_zero, List.getD_cons_succ, List.map_cons, List.map_nil, ↓reduceIte, reduceCtorEq, oneCell, List.length_cons, List.length_nil, setAt, readN, bne_iff_ne, ne_eq, Nat.reduceAdd, Nat.reduceLeDiff, List.getElem?_cons_zero, List.getElem?_cons_succ, Nat.reduceMul, Option.isSome_some, layAt, Nat.reduceLT, Option.isNone_some, Option.isNone_none, beq_self_eq_true, Nat.reduceEqDiff, setParams, Int.reduceLT, Int.reduceLE, Int.reduceGT, Int.reduceGE, Int.reduceEq, Int.reduceNe, Option.map_some, Option.map_none, Option.isSome_none]
    refine Is_in ?_
    simp (disch := first | assumption | omega | (simp only [wkD, oneCell, Option.isSome_some, *]; done) | (simp only [wkE, ne_eq]; omega)) only [wk0, wk1, wk2, wk3, wk4, wk5, X_region, X_seq, X_block, X_loop, X_cond, Y_box, Y_un, Y_store, Y_append, Y_makeMap, Y_buildSlice, ibin_shl, ibin_shr, ibin_and, List.set_cons_zero, List.set_cons_succ, List.getD_cons_zero, List.getD_cons_succ, List.map_cons, List.map_nil, ↓reduceIte, reduceCtorEq, oneCell, List.length_cons, List.length_nil, setAt, readN, bne_iff_ne, ne_eq, Nat.reduceAdd, Nat.reduceLeDiff, List.getElem?_cons_zero, List.getElem?_cons_succ, Nat.reduceMul, Option.isSome_some, layAt, Nat.reduceLT, Option.isNone_some, Option.isNone_none, beq_self_eq_true, Nat.reduceEqDiff, setParams, Int.reduceLT, Int.reduceLE, Int.reduceGT, Int.reduceGE, Int.reduceEq, Int.reduceNe, Option.map_some, Option.map_none, Option.isSome_none]
    rw [← hE]
    exact leaf0 ⟨O2, hs2⟩
  have h12' : ¬ ((e - a : Nat) : Int) ≤ 12 := by omega
  rw [if_neg h12] at hE
  by_cases hl0 : lm = 0
  · have hl0' : decide ((lm : Int) = 0) = true := decide_eq_true (by omega)
    rw [if_pos hl0] at hE
    simp (disch := first | assumption | omega | (simp only [wkD, oneCell, Option.isSome_some, *]; done) | (simp only [wkE, ne_eq]; omega)) only [g0, g1, g2, g3, g4, g10, g11, y1, h12', hl0', wk0, wk1, wk2, wk3, wk4, wk5, X_region, X_seq, X_block, X_loop, X_cond, Y_box, Y_un, Y_store, Y_append, Y_makeMap, Y_buildSlice, ibin_shl, ibin_shr, ibin_and, List.set_cons_zero, List.set_cons_succ, List.getD_cons_zero, List.getD_cons_succ, List.map_cons, List.map_nil, ↓reduceIte, reduceCtorEq, oneCell, List.length_cons, List.length_nil, setAt, readN, bne_iff_ne, ne_eq, Nat.reduceAdd, Nat.reduceLeDiff, List.getElem?_cons_zero, List.getElem?_cons_succ, Nat.reduceMul, Option.isSome_some, layAt, Nat.reduceLT, Option.isNone_some, Option.isNone_none, beq_self_eq_true, Nat.reduceEqDiff, setParams, Int.reduceLT, Int.reduceLE, Int.reduceGT, Int.reduceGE, Int.reduceEq, Int.reduceNe, Option.map_some, Option.map_none, Option.isSome_none]
    refine Z_is (heap_ok (n := n + 2) (by omega) (by omega) hs O (by omega) (by omega)) ?_
    rintro v2 h2 ⟨O2, hs2⟩
    simp only at O2
    simp (disch := first | assumption | omega | (simp only [wkD, oneCell, Option.isSome_some, *]; done) | (simp only [wkE, ne_eq]; omega)) only [wk0, wk1, wk2, wk3, wk4, wk5, X_region, X_seq, X_block, X_loop, X_cond, Y_box, Y_un, Y_store, Y_append, Y_makeMap, Y_buildSlice, ibin_shl, ibin_shr, ibin_and, List.set_cons_zero, List.set_cons_succ, List.getD_cons_zero, List.getD_cons_succ, List.map_cons, List.map_nil, ↓reduceIte, reduceCtorEq, oneCell, List.length_cons, List.length_nil, setAt, readN, bne_iff_ne, ne_eq, Nat.reduceAdd, Nat.reduceLeDiff, List.getElem?_cons_zero, List.getElem?_cons_succ, Nat.reduceMul, Option.isSome_some, layAt, Nat.reduceLT, Option.isNone_some, Option.isNone_none, beq_self_eq_true, Nat.reduceEqDiff, setParams, Int.reduceLT, Int.reduceLE, Int.reduceGT, Int.reduceGE, Int.reduceEq, Int.reduceNe, Option.map_some, Option.map_none, Option.isSome_none]
    refine Is_in ?_
    simp (disch := first | assumption | omega | (simp only [wkD, oneCell, Option.isSome_some, *]; done) | (simp only [wkE, ne_eq]; omega)) only [wk0, wk1, wk2, wk3, wk4, wk5, X_region, X_seq, X_block, X_loop, X_cond, Y_box, Y_un, Y_store, Y_append, Y_makeMap, Y_buildSlice, ibin_shl, ibin_shr, ibin_and, List.set_cons_zero, List.set_cons_succ, List.getD_cons_zero, List.getD_cons_succ, List.map_cons, List.map_nil, ↓reduceIte, reduceCtorEq, oneCell, List.length_cons, List.length_nil, setAt, readN, bne_iff_ne, ne_eq, Nat.reduceAdd, Nat.reduceLeDiff, List.getElem?_cons_zero, List.getElem?_cons_succ, Nat.reduceMul, Option.isSome_some, layAt, Nat.reduceLT, Option.isNone_some, Option.isNone_none, beq_self_eq_true, Nat.reduceEqDiff, setParams, Int.reduceLT, Int.reduceLE, Int.reduceGT, Int.reduceGE, Int.reduceEq, Int.reduceNe, Option.map_some, Option.map_none, Option.isSome_none]
    rw [← hE]
    exact leaf0 ⟨O2, hs2⟩
  have hl0' : decide ((lm : Int) = 0) = false := decide_eq_false (by omega)
  rw [if_neg hl0] at hE
  simp only [] at hE
  -- the first piece: patterns are broken
  obtain ⟨d2, hd2⟩ : ∃ d2, d2 = if (!wb) = true then Sort.breakPatterns d1 a e else d1 := ⟨_, rfl⟩
  obtain ⟨lm2, hlm2⟩ : ∃ lm2, lm2 = if (!wb) = true then lm - 1 else lm := ⟨_, rfl⟩
  rw [← hd2, ← hlm2] at hE
  have hlm3 : lm2 ≤ 64 := by rw [hlm2]; split <;> omega
  simp (disch := first | assumption | omega | (simp only [wkD, oneCell, Option.isSome_some, *]; done) | (simp only [wkE, ne_eq]; omega)) only [g0, g1, g2, g3, g4, g10, g11, y1, h12', hl0', wk0, wk1, wk2, wk3, wk4, wk5, X_region, X_seq, X_block, X_loop, X_cond, Y_box, Y_store, Y_append, Y_makeMap, Y_buildSlice, ibin_shl, ibin_shr, ibin_and, List.set_cons_zero, List.set_cons_succ, List.getD_cons_zero, List.getD_cons_succ, List.map_cons, List.map_nil, ↓reduceIte, reduceCtorEq, oneCell, List.length_cons, List.length_nil, setAt, readN, bne_iff_ne, ne_eq, Nat.reduceAdd, Nat.reduceLeDiff, List.getElem?_cons_zero, List.getElem?_cons_succ, Nat.reduceMul, Option.isSome_some, layAt, Nat.reduceLT, Option.isNone_some, Option.isNone_none, beq_self_eq_true, Nat.reduceEqDiff, setParams, Int.reduceLT, Int.reduceLE, Int.reduceGT, Int.reduceGE, Int.reduceEq, Int.reduceNe, Option.map_some, Option.map_none, Option.isSome_none]
  simp (disch := first | assumption | omega | (simp only [wkD, oneCell, Option.isSome_some, *]; done) | (simp only [wkE, ne_eq]; omega)) only [wk0, wk1, wk2, wk3, wk4, wk5, X_region, X_seq, X_block, X_loop, Y_box, Y_un, Y_store, Y_append, Y_makeMap, Y_buildSlice, ibin_shl, ibin_shr, ibin_and, List.set_cons_zero, List.set_cons_succ, List.getD_cons_zero, List.getD_cons_succ, List.map_cons, List.map_nil, ↓reduceIte, reduceCtorEq, oneCell, List.length_cons, List.length_nil, setAt, readN, bne_iff_ne, ne_eq, Nat.reduceAdd, Nat.reduceLeDiff, List.getElem?_cons_zero, List.getElem?_cons_succ, Nat.reduceMul, Option.isSome_some, layAt, Nat.reduceLT, Option.isNone_some, Option.isNone_none, beq_self_eq_true, Nat.reduceEqDiff, setParams, Int.reduceLT, Int.reduceLE, Int.reduceGT, Int.reduceGE, Int.reduceEq, Int.reduceNe, Option.map_some, Option.map_none, Option.isSome_none]
  refine X_cut0 (fun s => s.tmps.length = 148 ∧ s.tmps.getD 0 undefV = .slice (some ⟨b, 0, sp⟩) m cap ∧ s.tmps.getD 1 undefV = .int .i64 ((a : Nat) : Int) ∧ s.tmps.getD 2 undefV = .int .i64 ((e : Nat) : Int) ∧ s.tmps.getD 3 undefV = .int .i64 ((lm2 : Nat) : Int) ∧ s.tmps.getD 4 undefV = .func (.func 27) #[] #[] ∧ s.tmps.getD 10 undefV = .bool wb ∧ s.tmps.getD 11 undefV = .bool wp ∧ s.tmps.getD 12 undefV = .int .i64 ((e - a : Nat) : Int) ∧ Has ro s.h (Ar b d2 rest zz t :: R) ∧ d2.size = m) ?_ ?_
  · cases wb with
    | true =>
      rw [if_neg (show ¬ (!true) = true by simp)] at hd2 hlm2
      subst hd2 hlm2
      simp (disch := first | assumption | omega | (simp only [wkD, oneCell, Option.isSome_some, *]; done) | (simp only [wkE, ne_eq]; omega)) only [g0, g1, g2, g3, g4, g10, g11, wk0, wk1, wk2, wk3, wk4, wk5, X_region, X_seq, X_block, X_loop, X_cond, Y_box, Y_un, Y_store, Y_append, Y_makeMap, Y_buildSlice, ibin_shl, ibin_shr, ibin_and, List.set_cons_zero, List.set_cons_succ, List.getD_cons_zero, List.getD_cons_succ, List.map_cons, List.map_nil, ↓reduceIte, reduceCtorEq, oneCell, List.length_cons, List.length_nil, setAt, readN, bne_iff_ne, ne_eq, Nat.reduceAdd, Nat.reduceLeDiff, List.getElem?_cons_zero, List.getElem?_cons_succ, Nat.reduceMul, Option.isSome_some, layAt, Nat.reduceLT, Option.isNone_some, Option.isNone_none, beq_self_eq_true, Nat.reduceEqDiff, setParams, Int.reduceLT, Int.reduceLE, Int.reduceGT, Int.reduceGE, Int.reduceEq, Int.reduceNe, Option.map_some, Option.map_none, Option.isSome_none]
      exact mid_in ⟨rfl, rfl, rfl, rfl, rfl, rfl, rfl, rfl, rfl, O, hs⟩
    | false =>
      rw [if_pos (show (!false) = true from rfl)] at hd2 hlm2
      subst hd2 hlm2
      have y2 : IntKind.i64.wrap ((lm : Int) - 1) = ((lm - 1 : Nat) : Int) := by rw [wrap_i64 (by omega) (by omega)]; omega
      simp (disch := first | assumption | omega | (simp only [wkD, oneCell, Option.isSome_some, *]; done) | (simp only [wkE, ne_eq]; omega)) only [g0, g1, g2, g3, g4, g10, g11, wk0, wk1, wk2, wk3, wk4, wk5, X_region, X_seq, X_block, X_loop, X_cond, Y_box, Y_un, Y_store, Y_append, Y_makeMap, Y_buildSlice, ibin_shl, ibin_shr, ibin_and, List.set_cons_zero, List.set_cons_succ, List.getD_cons_zero, List.getD_cons_succ, List.map_cons, List.map_nil, ↓reduceIte, reduceCtorEq, oneCell, List.length_cons, List.length_nil, setAt, readN, bne_iff_ne, ne_eq, Nat.reduceAdd, Nat.reduceLeDiff, List.getElem?_cons_zero, List.getElem?_cons_succ, Nat.reduceMul, Option.isSome_some, layAt, Nat.reduceLT, Option.isNone_some, Option.isNone_none, beq_self_eq_true, Nat.reduceEqDiff, setParams, Int.reduceLT, Int.reduceLE, Int.reduceGT, Int.reduceGE, Int.reduceEq, Int.reduceNe, Option.map_some, Option.map_none, Option.isSome_none]
      refine Z_is (break_ok (n := n + 4) (by omega) hm2 hs O (by omega) (by omega)) ?_
      rintro v2 h2 ⟨O2, hs2⟩
      simp only at O2
      simp (disch := first | assumption | omega | (simp only [wkD, oneCell, Option.isSome_some, *]; done) | (simp only [wkE, ne_eq]; omega)) only [y2, wk0, wk1, wk2, wk3, wk4, wk5, X_region, X_seq, X_block, X_loop, X_cond, Y_box, Y_un, Y_store, Y_append, Y_makeMap, Y_buildSlice, ibin_shl, ibin_shr, ibin_and, List.set_cons_zero, List.set_cons_succ, List.getD_cons_zero, List.getD_cons_succ, List.map_cons, List.map_nil, ↓reduceIte, reduceCtorEq, oneCell, List.length_cons, List.length_nil, setAt, readN, bne_iff_ne, ne_eq, Nat.reduceAdd, Nat.reduceLeDiff, List.getElem?_cons_zero, List.getElem?_cons_succ, Nat.reduceMul, Option.isSome_some, layAt, Nat.reduceLT, Option.isNone_some, Option.isNone_none, beq_self_eq_true, Nat.reduceEqDiff, setParams, Int.reduceLT, Int.reduceLE, Int.reduceGT, Int.reduceGE, Int.reduceEq, Int.reduceNe, Option.map_some, Option.map_none, Option.isSome_none]
      exact mid_in ⟨rfl, rfl, rfl, rfl, rfl, rfl, rfl, rfl, rfl, O2, hs2⟩
  clear O hs hd2 hlm2 g0 g1 g2 g3 g4 g10 g11 hl0 hl0' p4
  rintro tm h2 ⟨hlen_, g0, g1, g2, g3, g4, g10, g11, g12, O, hs⟩
  simp only at g0 g1 g2 g3 g4 g10 g11 g12 O
  obtain ⟨w, hg_, rfl⟩ := explode hlen_
  simp only [hg_] at g0 g1 g2 g3 g4 g10 g11 g12
  clear hlen_ hg_
  -- the pivot
  simp (disch := first | assumption | omega | (simp only [wkD, oneCell, Option.isSome_some, *]; done) | (simp only [wkE, ne_eq]; omega)) only [g0, g1, g2, g3, g4, g10, g11, g12, wk0, wk1, wk2, wk3, wk4, wk5, X_region, X_seq, X_block, X_loop, X_cond, Y_box, Y_un, Y_store, Y_append, Y_makeMap, Y_buildSlice, ibin_shl, ibin_shr, ibin_and, List.set_cons_zero, List.set_cons_succ, List.getD_cons_zero, List.getD_cons_succ, List.map_cons, List.map_nil, ↓reduceIte, reduceCtorEq, oneCell, List.length_cons, List.length_nil, setAt, readN, bne_iff_ne, ne_eq, Nat.reduceAdd, Nat.reduceLeDiff, List.getElem?_cons_zero, List.getElem?_cons_succ, Nat.reduceMul, Option.isSome_some, layAt, Nat.reduceLT, Option.isNone_some, Option.isNone_none, beq_self_eq_true, Nat.reduceEqDiff, setParams, Int.reduceLT, Int.reduceLE, Int.reduceGT, Int.reduceGE, Int.reduceEq, Int.reduceNe, Option.map_some, Option.map_none, Option.isSome_none]
  refine Z_is (choose_ok (n := n) (by omega) (by omega) hs O (by omega) (by omega)) ?_
  rintro v3 h3 ⟨rfl, O3⟩
  simp only at O3
  have hcp := Sort.choosePivot_holds ltI d2 a e (by omega)
  generalize Sort.choosePivot ltI d2 a e = c at O3 hcp hE ⊢
  obtain ⟨c1, c2⟩ := c
  simp only at hcp hE ⊢
  obtain ⟨d3, hd3⟩ : ∃ d3, d3 = if c2 = Sort.Hint.decreasing then Sort.reverseRange d2 a e else d2 := ⟨_, rfl⟩
  obtain ⟨pv, hpv⟩ : ∃ pv, pv = if c2 = Sort.Hint.decreasing then e - 1 - (c1 - a) else c1 := ⟨_, rfl⟩
  obtain ⟨ht, hht⟩ : ∃ ht, ht = if c2 = Sort.Hint.decreasing then Sort.Hint.increasing else c2 := ⟨_, rfl⟩
  rw [← hd3, ← hpv, ← hht] at hE
  have hpv2 : a ≤ pv ∧ pv < e := by rw [hpv]; split <;> omega
  simp (disch := first | assumption | omega | (simp only [wkD, oneCell, Option.isSome_some, *]; done) | (simp only [wkE, ne_eq]; omega)) only [hintZ_two, wk0, wk1, wk2, wk3, wk4, wk5, X_region, X_seq, X_block, X_loop, Y_box, Y_un, Y_store, Y_append, Y_makeMap, Y_buildSlice, ibin_shl, ibin_shr, ibin_and, List.set_cons_zero, List.set_cons_succ, List.getD_cons_zero, List.getD_cons_succ, List.map_cons, List.map_nil, ↓reduceIte, reduceCtorEq, oneCell, List.length_cons, List.length_nil, setAt, readN, bne_iff_ne, ne_eq, Nat.reduceAdd, Nat.reduceLeDiff, List.getElem?_cons_zero, List.getElem?_cons_succ, Nat.reduceMul, Option.isSome_some, layAt, Nat.reduceLT, Option.isNone_some, Option.isNone_none, beq_self_eq_true, Nat.reduceEqDiff, setParams, Int.reduceLT, Int.reduceLE, Int.reduceGT, Int.reduceGE, Int.reduceEq, Int.reduceNe, Option.map_some, Option.map_none, Option.isSome_none]
  refine X_cut0 (fun s => s.tmps.length = 148 ∧ s.tmps.getD 0 undefV = .slice (some ⟨b, 0, sp⟩) m cap ∧ s.tmps.getD 1 undefV = .int .i64 ((a : Nat) : Int) ∧ s.tmps.getD 2 undefV = .int .i64 ((e : Nat) : Int) ∧ s.tmps.getD 3 undefV = .int .i64 ((lm2 : Nat) : Int) ∧ s.tmps.getD 4 undefV = .func (.func 27) #[] #[] ∧ s.tmps.getD 10 undefV = .bool wb ∧ s.tmps.getD 11 undefV = .bool wp ∧ s.tmps.getD 12 undefV = .int .i64 ((e - a : Nat) : Int) ∧ s.tmps.getD 13 undefV = .int .i64 ((pv : Nat) : Int) ∧ s.tmps.getD 14 undefV = .int .i64 (hintZ ht) ∧ Has ro s.h (Ar b d3 rest zz t :: R) ∧ d3.size = m) ?_ ?_
  · by_cases hc : c2 = Sort.Hint.decreasing
    · rw [if_pos hc] at hd3 hpv hht
      subst hd3 hht
      have y2 : IntKind.i64.wrap ((e : Int) - 1) = ((e - 1 : Nat) : Int) := by rw [wrap_i64 (by omega) (by omega)]; omega
      have y3 : IntKind.i64.wrap ((c1 : Int) - (a : Int)) = ((c1 - a : Nat) : Int) := by rw [wrap_i64 (by omega) (by omega)]; omega
      have y4 : IntKind.i64.wrap (((e - 1 : Nat) : Int) - ((c1 - a : Nat) : Int)) = (pv : Int) := by rw [wrap_i64 (by omega) (by omega)]; omega
      simp (disch := first | assumption | omega | (simp only [wkD, oneCell, Option.isSome_some, *]; done) | (simp only [wkE, ne_eq]; omega)) only [g0, g1, g2, g3, g4, g10, g11, g12, hc, wk0, wk1, wk2, wk3, wk4, wk5, X_region, X_seq, X_block, X_loop, X_cond, Y_box, Y_un, Y_store, Y_append, Y_makeMap, Y_buildSlice, ibin_shl, ibin_shr, ibin_and, List.set_cons_zero, List.set_cons_succ, List.getD_cons_zero, List.getD_cons_succ, List.map_cons, List.map_nil, ↓reduceIte, reduceCtorEq, oneCell, List.length_cons, List.length_nil, setAt, readN, bne_iff_ne, ne_eq, Nat.reduceAdd, Nat.reduceLeDiff, List.getElem?_cons_zero, List.getElem?_cons_succ, Nat.reduceMul, Option.isSome_some, layAt, Nat.reduceLT, Option.isNone_some, Option.isNone_none, beq_self_eq_true, Nat.reduceEqDiff, setParams, Int.reduceLT, Int.reduceLE, Int.reduceGT, Int.reduceGE, Int.reduceEq, Int.reduceNe, Option.map_some, Option.map_none, Option.isSome_none]
      refine Z_is (reverse_ok (n := n + 7) (by omega) (by omega) hs O3 (by omega) (by omega)) ?_
      rintro v4 h4 ⟨O4, hs4⟩
      simp only at O4
      simp (disch := first | assumption | omega | (simp only [wkD, oneCell, Option.isSome_some, *]; done) | (simp only [wkE, ne_eq]; omega)) only [y2, y3, y4, wk0, wk1, wk2, wk3, wk4, wk5, X_region, X_seq, X_block, X_loop, X_cond, Y_box, Y_un, Y_store, Y_append, Y_makeMap, Y_buildSlice, ibin_shl, ibin_shr, ibin_and, List.set_cons_zero, List.set_cons_succ, List.getD_cons_zero, List.getD_cons_succ, List.map_cons, List.map_nil, ↓reduceIte, reduceCtorEq, oneCell, List.length_cons, List.length_nil, setAt, readN, bne_iff_ne, ne_eq, Nat.reduceAdd, Nat.reduceLeDiff, List.getElem?_cons_zero, List.getElem?_cons_succ, Nat.reduceMul, Option.isSome_some, layAt, Nat.reduceLT, Option.isNone_some, Option.isNone_none, beq_self_eq_true, Nat.reduceEqDiff, setParams, Int.reduceLT, Int.reduceLE, Int.reduceGT, Int.reduceGE, Int.reduceEq, Int.reduceNe, Option.map_some, Option.map_none, Option.isSome_none]
      exact mid_in ⟨rfl, rfl, rfl, rfl, rfl, rfl, rfl, rfl, rfl, rfl, rfl, O4, hs4⟩
    · rw [if_neg hc] at hd3 hpv hht
      subst hd3 hht hpv
      simp (disch := first | assumption | omega | (simp only [wkD, oneCell, Option.isSome_some, *]; done) | (simp only [wkE, ne_eq]; omega)) only [g0, g1, g2, g3, g4, g10, g11, g12, hc, wk0, wk1, wk2, wk3, wk4, wk5, X_region, X_seq, X_block, X_loop, X_cond, Y_box, Y_un, Y_store, Y_append, Y_makeMap, Y_buildSlice, ibin_shl, ibin_shr, ibin_and, List.set_cons_zero, List.set_cons_succ, List.getD_cons_zero, List.getD_cons_succ, List.map_cons, List.map_nil, ↓reduceIte, reduceCtorEq, oneCell, List.length_cons, List.length_nil, setAt, readN, bne_iff_ne, ne_eq, Nat.reduceAdd, Nat.reduceLeDiff, List.getElem?_cons_zero, List.getElem?_cons_succ, Nat.reduceMul, Option.isSome_some, layAt, Nat.reduceLT, Option.isNone_some, Option.isNone_none, beq_self_eq_true, Nat.reduceEqDiff, setParams, Int.reduceLT, Int.reduceLE, Int.reduceGT, Int.reduceGE, Int.reduceEq, Int.reduceNe, Option.map_some, Option.map_none, Option.isSome_none]
      exact mid_in ⟨rfl, rfl, rfl, rfl, rfl, rfl, rfl, rfl, rfl, rfl, rfl, O3, hs⟩
  clear O O3 hs hd3 hpv hht g0 g1 g2 g3 g4 g10 g11 g12 hcp
  rintro tm h5 ⟨hlen_, g0, g1, g2, g3, g4, g10, g11, g12, g13, g14, O, hs⟩
  simp only at g0 g1 g2 g3 g4 g10 g11 g12 g13 g14 O
  obtain ⟨w, hg_, rfl⟩ := explode hlen_
  simp only [hg_] at g0 g1 g2 g3 g4 g10 g11 g12 g13 g14
  clear hlen_ hg_
  -- a few moves may be enough
  obtain ⟨pi, hpi⟩ : ∃ pi, pi = if (wb && wp && decide (ht = Sort.Hint.increasing)) = true then Sort.partialInsertionSort ltI d3 a e else (d3, false) := ⟨_, rfl⟩
  rw [← hpi] at hE
  simp (disch := first | assumption | omega | (simp only [wkD, oneCell, Option.isSome_some, *]; done) | (simp only [wkE, ne_eq]; omega)) only [wk0, wk1, wk2, wk3, wk4, wk5, X_seq, X_block, X_loop, X_cond, Y_box, Y_un, Y_store, Y_append, Y_makeMap, Y_buildSlice, ibin_shl, ibin_shr, ibin_and, List.set_cons_zero, List.set_cons_succ, List.getD_cons_zero, List.getD_cons_succ, List.map_cons, List.map_nil, ↓reduceIte, reduceCtorEq, oneCell, List.length_cons, List.length_nil, setAt, readN, bne_iff_ne, ne_eq, Nat.reduceAdd, Nat.reduceLeDiff, List.getElem?_cons_zero, List.getElem?_cons_succ, Nat.reduceMul, Option.isSome_some, layAt, Nat.reduceLT, Option.isNone_some, Option.isNone_none, beq_self_eq_true, Nat.reduceEqDiff, setParams, Int.reduceLT, Int.reduceLE, Int.reduceGT, Int.reduceGE, Int.reduceEq, Int.reduceNe, Option.map_some, Option.map_none, Option.isSome_none]
  refine X_cut1 (fun s => s.tmps.length = 148 ∧ s.tmps.getD 0 undefV = .slice (some ⟨b, 0, sp⟩) m cap ∧ s.tmps.getD 1 undefV = .int .i64 ((a : Nat) : Int) ∧ s.tmps.getD 2 undefV = .int .i64 ((e : Nat) : Int) ∧ s.tmps.getD 3 undefV = .int .i64 ((lm2 : Nat) : Int) ∧ s.tmps.getD 4 undefV = .func (.func 27) #[] #[] ∧ s.tmps.getD 10 undefV = .bool wb ∧ s.tmps.getD 11 undefV = .bool wp ∧ s.tmps.getD 12 undefV = .int .i64 ((e - a : Nat) : Int) ∧ s.tmps.getD 13 undefV = .int .i64 ((pv : Nat) : Int) ∧ Has ro s.h (Ar b pi.1 rest zz t :: R) ∧ pi.1.size = m ∧ ¬ pi.2 = true) ?_ ?_
  · by_cases hall : (wb && wp && decide (ht = Sort.Hint.increasing)) = true
    · rw [if_pos hall] at hpi
      simp only [Bool.and_eq_true, decide_eq_true_eq] at hall
      obtain ⟨⟨rfl, rfl⟩, hh⟩ := hall
      simp (disch := first | assumption | omega | (simp only [wkD, oneCell, Option.isSome_some, *]; done) | (simp only [wkE, ne_eq]; omega)) only [g0, g1, g2, g3, g4, g10, g11, g12, g13, g14, hintZ_one, hh, wk0, wk1, wk2, wk3, wk4, wk5, X_region, X_seq, X_block, X_loop, X_cond, Y_box, Y_un, Y_store, Y_append, Y_makeMap, Y_buildSlice, ibin_shl, ibin_shr, ibin_and, List.set_cons_zero, List.set_cons_succ, List.getD_cons_zero, List.getD_cons_succ, List.map_cons, List.map_nil, ↓reduceIte, reduceCtorEq, oneCell, List.length_cons, List.length_nil, setAt, readN, bne_iff_ne, ne_eq, Nat.reduceAdd, Nat.reduceLeDiff, List.getElem?_cons_zero, List.getElem?_cons_succ, Nat.reduceMul, Option.isSome_some, layAt, Nat.reduceLT, Option.isNone_some, Option.isNone_none, beq_self_eq_true, Nat.reduceEqDiff, setParams, Int.reduceLT, Int.reduceLE, Int.reduceGT, Int.reduceGE, Int.reduceEq, Int.reduceNe, Option.map_some, Option.map_none, Option.isSome_none]
      refine Z_is (pins_ok (n := n + 3) (by omega) (by omega) hs O (by omega) (by omega)) ?_
      rintro v6 h6 ⟨rfl, O6, hs6⟩
      simp only at O6
      rw [← hpi] at O6 hs6 ⊢
      by_cases h2 : pi.2 = true
      · rw [if_pos h2] at hE
        simp (disch := first | assumption | omega | (simp only [wkD, oneCell, Option.isSome_some, *]; done) | (simp only [wkE, ne_eq]; omega)) only [h2, wk0, wk1, wk2, wk3, wk4, wk5, X_region, X_seq, X_block, X_loop, X_cond, Y_box, Y_un, Y_store, Y_append, Y_makeMap, Y_buildSlice, ibin_shl, ibin_shr, ibin_and, List.set_cons_zero, List.set_cons_succ, List.getD_cons_zero, List.getD_cons_succ, List.map_cons, List.map_nil, ↓reduceIte, reduceCtorEq, oneCell, List.length_cons, List.length_nil, setAt, readN, bne_iff_ne, ne_eq, Nat.reduceAdd, Nat.reduceLeDiff, List.getElem?_cons_zero, List.getElem?_cons_succ, Nat.reduceMul, Option.isSome_some, layAt, Nat.reduceLT, Option.isNone_some, Option.isNone_none, beq_self_eq_true, Nat.reduceEqDiff, setParams, Int.reduceLT, Int.reduceLE, Int.reduceGT, Int.reduceGE, Int.reduceEq, Int.reduceNe, Option.map_some, Option.map_none, Option.isSome_none]
        refine mid_ret ?_
        simp (disch := first | assumption | omega | (simp only [wkD, oneCell, Option.isSome_some, *]; done) | (simp only [wkE, ne_eq]; omega)) only [wk0, wk1, wk2, wk3, wk4, wk5, X_region, X_seq, X_block, X_loop, X_cond, Y_box, Y_un, Y_store, Y_append, Y_makeMap, Y_buildSlice, ibin_shl, ibin_shr, ibin_and, List.set_cons_zero, List.set_cons_succ, List.getD_cons_zero, List.getD_cons_succ, List.map_cons, List.map_nil, ↓reduceIte, reduceCtorEq, oneCell, List.length_cons, List.length_nil, setAt, readN, bne_iff_ne, ne_eq, Nat.reduceAdd, Nat.reduceLeDiff, List.getElem?_cons_zero, List.getElem?_cons_succ, Nat.reduceMul, Option.isSome_some, layAt, Nat.reduceLT, Option.isNone_some, Option.isNone_none, beq_self_eq_true, Nat.reduceEqDiff, setParams, Int.reduceLT, Int.reduceLE, Int.reduceGT, Int.reduceGE, Int.reduceEq, Int.reduceNe, Option.map_some, Option.map_none, Option.isSome_none]
        refine Is_in ?_
        simp (disch := first | assumption | omega | (simp only [wkD, oneCell, Option.isSome_some, *]; done) | (simp only [wkE, ne_eq]; omega)) only [wk0, wk1, wk2, wk3, wk4, wk5, X_region, X_seq, X_block, X_loop, X_cond, Y_box, Y_un, Y_store, Y_append, Y_makeMap, Y_buildSlice, ibin_shl, ibin_shr, ibin_and, List.set_cons_zero, List.set_cons_succ, List.getD_cons_zero, List.getD_cons_succ, List.map_cons, List.map_nil, ↓reduceIte, reduceCtorEq, oneCell, List.length_cons, List.length_nil, setAt, readN, bne_iff_ne, ne_eq, Nat.reduceAdd, Nat.reduceLeDiff, List.getElem?_cons_zero, List.getElem?_cons_succ, Nat.reduceMul, Option.isSome_some, layAt, Nat.reduceLT, Option.isNone_some, Option.isNone_none, beq_self_eq_true, Nat.reduceEqDiff, setParams, Int.reduceLT, Int.reduceLE, Int.reduceGT, Int.reduceGE, Int.reduceEq, Int.reduceNe, Option.map_some, Option.map_none, Option.isSome_none]
        rw [← hE]
        exact leaf0 ⟨O6, hs6⟩
      · simp (disch := first | assumption | omega | (simp only [wkD, oneCell, Option.isSome_some, *]; done) | (simp only [wkE, ne_eq]; omega)) only [h2, wk0, wk1, wk2, wk3, wk4, wk5, X_region, X_seq, X_block, X_loop, X_cond, Y_box, Y_un, Y_store, Y_append, Y_makeMap, Y_buildSlice, ibin_shl, ibin_shr, ibin_and, List.set_cons_zero, List.set_cons_succ, List.getD_cons_zero, List.getD_cons_succ, List.map_cons, List.map_nil, ↓reduceIte, reduceCtorEq, oneCell, List.length_cons, List.length_nil, setAt, readN, bne_iff_ne, ne_eq, Nat.reduceAdd, Nat.reduceLeDiff, List.getElem?_cons_zero, List.getElem?_cons_succ, Nat.reduceMul, Option.isSome_some, layAt, Nat.reduceLT, Option.isNone_some, Option.isNone_none, beq_self_eq_true, Nat.reduceEqDiff, setParams, Int.reduceLT, Int.reduceLE, Int.reduceGT, Int.reduceGE, Int.reduceEq, Int.reduceNe, Option.map_some, Option.map_none, Option.isSome_none]
        exact mid_in ⟨rfl, rfl, rfl, rfl, rfl, rfl, rfl, rfl, rfl, rfl, O6, hs6⟩
    · rw [if_neg hall] at hpi
      subst hpi
      have hfin : ∀ x : Heap → List Value → Prop, True := fun _ => trivial
      cases wb with
      | false =>
        simp (disch := first | assumption | omega | (simp only [wkD, oneCell, Option.isSome_some, *]; done) | (simp only [wkE, ne_eq]; omega)) only [g0, g1, g2, g3, g4, g10, g11, g12, g13, g14, wk0, wk1, wk2, wk3, wk4, wk5, X_region, X_seq, X_block, X_loop, X_cond, Y_box, Y_un, Y_store, Y_append, Y_makeMap, Y_buildSlice, ibin_shl, ibin_shr, ibin_and, List.set_cons_zero, List.set_cons_succ, List.getD_cons_zero, List.getD_cons_succ, List.map_cons, List.map_nil, ↓reduceIte, reduceCtorEq, oneCell, List.length_cons, List.length_nil, setAt, readN, bne_iff_ne, ne_eq, Nat.reduceAdd, Nat.reduceLeDiff, List.getElem?_cons_zero, List.getElem?_cons_succ, Nat.reduceMul, Option.isSome_some, layAt, Nat.reduceLT, Option.isNone_some, Option.isNone_none, beq_self_eq_true, Nat.reduceEqDiff, setParams, Int.reduceLT, Int.reduceLE, Int.reduceGT, Int.reduceGE, Int.reduceEq, Int.reduceNe, Option.map_some, Option.map_none, Option.isSome_none]
        exact mid_in ⟨rfl, rfl, rfl, rfl, rfl, rfl, rfl, rfl, rfl, rfl, O, hs⟩
      | true =>
        cases wp with
        | false =>
          simp (disch := first | assumption | omega | (simp only [wkD, oneCell, Option.isSome_some, *]; done) | (simp only [wkE, ne_eq]; omega)) only [g0, g1, g2, g3, g4, g10, g11, g12, g13, g14, wk0, wk1, wk2, wk3, wk4, wk5, X_region, X_seq, X_block, X_loop, X_cond, Y_box, Y_un, Y_store, Y_append, Y_makeMap, Y_buildSlice, ibin_shl, ibin_shr, ibin_and, List.set_cons_zero, List.set_cons_succ, List.getD_cons_zero, List.getD_cons_succ, List.map_cons, List.map_nil, ↓reduceIte, reduceCtorEq, oneCell, List.length_cons, List.length_nil, setAt, readN, bne_iff_ne, ne_eq, Nat.reduceAdd, Nat.reduceLeDiff, List.getElem?_cons_zero, List.getElem?_cons_succ, Nat.reduceMul, Option.isSome_some, layAt, Nat.reduceLT, Option.isNone_some, Option.isNone_none, beq_self_eq_true, Nat.reduceEqDiff, setParams, Int.reduceLT, Int.reduceLE, Int.reduceGT, Int.reduceGE, Int.reduceEq, Int.reduceNe, Option.map_some, Option.map_none, Option.isSome_none]
          exact mid_in ⟨rfl, rfl, rfl, rfl, rfl, rfl, rfl, rfl, rfl, rfl, O, hs⟩
        | true =>
          have hh : ¬ ht = Sort.Hint.increasing := fun e => hall (by simp [e])
          simp (disch := first | assumption | omega | (simp only [wkD, oneCell, Option.isSome_some, *]; done) | (simp only [wkE, ne_eq]; omega)) only [g0, g1, g2, g3, g4, g10, g11, g12, g13, g14, hintZ_one, hh, wk0, wk1, wk2, wk3, wk4, wk5, X_region, X_seq, X_block, X_loop, X_cond, Y_box, Y_un, Y_store, Y_append, Y_makeMap, Y_buildSlice, ibin_shl, ibin_shr, ibin_and, List.set_cons_zero, List.set_cons_succ, List.getD_cons_zero, List.getD_cons_succ, List.map_cons, List.map_nil, ↓reduceIte, reduceCtorEq, oneCell, List.length_cons, List.length_nil, setAt, readN, bne_iff_ne, ne_eq, Nat.reduceAdd, Nat.reduceLeDiff, List.getElem?_cons_zero, List.getElem?_cons_succ, Nat.reduceMul, Option.isSome_some, layAt, Nat.reduceLT, Option.isNone_some, Option.isNone_none, beq_self_eq_true, Nat.reduceEqDiff, setParams, Int.reduceLT, Int.reduceLE, Int.reduceGT, Int.reduceGE, Int.reduceEq, Int.reduceNe, Option.map_some, Option.map_none, Option.isSome_none]
          exact mid_in ⟨rfl, rfl, rfl, rfl, rfl, rfl, rfl, rfl, rfl, rfl, O, hs⟩
  clear O hs hpi g0 g1 g2 g3 g4 g10 g11 g12 g13 g14
  rintro tm h7 ⟨hlen_, g0, g1, g2, g3, g4, g10, g11, g12, g13, O, hs, h2n⟩
  simp only at g0 g1 g2 g3 g4 g10 g11 g12 g13 O
  obtain ⟨w, hg_, rfl⟩ := explode hlen_
  simp only [hg_] at g0 g1 g2 g3 g4 g10 g11 g12 g13
  clear hlen_ hg_
  rw [if_neg h2n] at hE
  generalize pi.1 = d4 at O hs hE
  -- is the one ahead as great as the pivot?
  simp (disch := first | assumption | omega | (simp only [wkD, oneCell, Option.isSome_some, *]; done) | (simp only [wkE, ne_eq]; omega)) only [wk0, wk1, wk2, wk3, wk4, wk5, X_region, X_seq, X_block, X_loop, X_cond, Y_box, Y_un, Y_store, Y_append, Y_makeMap, Y_buildSlice, ibin_shl, ibin_shr, ibin_and, List.set_cons_zero, List.set_cons_succ, List.getD_cons_zero, List.getD_cons_succ, List.map_cons, List.map_nil, ↓reduceIte, reduceCtorEq, oneCell, List.length_cons, List.length_nil, setAt, readN, bne_iff_ne, ne_eq, Nat.reduceAdd, Nat.reduceLeDiff, List.getElem?_cons_zero, List.getElem?_cons_succ, Nat.reduceMul, Option.isSome_some, layAt, Nat.reduceLT, Option.isNone_some, Option.isNone_none, beq_self_eq_true, Nat.reduceEqDiff, setParams, Int.reduceLT, Int.reduceLE, Int.reduceGT, Int.reduceGE, Int.reduceEq, Int.reduceNe, Option.map_some, Option.map_none, Option.isSome_none]
  refine X_cut0 (fun s => s.tmps.length = 148 ∧ s.tmps.getD 0 undefV = .slice (some ⟨b, 0, sp⟩) m cap ∧ s.tmps.getD 1 undefV = .int .i64 ((a : Nat) : Int) ∧ s.tmps.getD 2 undefV = .int .i64 ((e : Nat) : Int) ∧ s.tmps.getD 3 undefV = .int .i64 ((lm2 : Nat) : Int) ∧ s.tmps.getD 4 undefV = .func (.func 27) #[] #[] ∧ s.tmps.getD 10 undefV = .bool wb ∧ s.tmps.getD 11 undefV = .bool wp ∧ s.tmps.getD 12 undefV = .int .i64 ((e - a : Nat) : Int) ∧ s.tmps.getD 13 undefV = .int .i64 ((pv : Nat) : Int) ∧ s.tmps.getD 97 undefV = .bool (decide (a > 0) && !ltI d4[a - 1]! d4[pv]!) ∧ Has ro s.h (Ar b d4 rest zz t :: R)) ?_ ?_
  · refine X_drawn _ fun an => ?_
    by_cases ha : 0 < a
    · have ha' : (0 : Int) < (a : Int) := by omega
      have y2 : IntKind.i64.wrap ((a : Int) - 1) = ((a - 1 : Nat) : Int) := by rw [wrap_i64 (by omega) (by omega)]; omega
      have r1 := rdA O (k := a - 1) (by omega)
      have r2 := rdA O (k := pv) (by omega)
      have c1 : (0 : Int) ≤ ((a - 1 : Nat) : Int) := by omega
      have c2 : ((a - 1 : Nat) : Int) < (m : Int) := by omega
      have c3 : (0 : Int) ≤ (pv : Int) := by omega
      have c4 : (pv : Int) < (m : Int) := by omega
      simp (disch := first | assumption | omega | (simp only [wkD, oneCell, Option.isSome_some, *]; done) | (simp only [wkE, ne_eq]; omega)) only [g0, g1, g2, g3, g4, g10, g11, g12, g13, ha', y2, r1, r2, c1, c2, c3, c4, Int.toNat_natCast, agg_ic, wk0, wk1, wk2, wk3, wk4, wk5, X_region, X_seq, X_block, X_loop, X_cond, Y_box, Y_un, Y_store, Y_append, Y_makeMap, Y_buildSlice, ibin_shl, ibin_shr, ibin_and, List.set_cons_zero, List.set_cons_succ, List.getD_cons_zero, List.getD_cons_succ, List.map_cons, List.map_nil, ↓reduceIte, reduceCtorEq, oneCell, List.length_cons, List.length_nil, setAt, readN, bne_iff_ne, ne_eq, Nat.reduceAdd, Nat.reduceLeDiff, List.getElem?_cons_zero, List.getElem?_cons_succ, Nat.reduceMul, Option.isSome_some, layAt, Nat.reduceLT, Option.isNone_some, Option.isNone_none, beq_self_eq_true, Nat.reduceEqDiff, setParams, Int.reduceLT, Int.reduceLE, Int.reduceGT, Int.reduceGE, Int.reduceEq, Int.reduceNe, Option.map_some, Option.map_none, Option.isSome_none]
      refine DB_is (cmp_ok (n := n + 4) (by omega) O.fine d4[a - 1]! d4[pv]!) ?_
      rintro v8 h8 ⟨rfl, e8⟩
      simp only at e8
      replace O := O.ext e8
      by_cases hc : cmpI d4[a - 1]! d4[pv]! < 0
      · simp (disch := first | assumption | omega | (simp only [wkD, oneCell, Option.isSome_some, *]; done) | (simp only [wkE, ne_eq]; omega)) only [hc, wk0, wk1, wk2, wk3, wk4, wk5, X_region, X_seq, X_block, X_loop, X_cond, Y_box, Y_un, Y_store, Y_append, Y_makeMap, Y_buildSlice, ibin_shl, ibin_shr, ibin_and, List.set_cons_zero, List.set_cons_succ, List.getD_cons_zero, List.getD_cons_succ, List.map_cons, List.map_nil, ↓reduceIte, reduceCtorEq, oneCell, List.length_cons, List.length_nil, setAt, readN, bne_iff_ne, ne_eq, Nat.reduceAdd, Nat.reduceLeDiff, List.getElem?_cons_zero, List.getElem?_cons_succ, Nat.reduceMul, Option.isSome_some, layAt, Nat.reduceLT, Option.isNone_some, Option.isNone_none, beq_self_eq_true, Nat.reduceEqDiff, setParams, Int.reduceLT, Int.reduceLE, Int.reduceGT, Int.reduceGE, Int.reduceEq, Int.reduceNe, Option.map_some, Option.map_none, Option.isSome_none]
        exact mid_in ⟨rfl, rfl, rfl, rfl, rfl, rfl, rfl, rfl, rfl, rfl, by rw [ltI_t hc, decide_eq_true ha]; rfl, O⟩
      · simp (disch := first | assumption | omega | (simp only [wkD, oneCell, Option.isSome_some, *]; done) | (simp only [wkE, ne_eq]; omega)) only [hc, wk0, wk1, wk2, wk3, wk4, wk5, X_region, X_seq, X_block, X_loop, X_cond, Y_box, Y_un, Y_store, Y_append, Y_makeMap, Y_buildSlice, ibin_shl, ibin_shr, ibin_and, List.set_cons_zero, List.set_cons_succ, List.getD_cons_zero, List.getD_cons_succ, List.map_cons, List.map_nil, ↓reduceIte, reduceCtorEq, oneCell, List.length_cons, List.length_nil, setAt, readN, bne_iff_ne, ne_eq, Nat.reduceAdd, Nat.reduceLeDiff, List.getElem?_cons_zero, List.getElem?_cons_succ, Nat.reduceMul, Option.isSome_some, layAt, Nat.reduceLT, Option.isNone_some, Option.isNone_none, beq_self_eq_true, Nat.reduceEqDiff, setParams, Int.reduceLT, Int.reduceLE, Int.reduceGT, Int.reduceGE, Int.reduceEq, Int.reduceNe, Option.map_some, Option.map_none, Option.isSome_none]
        exact mid_in ⟨rfl, rfl, rfl, rfl, rfl, rfl, rfl, rfl, rfl, rfl, by rw [ltI_n hc, decide_eq_true ha]; rfl, O⟩
    · have ha' : ¬ (0 : Int) < (a : Int) := by omega
      simp (disch := first | assumption | omega | (simp only [wkD, oneCell, Option.isSome_some, *]; done) | (simp only [wkE, ne_eq]; omega)) only [g0, g1, g2, g3, g4, g10, g11, g12, g13, ha', wk0, wk1, wk2, wk3, wk4, wk5, X_region, X_seq, X_block, X_loop, X_cond, Y_box, Y_un, Y_store, Y_append, Y_makeMap, Y_buildSlice, ibin_shl, ibin_shr, ibin_and, List.set_cons_zero, List.set_cons_succ, List.getD_cons_zero, List.getD_cons_succ, List.map_cons, List.map_nil, ↓reduceIte, reduceCtorEq, oneCell, List.length_cons, List.length_nil, setAt, readN, bne_iff_ne, ne_eq, Nat.reduceAdd, Nat.reduceLeDiff, List.getElem?_cons_zero, List.getElem?_cons_succ, Nat.reduceMul, Option.isSome_some, layAt, Nat.reduceLT, Option.isNone_some, Option.isNone_none, beq_self_eq_true, Nat.reduceEqDiff, setParams, Int.reduceLT, Int.reduceLE, Int.reduceGT, Int.reduceGE, Int.reduceEq, Int.reduceNe, Option.map_some, Option.map_none, Option.isSome_none]
      exact mid_in ⟨rfl, rfl, rfl, rfl, rfl, rfl, rfl, rfl, rfl, rfl, by rw [decide_eq_false ha]; rfl, O⟩
  clear O g0 g1 g2 g3 g4 g10 g11 g12 g13
  rintro tm h8 ⟨hlen_, g0, g1, g2, g3, g4, g10, g11, g12, g13, g97, O⟩
  simp only at g0 g1 g2 g3 g4 g10 g11 g12 g13 g97 O
  obtain ⟨w, hg_, rfl⟩ := explode hlen_
  simp only [hg_] at g0 g1 g2 g3 g4 g10 g11 g12 g13 g97
  clear hlen_ hg_
  by_cases hc : (decide (a > 0) && !ltI d4[a - 1]! d4[pv]!) = true
  · rw [if_pos hc] at hE
    simp (disch := first | assumption | omega | (simp only [wkD, oneCell, Option.isSome_some, *]; done) | (simp only [wkE, ne_eq]; omega)) only [g0, g1, g2, g3, g4, g10, g11, g12, g13, g97, hc, wk0, wk1, wk2, wk3, wk4, wk5, X_region, X_seq, X_block, X_loop, X_cond, Y_box, Y_un, Y_store, Y_append, Y_makeMap, Y_buildSlice, ibin_shl, ibin_shr, ibin_and, List.set_cons_zero, List.set_cons_succ, List.getD_cons_zero, List.getD_cons_succ, List.map_cons, List.map_nil, ↓reduceIte, reduceCtorEq, oneCell, List.length_cons, List.length_nil, setAt, readN, bne_iff_ne, ne_eq, Nat.reduceAdd, Nat.reduceLeDiff, List.getElem?_cons_zero, List.getElem?_cons_succ, Nat.reduceMul, Option.isSome_some, layAt, Nat.reduceLT, Option.isNone_some, Option.isNone_none, beq_self_eq_true, Nat.reduceEqDiff, setParams, Int.reduceLT, Int.reduceLE, Int.reduceGT, Int.reduceGE, Int.reduceEq, Int.reduceNe, Option.map_some, Option.map_none, Option.isSome_none]
    refine Z_is (peq_ok (n := n + 3) (by omega) (by omega) hs O hpv2.1 hpv2.2 (by omega)) ?_
    rintro v9 h9 ⟨rfl, O9, hs9, q1, q2⟩
    simp only at O9
    generalize Sort.partitionEqual ltI d4 a e pv = r at O9 hs9 q1 q2 hE ⊢
    obtain ⟨mid, d5⟩ := r
    simp only at O9 hs9 q1 q2 hE ⊢
    rw [dif_pos ⟨q1, q2⟩] at hE
    simp (disch := first | assumption | omega | (simp only [wkD, oneCell, Option.isSome_some, *]; done) | (simp only [wkE, ne_eq]; omega)) only [wk0, wk1, wk2, wk3, wk4, wk5, X_region, X_seq, X_block, X_loop, X_cond, Y_box, Y_un, Y_store, Y_append, Y_makeMap, Y_buildSlice, ibin_shl, ibin_shr, ibin_and, List.set_cons_zero, List.set_cons_succ, List.getD_cons_zero, List.getD_cons_succ, List.map_cons, List.map_nil, ↓reduceIte, reduceCtorEq, oneCell, List.length_cons, List.length_nil, setAt, readN, bne_iff_ne, ne_eq, Nat.reduceAdd, Nat.reduceLeDiff, List.getElem?_cons_zero, List.getElem?_cons_succ, Nat.reduceMul, Option.isSome_some, layAt, Nat.reduceLT, Option.isNone_some, Option.isNone_none, beq_self_eq_true, Nat.reduceEqDiff, setParams, Int.reduceLT, Int.reduceLE, Int.reduceGT, Int.reduceGE, Int.reduceEq, Int.reduceNe, Option.map_some, Option.map_none, Option.isSome_none]
    exact Is_in ⟨e - mid, by omega, mid, e, lm2, wb, wp, d5, rfl, rfl, rfl, rfl, rfl, rfl, rfl, rfl, rfl, rfl, by omega, by omega, by omega, hlm3, hs9, O9, hE⟩
  · rw [if_neg hc] at hE
    simp (disch := first | assumption | omega | (simp only [wkD, oneCell, Option.isSome_some, *]; done) | (simp only [wkE, ne_eq]; omega)) only [g0, g1, g2, g3, g4, g10, g11, g12, g13, g97, hc, wk0, wk1, wk2, wk3, wk4, wk5, X_region, X_seq, X_block, X_loop, X_cond, Y_box, Y_un, Y_store, Y_append, Y_makeMap, Y_buildSlice, ibin_shl, ibin_shr, ibin_and, List.set_cons_zero, List.set_cons_succ, List.getD_cons_zero, List.getD_cons_succ, List.map_cons, List.map_nil, ↓reduceIte, reduceCtorEq, oneCell, List.length_cons, List.length_nil, setAt, readN, bne_iff_ne, ne_eq, Nat.reduceAdd, Nat.reduceLeDiff, List.getElem?_cons_zero, List.getElem?_cons_succ, Nat.reduceMul, Option.isSome_some, layAt, Nat.reduceLT, Option.isNone_some, Option.isNone_none, beq_self_eq_true, Nat.reduceEqDiff, setParams, Int.reduceLT, Int.reduceLE, Int.reduceGT, Int.reduceGE, Int.reduceEq, Int.reduceNe, Option.map_some, Option.map_none, Option.isSome_none]
    refine Z_is (part_ok (n := n + 3) (by omega) (by omega) hs O hpv2.1 hpv2.2 (by omega)) ?_
    rintro v9 h9 ⟨rfl, O9, hs9⟩
    simp only at O9
    have q := Sort.partition_holds ltI lt_swo d4 a e pv hpv2.1 hpv2.2 (by omega)
    have q1 := q.1
    have q2 := q.2.1
    clear q
    generalize Sort.partition ltI d4 a e pv = r at O9 hs9 q1 q2 hE ⊢
    obtain ⟨mid, ap, d5⟩ := r
    simp only at O9 hs9 q1 q2 hE ⊢
    rw [dif_pos ⟨q1, q2⟩] at hE
    have y2 : IntKind.i64.wrap ((mid : Int) - (a : Int)) = ((mid - a : Nat) : Int) := by rw [wrap_i64 (by omega) (by omega)]; omega
    have y3 : IntKind.i64.wrap ((e : Int) - (mid : Int)) = ((e - mid : Nat) : Int) := by rw [wrap_i64 (by omega) (by omega)]; omega
    have y4 : IntKind.i64.wrap (((e - a : Nat) : Int).tdiv 8) = (((e - a) / 8 : Nat) : Int) := by rw [show (((e - a : Nat) : Int).tdiv 8) = (((e - a) / 8 : Nat) : Int) from rfl, wrap_i64 (by omega) (by omega)]
    have y5 : IntKind.i64.wrap ((mid : Int) + 1) = ((mid + 1 : Nat) : Int) := by rw [wrap_i64 (by omega) (by omega)]; omega
    by_cases hlr : mid - a < e - mid
    · have hlr' : ((mid - a : Nat) : Int) < ((e - mid : Nat) : Int) := by omega
      rw [if_pos hlr] at hE
      simp (disch := first | assumption | omega | (simp only [wkD, oneCell, Option.isSome_some, *]; done) | (simp only [wkE, ne_eq]; omega)) only [y2, y3, y4, hlr', wk0, wk1, wk2, wk3, wk4, wk5, X_region, X_seq, X_block, X_loop, X_cond, Y_box, Y_un, Y_store, Y_append, Y_makeMap, Y_buildSlice, ibin_shl, ibin_shr, ibin_and, List.set_cons_zero, List.set_cons_succ, List.getD_cons_zero, List.getD_cons_succ, List.map_cons, List.map_nil, ↓reduceIte, reduceCtorEq, oneCell, List.length_cons, List.length_nil, setAt, readN, bne_iff_ne, ne_eq, Nat.reduceAdd, Nat.reduceLeDiff, List.getElem?_cons_zero, List.getElem?_cons_succ, Nat.reduceMul, Option.isSome_some, layAt, Nat.reduceLT, Option.isNone_some, Option.isNone_none, beq_self_eq_true, Nat.reduceEqDiff, setParams, Int.reduceLT, Int.reduceLE, Int.reduceGT, Int.reduceGE, Int.reduceEq, Int.reduceNe, Option.map_some, Option.map_none, Option.isSome_none]
      refine Z_is ((ih a mid (by omega)).ok hs9 O9 q1 (by omega) hlm3) ?_
      rintro v10 h10 ⟨O10, hs10⟩
      simp only at O10
      have hb : decide ((((e - a) / 8 : Nat) : Int) ≤ ((mid - a : Nat) : Int)) = decide (mid - a ≥ (e - a) / 8) := by rw [decide_eq_decide]; omega
      simp (disch := first | assumption | omega | (simp only [wkD, oneCell, Option.isSome_some, *]; done) | (simp only [wkE, ne_eq]; omega)) only [y5, wk0, wk1, wk2, wk3, wk4, wk5, X_region, X_seq, X_block, X_loop, X_cond, Y_box, Y_un, Y_store, Y_append, Y_makeMap, Y_buildSlice, ibin_shl, ibin_shr, ibin_and, List.set_cons_zero, List.set_cons_succ, List.getD_cons_zero, List.getD_cons_succ, List.map_cons, List.map_nil, ↓reduceIte, reduceCtorEq, oneCell, List.length_cons, List.length_nil, setAt, readN, bne_iff_ne, ne_eq, Nat.reduceAdd, Nat.reduceLeDiff, List.getElem?_cons_zero, List.getElem?_cons_succ, Nat.reduceMul, Option.isSome_some, layAt, Nat.reduceLT, Option.isNone_some, Option.isNone_none, beq_self_eq_true, Nat.reduceEqDiff, setParams, Int.reduceLT, Int.reduceLE, Int.reduceGT, Int.reduceGE, Int.reduceEq, Int.reduceNe, Option.map_some, Option.map_none, Option.isSome_none]
      rw [hb]
      exact Is_in ⟨e - (mid + 1), by omega, mid + 1, e, lm2, _, ap, _, rfl, rfl, rfl, rfl, rfl, rfl, rfl, rfl, rfl, rfl, by omega, by omega, by omega, hlm3, hs10, O10, hE⟩
    · have hlr' : ¬ ((mid - a : Nat) : Int) < ((e - mid : Nat) : Int) := by omega
      rw [if_neg hlr] at hE
      simp (disch := first | assumption | omega | (simp only [wkD, oneCell, Option.isSome_some, *]; done) | (simp only [wkE, ne_eq]; omega)) only [y2, y3, y4, hlr', y5, wk0, wk1, wk2, wk3, wk4, wk5, X_region, X_seq, X_block, X_loop, X_cond, Y_box, Y_un, Y_store, Y_append, Y_makeMap, Y_buildSlice, ibin_shl, ibin_shr, ibin_and, List.set_cons_zero, List.set_cons_succ, List.getD_cons_zero, List.getD_cons_succ, List.map_cons, List.map_nil, ↓reduceIte, reduceCtorEq, oneCell, List.length_cons, List.length_nil, setAt, readN, bne_iff_ne, ne_eq, Nat.reduceAdd, Nat.reduceLeDiff, List.getElem?_cons_zero, List.getElem?_cons_succ, Nat.reduceMul, Option.isSome_some, layAt, Nat.reduceLT, Option.isNone_some, Option.isNone_none, beq_self_eq_true, Nat.reduceEqDiff, setParams, Int.reduceLT, Int.reduceLE, Int.reduceGT, Int.reduceGE, Int.reduceEq, Int.reduceNe, Option.map_some, Option.map_none, Option.isSome_none]
      refine Z_is ((ih (mid + 1) e (by omega)).ok hs9 O9 (by omega) (by omega) hlm3) ?_
      rintro v10 h10 ⟨O10, hs10⟩
      simp only at O10
      have hb : decide ((((e - a) / 8 : Nat) : Int) ≤ ((e - mid : Nat) : Int)) = decide (e - mid ≥ (e - a) / 8) := by rw [decide_eq_decide]; omega
      simp (disch := first | assumption | omega | (simp only [wkD, oneCell, Option.isSome_some, *]; done) | (simp only [wkE, ne_eq]; omega)) only [wk0, wk1, wk2, wk3, wk4, wk5, X_region, X_seq, X_block, X_loop, X_cond, Y_box, Y_un, Y_store, Y_append, Y_makeMap, Y_buildSlice, ibin_shl, ibin_shr, ibin_and, List.set_cons_zero, List.set_cons_succ, List.getD_cons_zero, List.getD_cons_succ, List.map_cons, List.map_nil, ↓reduceIte, reduceCtorEq, oneCell, List.length_cons, List.length_nil, setAt, readN, bne_iff_ne, ne_eq, Nat.reduceAdd, Nat.reduceLeDiff, List.getElem?_cons_zero, List.getElem?_cons_succ, Nat.reduceMul, Option.isSome_some, layAt, Nat.reduceLT, Option.isNone_some, Option.isNone_none, beq_self_eq_true, Nat.reduceEqDiff, setParams, Int.reduceLT, Int.reduceLE, Int.reduceGT, Int.reduceGE, Int.reduceEq, Int.reduceNe, Option.map_some, Option.map_none, Option.isSome_none]
      rw [hb]
      exact Is_in ⟨mid - a, by omega, a, mid, lm2, _, ap, _, rfl, rfl, rfl, rfl, rfl, rfl, rfl, rfl, rfl, rfl, by omega, by omega, by omega, hlm3, hs10, O10, hE⟩

theorem pdq_ok {n m : Nat} (hn : m + 20 < n) (hm2 : m < 65536) : ∀ (N lo hi : Nat), hi - lo ≤ N → PdqOk (n + N + 9) m lo hi
  | 0, lo, hi, h => pdq_step (n := n + 0) (by omega) hm2 fun lo' hi' h' => by omega
  | N + 1, lo, hi, h => by
    refine pdq_step (n := n + (N + 1)) (by omega) hm2 fun lo' hi' h' => ?_
    have := pdq_ok hn hm2 N lo' hi' (by omega)
    rw [show n + (N + 1) + 8 = n + N + 9 by omega]
    exact this

theorem sort_ok {n b cap zz m : Nat} {sp : Option Nat} {h : Heap} {d : Array It} {rest : List Value} {t : Bool} {ro : Nat → Option (List Value × Nat)} {R : List Rs} (hn : m + 20 < n) (hm2 : m < 65536) (hm : d.size = m) (O : Has ro h (Ar b d rest zz t :: R)) :
    (callV env (n + m + 10) (.func (.func 26) #[] #[]) [.slice (some ⟨b, 0, sp⟩) m cap, .func (.func 27) #[] #[]] h).Is fun p => Has ro p.2 (Ar b (Sort.sort ltI d) rest zz t :: R) ∧ (Sort.sort ltI d).size = m := by
  refine call_is env26 ?_
  have y1 : IntKind.u64.wrap (m : Int) = (m : Int) := wrap_u64 (by omega) (by omega)
  simp (disch := first | assumption | omega | (simp only [wkD, oneCell, Option.isSome_some, *]; done) | (simp only [wkE, ne_eq]; omega)) only [ir26, List.append_nil, List.nil_append, List.cons_append, List.length_cons, List.length_nil, Nat.reduceAdd, Nat.reduceSub, List.replicate_succ, List.replicate_zero, y1, wk0, wk1, wk2, wk3, wk4, wk5, X_region, X_seq, X_block, X_loop, X_cond, Y_box, Y_un, Y_store, Y_append, Y_makeMap, Y_buildSlice, ibin_shl, ibin_shr, ibin_and, List.set_cons_zero, List.set_cons_succ, List.getD_cons_zero, List.getD_cons_succ, List.map_cons, List.map_nil, ↓reduceIte, reduceCtorEq, oneCell, List.length_cons, List.length_nil, setAt, readN, bne_iff_ne, ne_eq, Nat.reduceAdd, Nat.reduceLeDiff, List.getElem?_cons_zero, List.getElem?_cons_succ, Nat.reduceMul, Option.isSome_some, layAt, Nat.reduceLT, Option.isNone_some, Option.isNone_none, beq_self_eq_true, Nat.reduceEqDiff, setParams, Int.reduceLT, Int.reduceLE, Int.reduceGT, Int.reduceGE, Int.reduceEq, Int.reduceNe, Option.map_some, Option.map_none, Option.isSome_none]
  refine Z_is (bits_ok (n := n + m + 7) hm2) ?_
  rintro v1 h1 ⟨rfl⟩
  simp (disch := first | assumption | omega | (simp only [wkD, oneCell, Option.isSome_some, *]; done) | (simp only [wkE, ne_eq]; omega)) only [wk0, wk1, wk2, wk3, wk4, wk5, X_region, X_seq, X_block, X_loop, X_cond, Y_box, Y_un, Y_store, Y_append, Y_makeMap, Y_buildSlice, ibin_shl, ibin_shr, ibin_and, List.set_cons_zero, List.set_cons_succ, List.getD_cons_zero, List.getD_cons_succ, List.map_cons, List.map_nil, ↓reduceIte, reduceCtorEq, oneCell, List.length_cons, List.length_nil, setAt, readN, bne_iff_ne, ne_eq, Nat.reduceAdd, Nat.reduceLeDiff, List.getElem?_cons_zero, List.getElem?_cons_succ, Nat.reduceMul, Option.isSome_some, layAt, Nat.reduceLT, Option.isNone_some, Option.isNone_none, beq_self_eq_true, Nat.reduceEqDiff, setParams, Int.reduceLT, Int.reduceLE, Int.reduceGT, Int.reduceGE, Int.reduceEq, Int.reduceNe, Option.map_some, Option.map_none, Option.isSome_none]
  have hb := bitsLen_le hm2
  refine Z_is ((pdq_ok hn hm2 m 0 m (by omega)).ok hm O (Nat.zero_le _) (Nat.le_refl _) (by omega : Sort.bitsLen m ≤ 64)) ?_
  rintro v2 h2 ⟨O2, hs2⟩
  simp only at O2
  simp (disch := first | assumption | omega | (simp only [wkD, oneCell, Option.isSome_some, *]; done) | (simp only [wkE, ne_eq]; omega)) only [wk0, wk1, wk2, wk3, wk4, wk5, X_region, X_seq, X_block, X_loop, X_cond, Y_box, Y_un, Y_store, Y_append, Y_makeMap, Y_buildSlice, ibin_shl, ibin_shr, ibin_and, List.set_cons_zero, List.set_cons_succ, List.getD_cons_zero, List.getD_cons_succ, List.map_cons, List.map_nil, ↓reduceIte, reduceCtorEq, oneCell, List.length_cons, List.length_nil, setAt, readN, bne_iff_ne, ne_eq, Nat.reduceAdd, Nat.reduceLeDiff, List.getElem?_cons_zero, List.getElem?_cons_succ, Nat.reduceMul, Option.isSome_some, layAt, Nat.reduceLT, Option.isNone_some, Option.isNone_none, beq_self_eq_true, Nat.reduceEqDiff, setParams, Int.reduceLT, Int.reduceLE, Int.reduceGT, Int.reduceGE, Int.reduceEq, Int.reduceNe, Option.map_some, Option.map_none, Option.isSome_none]
  have e : Sort.sort ltI d = Sort.pdq ltI d 0 m (Sort.bitsLen m) true true := by unfold Sort.sort; rw [hm]
  rw [e]
  exact leaf0n ⟨O2, hs2⟩

/-- What is sorted: the same ones, in order. -/
theorem sorted_perm (d : Array It) : (Sort.sort ltI d).toList.Perm d.toList ∧ ∀ i j : Nat, i < j → j < d.size → le (Sort.sort ltI d)[i]! (Sort.sort ltI d)[j]! := by
  obtain ⟨p, s⟩ := Sort.sort_sorts ltI lt_swo d
  refine ⟨?_, fun i j h1 h2 => ?_⟩
  · obtain ⟨p1, p2, p3⟩ := p
    have e1 : d.extract 0 d.size = d := by simp
    have e2 : (Sort.sort ltI d).extract 0 d.size = Sort.sort ltI d := by rw [← p1]; simp
    rw [e1, e2] at p3
    exact p3
  · have := s i j (Nat.zero_le _) h1 h2
    exact Decidable.byContradiction fun e => of_decide_eq_false this ((cmpI_lt _ _).2 e)
end Go.Proofs.Ytafaefeekilclaa
