/-
  The document's equality of messages.
-/
import Derived.Test.YtpodmgbnldmlcaaDoorFk
import Derived.Test.YtpodmgbnldmlcaaDoorEqu
namespace Go.Proofs.YtpodmgbnldmlcaaDoor
open Go Go.Ideal Go.ChangeShapes Go.RowKit
set_option maxHeartbeats 0
set_option linter.unusedSimpArgs false
set_option linter.unusedVariables false
set_option maxRecDepth 100000
attribute [local irreducible] callV T.All T.Is run
section
variable {ro : Nat → Option (List Value × Nat)} {h : Heap} {R : List Rs} {m m' : Msg} {l k : List Cl}
theorem refSame_h {n : Nat} (hn : 100 < n) (hl : l.length < n) (hm : l.length ≤ 1000000) (V : ∀ h, Has ro h R → Vw 2 cc h m.cl l) (W : ∀ h, Has ro h R → Vw 2 cc h m'.cl k) (O : Has ro h R) :
    (callV env (n + 1) (.func (.func 23) #[] #[]) [mv m, mv m'] h).Is fun q => q.1 = .bool (decide (SameM m l m' k)) ∧ Has ro q.2 R := by
  refine call_is env23 ?_
  obtain ⟨p1, c1, hv1, _⟩ := (V _ O).len
  obtain ⟨p2, c2, hv2, _⟩ := (W _ O).len
  simp (disch := first | assumption | omega | (simp only [wkD, oneCell, Option.isSome_some, *]; done) | (simp only [wkE, ne_eq]; omega)) only [ir23, List.append_nil, List.nil_append, List.cons_append, List.length_cons, List.length_nil, Nat.reduceAdd, Nat.reduceSub, List.replicate_succ, List.replicate_zero, mv, wkF, X_region, X_seq, X_block, X_loop, X_cond, Y_un, Y_store, Y_append, Y_makeMap, Y_buildSlice, ibin_shl, ibin_shr, ibin_and, ↓reduceIte, reduceCtorEq, oneCell, setAt, readN, Nat.reduceAdd, Nat.reduceLeDiff, Nat.reduceMul, layAt, Nat.reduceLT, Nat.reduceEqDiff, setParams, Int.reduceLT, Int.reduceLE, Int.reduceGT, Int.reduceGE, Int.reduceEq, Int.reduceNe]
  refine Y_boxO O ?_
  intro mb h1 O1 e1
  replace O1 : Has ro h1 (Ob mb (.cells (mc m) 1 false) :: R) := O1
  simp (disch := first | assumption | omega | (simp only [wkD, oneCell, Option.isSome_some, *]; done) | (simp only [wkE, ne_eq]; omega)) only [wkF, X_region, X_seq, X_block, X_loop, X_cond, Y_un, Y_store, Y_append, Y_makeMap, Y_buildSlice, ibin_shl, ibin_shr, ibin_and, ↓reduceIte, reduceCtorEq, oneCell, setAt, readN, Nat.reduceAdd, Nat.reduceLeDiff, Nat.reduceMul, layAt, Nat.reduceLT, Nat.reduceEqDiff, setParams, Int.reduceLT, Int.reduceLE, Int.reduceGT, Int.reduceGE, Int.reduceEq, Int.reduceNe]
  refine Y_boxO O1 ?_
  intro nb h2 O2 e2
  replace O2 : Has ro h2 (Ob nb (.cells (mc m') 1 false) :: Ob mb (.cells (mc m) 1 false) :: R) := O2
  obtain ⟨q0, q1, q2, q3, q4, q5, q6, q7, q8, _⟩ := rdm (O2.get 1 rfl)
  obtain ⟨u0, u1, u2, u3, u4, u5, u6, u7, u8, _⟩ := rdm (O2.get 0 rfl)
  rw [hv1] at q8
  rw [hv2] at u8
  have OR := O2.drop.drop
  by_cases f0 : m.kd = m'.kd
  case neg =>
    have d0 : decide (m.kd = m'.kd) = false := decide_eq_false (by omega)
    simp (disch := first | assumption | omega | (simp only [wkD, oneCell, Option.isSome_some, *]; done) | (simp only [wkE, ne_eq]; omega)) only [q0, q1, q2, q3, q4, q5, q6, q7, q8, u0, u1, u2, u3, u4, u5, u6, u7, u8, d0, wkF, X_region, X_seq, X_block, X_loop, X_cond, Y_box, Y_un, Y_store, Y_append, Y_makeMap, Y_buildSlice, ibin_shl, ibin_shr, ibin_and, ↓reduceIte, reduceCtorEq, oneCell, setAt, readN, Nat.reduceAdd, Nat.reduceLeDiff, Nat.reduceMul, layAt, Nat.reduceLT, Nat.reduceEqDiff, setParams, Int.reduceLT, Int.reduceLE, Int.reduceGT, Int.reduceGE, Int.reduceEq, Int.reduceNe]
    exact leaf1 ⟨by rw [decide_eq_false (fun h => f0 h.1)]; rfl, OR⟩
  have d0 : decide (m.kd = m'.kd) = true := decide_eq_true (by omega)
  by_cases f1 : m.cell = m'.cell
  case neg =>
    have d1 : decide (m.cell = m'.cell) = false := decide_eq_false (by omega)
    simp (disch := first | assumption | omega | (simp only [wkD, oneCell, Option.isSome_some, *]; done) | (simp only [wkE, ne_eq]; omega)) only [q0, q1, q2, q3, q4, q5, q6, q7, q8, u0, u1, u2, u3, u4, u5, u6, u7, u8, d0, d1, wkF, X_region, X_seq, X_block, X_loop, X_cond, Y_box, Y_un, Y_store, Y_append, Y_makeMap, Y_buildSlice, ibin_shl, ibin_shr, ibin_and, ↓reduceIte, reduceCtorEq, oneCell, setAt, readN, Nat.reduceAdd, Nat.reduceLeDiff, Nat.reduceMul, layAt, Nat.reduceLT, Nat.reduceEqDiff, setParams, Int.reduceLT, Int.reduceLE, Int.reduceGT, Int.reduceGE, Int.reduceEq, Int.reduceNe]
    exact leaf1 ⟨by rw [decide_eq_false (fun h => f1 h.2.1)]; rfl, OR⟩
  have d1 : decide (m.cell = m'.cell) = true := decide_eq_true (by omega)
  by_cases f2 : m.gen = m'.gen
  case neg =>
    have d2 : decide ((m.gen : Int) = (m'.gen : Int)) = false := decide_eq_false (by omega)
    simp (disch := first | assumption | omega | (simp only [wkD, oneCell, Option.isSome_some, *]; done) | (simp only [wkE, ne_eq]; omega)) only [q0, q1, q2, q3, q4, q5, q6, q7, q8, u0, u1, u2, u3, u4, u5, u6, u7, u8, d0, d1, d2, wkF, X_region, X_seq, X_block, X_loop, X_cond, Y_box, Y_un, Y_store, Y_append, Y_makeMap, Y_buildSlice, ibin_shl, ibin_shr, ibin_and, ↓reduceIte, reduceCtorEq, oneCell, setAt, readN, Nat.reduceAdd, Nat.reduceLeDiff, Nat.reduceMul, layAt, Nat.reduceLT, Nat.reduceEqDiff, setParams, Int.reduceLT, Int.reduceLE, Int.reduceGT, Int.reduceGE, Int.reduceEq, Int.reduceNe]
    exact leaf1 ⟨by rw [decide_eq_false (fun h => f2 h.2.2.2.2.2.2.1)]; rfl, OR⟩
  have d2 : decide ((m.gen : Int) = (m'.gen : Int)) = true := decide_eq_true (by omega)
  by_cases f3 : m.stamp = m'.stamp
  case neg =>
    have d3 : decide ((m.stamp : Int) = (m'.stamp : Int)) = false := decide_eq_false (by omega)
    simp (disch := first | assumption | omega | (simp only [wkD, oneCell, Option.isSome_some, *]; done) | (simp only [wkE, ne_eq]; omega)) only [q0, q1, q2, q3, q4, q5, q6, q7, q8, u0, u1, u2, u3, u4, u5, u6, u7, u8, d0, d1, d2, d3, wkF, X_region, X_seq, X_block, X_loop, X_cond, Y_box, Y_un, Y_store, Y_append, Y_makeMap, Y_buildSlice, ibin_shl, ibin_shr, ibin_and, ↓reduceIte, reduceCtorEq, oneCell, setAt, readN, Nat.reduceAdd, Nat.reduceLeDiff, Nat.reduceMul, layAt, Nat.reduceLT, Nat.reduceEqDiff, setParams, Int.reduceLT, Int.reduceLE, Int.reduceGT, Int.reduceGE, Int.reduceEq, Int.reduceNe]
    exact leaf1 ⟨by rw [decide_eq_false (fun h => f3 h.2.2.2.2.2.2.2.1)]; rfl, OR⟩
  have d3 : decide ((m.stamp : Int) = (m'.stamp : Int)) = true := decide_eq_true (by omega)
  by_cases f4 : m.prio = m'.prio
  case neg =>
    have d4 : decide (m.prio = m'.prio) = false := decide_eq_false (by omega)
    simp (disch := first | assumption | omega | (simp only [wkD, oneCell, Option.isSome_some, *]; done) | (simp only [wkE, ne_eq]; omega)) only [q0, q1, q2, q3, q4, q5, q6, q7, q8, u0, u1, u2, u3, u4, u5, u6, u7, u8, d0, d1, d2, d3, d4, wkF, X_region, X_seq, X_block, X_loop, X_cond, Y_box, Y_un, Y_store, Y_append, Y_makeMap, Y_buildSlice, ibin_shl, ibin_shr, ibin_and, ↓reduceIte, reduceCtorEq, oneCell, setAt, readN, Nat.reduceAdd, Nat.reduceLeDiff, Nat.reduceMul, layAt, Nat.reduceLT, Nat.reduceEqDiff, setParams, Int.reduceLT, Int.reduceLE, Int.reduceGT, Int.reduceGE, Int.reduceEq, Int.reduceNe]
    exact leaf1 ⟨by rw [decide_eq_false (fun h => f4 h.2.2.1)]; rfl, OR⟩
  have d4 : decide (m.prio = m'.prio) = true := decide_eq_true (by omega)
  by_cases f5 : m.hops = m'.hops
  case neg =>
    have d5 : decide (m.hops = m'.hops) = false := decide_eq_false (by omega)
    simp (disch := first | assumption | omega | (simp only [wkD, oneCell, Option.isSome_some, *]; done) | (simp only [wkE, ne_eq]; omega)) only [q0, q1, q2, q3, q4, q5, q6, q7, q8, u0, u1, u2, u3, u4, u5, u6, u7, u8, d0, d1, d2, d3, d4, d5, wkF, X_region, X_seq, X_block, X_loop, X_cond, Y_box, Y_un, Y_store, Y_append, Y_makeMap, Y_buildSlice, ibin_shl, ibin_shr, ibin_and, ↓reduceIte, reduceCtorEq, oneCell, setAt, readN, Nat.reduceAdd, Nat.reduceLeDiff, Nat.reduceMul, layAt, Nat.reduceLT, Nat.reduceEqDiff, setParams, Int.reduceLT, Int.reduceLE, Int.reduceGT, Int.reduceGE, Int.reduceEq, Int.reduceNe]
    exact leaf1 ⟨by rw [decide_eq_false (fun h => f5 h.2.2.2.1)]; rfl, OR⟩
  have d5 : decide (m.hops = m'.hops) = true := decide_eq_true (by omega)
  by_cases f6 : m.orig = m'.orig
  case neg =>
    have d6 : decide (m.orig = m'.orig) = false := decide_eq_false (by omega)
    simp (disch := first | assumption | omega | (simp only [wkD, oneCell, Option.isSome_some, *]; done) | (simp only [wkE, ne_eq]; omega)) only [q0, q1, q2, q3, q4, q5, q6, q7, q8, u0, u1, u2, u3, u4, u5, u6, u7, u8, d0, d1, d2, d3, d4, d5, d6, wkF, X_region, X_seq, X_block, X_loop, X_cond, Y_box, Y_un, Y_store, Y_append, Y_makeMap, Y_buildSlice, ibin_shl, ibin_shr, ibin_and, ↓reduceIte, reduceCtorEq, oneCell, setAt, readN, Nat.reduceAdd, Nat.reduceLeDiff, Nat.reduceMul, layAt, Nat.reduceLT, Nat.reduceEqDiff, setParams, Int.reduceLT, Int.reduceLE, Int.reduceGT, Int.reduceGE, Int.reduceEq, Int.reduceNe]
    exact leaf1 ⟨by rw [decide_eq_false (fun h => f6 h.2.2.2.2.1)]; rfl, OR⟩
  have d6 : decide (m.orig = m'.orig) = true := decide_eq_true (by omega)
  by_cases f7 : m.oth = m'.oth
  case neg =>
    have d7 : decide (m.oth = m'.oth) = false := decide_eq_false (by omega)
    simp (disch := first | assumption | omega | (simp only [wkD, oneCell, Option.isSome_some, *]; done) | (simp only [wkE, ne_eq]; omega)) only [q0, q1, q2, q3, q4, q5, q6, q7, q8, u0, u1, u2, u3, u4, u5, u6, u7, u8, d0, d1, d2, d3, d4, d5, d6, d7, wkF, X_region, X_seq, X_block, X_loop, X_cond, Y_box, Y_un, Y_store, Y_append, Y_makeMap, Y_buildSlice, ibin_shl, ibin_shr, ibin_and, ↓reduceIte, reduceCtorEq, oneCell, setAt, readN, Nat.reduceAdd, Nat.reduceLeDiff, Nat.reduceMul, layAt, Nat.reduceLT, Nat.reduceEqDiff, setParams, Int.reduceLT, Int.reduceLE, Int.reduceGT, Int.reduceGE, Int.reduceEq, Int.reduceNe]
    exact leaf1 ⟨by rw [decide_eq_false (fun h => f7 h.2.2.2.2.2.1)]; rfl, OR⟩
  have d7 : decide (m.oth = m'.oth) = true := decide_eq_true (by omega)
  by_cases f8 : l.length = k.length
  case neg =>
    have d8 : decide ((l.length : Int) = (k.length : Int)) = false := decide_eq_false (by omega)
    simp (disch := first | assumption | omega | (simp only [wkD, oneCell, Option.isSome_some, *]; done) | (simp only [wkE, ne_eq]; omega)) only [q0, q1, q2, q3, q4, q5, q6, q7, q8, u0, u1, u2, u3, u4, u5, u6, u7, u8, d0, d1, d2, d3, d4, d5, d6, d7, d8, wkF, X_region, X_seq, X_block, X_loop, X_cond, Y_box, Y_un, Y_store, Y_append, Y_makeMap, Y_buildSlice, ibin_shl, ibin_shr, ibin_and, ↓reduceIte, reduceCtorEq, oneCell, setAt, readN, Nat.reduceAdd, Nat.reduceLeDiff, Nat.reduceMul, layAt, Nat.reduceLT, Nat.reduceEqDiff, setParams, Int.reduceLT, Int.reduceLE, Int.reduceGT, Int.reduceGE, Int.reduceEq, Int.reduceNe]
    exact leaf1 ⟨by rw [decide_eq_false (fun h => f8 (congrArg List.length h.2.2.2.2.2.2.2.2))]; rfl, OR⟩
  have d8 : decide ((l.length : Int) = (k.length : Int)) = true := decide_eq_true (by omega)
  simp (disch := first | assumption | omega | (simp only [wkD, oneCell, Option.isSome_some, *]; done) | (simp only [wkE, ne_eq]; omega)) only [q0, q1, q2, q3, q4, q5, q6, q7, q8, u0, u1, u2, u3, u4, u5, u6, u7, u8, d0, d1, d2, d3, d4, d5, d6, d7, d8, wkF, X_region, X_seq, X_block, X_loop, X_cond, Y_box, Y_un, Y_store, Y_append, Y_makeMap, Y_buildSlice, ibin_shl, ibin_shr, ibin_and, ↓reduceIte, reduceCtorEq, oneCell, setAt, readN, Nat.reduceAdd, Nat.reduceLeDiff, Nat.reduceMul, layAt, Nat.reduceLT, Nat.reduceEqDiff, setParams, Int.reduceLT, Int.reduceLE, Int.reduceGT, Int.reduceGE, Int.reduceEq, Int.reduceNe]
  refine L_is (fun q s => ∃ (i : Nat), s.defers = [] ∧ s.tmps.length = 87 ∧ s.tmps.getD 2 undefV = .pointer (some ⟨mb, 0, none⟩) ∧ s.tmps.getD 3 undefV = .pointer (some ⟨nb, 0, none⟩) ∧ s.tmps.getD 5 undefV = .int .i64 (i : Int) ∧ q = l.length - i ∧ i ≤ l.length ∧ (∀ j (h1 : j < l.length) (h2 : j < k.length), j < i → l[j] = k[j]) ∧ s.h = h2) l.length ?_ (by omega) ?_
  · exact ⟨0, rfl, rfl, rfl, rfl, rfl, rfl, by omega, fun j _ _ hj => by omega, rfl⟩
  rintro q_ tm df h3 ⟨i, hd, hlen_, g2, g3, g5, hq, hi, hall, hh⟩
  simp only at hd g2 g3 g5 hh
  subst hd
  obtain ⟨w, hg_, rfl⟩ := explode hlen_
  simp only [hg_] at g2 g3 g5
  clear hlen_ hg_
  subst hh
  by_cases hlt : i < l.length
  · have hlt' : (i : Int) < (l.length : Int) := by omega
    have hlt2 : (i : Int) < (k.length : Int) := by omega
    have c0 : (0 : Int) ≤ (i : Int) := by omega
    have y1 : IntKind.i64.wrap ((i : Int) + 1) = ((i + 1 : Nat) : Int) := by rw [wrap_i64 (by omega) (by omega)]; omega
    obtain ⟨b1, o1, s1, d1', hx1, k1⟩ := rdW cc_len (V _ OR) (i := i) hlt
    obtain ⟨b2, o2, s2, d2', hx2, k2⟩ := rdW cc_len (W _ OR) (i := i) (by omega)
    rw [hx1] at hv1
    rw [hx2] at hv2
    cases hv1
    cases hv2
    simp (disch := first | assumption | omega | (simp only [wkD, oneCell, Option.isSome_some, *]; done) | (simp only [wkE, ne_eq]; omega)) only [g2, g3, g5, q8, hlt', wkF, X_region, X_seq, X_block, X_loop, Y_box, Y_un, Y_store, Y_append, Y_makeMap, Y_buildSlice, ibin_shl, ibin_shr, ibin_and, ↓reduceIte, reduceCtorEq, oneCell, setAt, readN, Nat.reduceAdd, Nat.reduceLeDiff, Nat.reduceMul, layAt, Nat.reduceLT, Nat.reduceEqDiff, setParams, Int.reduceLT, Int.reduceLE, Int.reduceGT, Int.reduceGE, Int.reduceEq, Int.reduceNe]
    rw [X_cond]
    simp (disch := first | assumption | omega | (simp only [wkD, oneCell, Option.isSome_some, *]; done) | (simp only [wkE, ne_eq]; omega)) only [wkF, X_region, X_seq, X_block, X_loop, X_cond, Y_box, Y_un, Y_store, Y_append, Y_makeMap, Y_buildSlice, ibin_shl, ibin_shr, ibin_and, ↓reduceIte, reduceCtorEq, oneCell, setAt, readN, Nat.reduceAdd, Nat.reduceLeDiff, Nat.reduceMul, layAt, Nat.reduceLT, Nat.reduceEqDiff, setParams, Int.reduceLT, Int.reduceLE, Int.reduceGT, Int.reduceGE, Int.reduceEq, Int.reduceNe]
    refine X_drawn _ fun an => ?_
    by_cases he : l[i] = k[i]
    · simp (disch := first | assumption | omega | (simp only [wkD, oneCell, Option.isSome_some, *]; done) | (simp only [wkE, ne_eq]; omega)) only [g2, g3, g5, q8, u8, hlt', hlt2, c0, k1, k2, Int.toNat_natCast, vEqCl, he, y1, wkF, X_region, X_seq, X_block, X_loop, X_cond, Y_box, Y_un, Y_store, Y_append, Y_makeMap, Y_buildSlice, ibin_shl, ibin_shr, ibin_and, ↓reduceIte, reduceCtorEq, oneCell, setAt, readN, Nat.reduceAdd, Nat.reduceLeDiff, Nat.reduceMul, layAt, Nat.reduceLT, Nat.reduceEqDiff, setParams, Int.reduceLT, Int.reduceLE, Int.reduceGT, Int.reduceGE, Int.reduceEq, Int.reduceNe]
      exact Is_in ⟨l.length - (i + 1), by omega, i + 1, rfl, rfl, rfl, rfl, rfl, rfl, by omega, fun j h1 h2 hj => by
        by_cases e : j = i
        · subst e; exact he
        · exact hall j h1 h2 (by omega), rfl⟩
    · simp (disch := first | assumption | omega | (simp only [wkD, oneCell, Option.isSome_some, *]; done) | (simp only [wkE, ne_eq]; omega)) only [g2, g3, g5, q8, u8, hlt', hlt2, c0, k1, k2, Int.toNat_natCast, vEqCl, he, y1, wkF, X_region, X_seq, X_block, X_loop, X_cond, Y_box, Y_un, Y_store, Y_append, Y_makeMap, Y_buildSlice, ibin_shl, ibin_shr, ibin_and, ↓reduceIte, reduceCtorEq, oneCell, setAt, readN, Nat.reduceAdd, Nat.reduceLeDiff, Nat.reduceMul, layAt, Nat.reduceLT, Nat.reduceEqDiff, setParams, Int.reduceLT, Int.reduceLE, Int.reduceGT, Int.reduceGE, Int.reduceEq, Int.reduceNe]
      refine Is_in ?_
      simp (disch := first | assumption | omega | (simp only [wkD, oneCell, Option.isSome_some, *]; done) | (simp only [wkE, ne_eq]; omega)) only [wkF, X_region, X_seq, X_block, X_loop, X_cond, Y_box, Y_un, Y_store, Y_append, Y_makeMap, Y_buildSlice, ibin_shl, ibin_shr, ibin_and, ↓reduceIte, reduceCtorEq, oneCell, setAt, readN, Nat.reduceAdd, Nat.reduceLeDiff, Nat.reduceMul, layAt, Nat.reduceLT, Nat.reduceEqDiff, setParams, Int.reduceLT, Int.reduceLE, Int.reduceGT, Int.reduceGE, Int.reduceEq, Int.reduceNe]
      exact leaf1 ⟨by rw [decide_eq_false (fun h => he (by have e := h.2.2.2.2.2.2.2.2; subst e; rfl))]; rfl, OR⟩
  · have hlt' : ¬ (i : Int) < (l.length : Int) := by omega
    simp (disch := first | assumption | omega | (simp only [wkD, oneCell, Option.isSome_some, *]; done) | (simp only [wkE, ne_eq]; omega)) only [g2, g3, g5, q8, hlt', wkF, X_region, X_seq, X_block, X_loop, X_cond, Y_box, Y_un, Y_store, Y_append, Y_makeMap, Y_buildSlice, ibin_shl, ibin_shr, ibin_and, ↓reduceIte, reduceCtorEq, oneCell, setAt, readN, Nat.reduceAdd, Nat.reduceLeDiff, Nat.reduceMul, layAt, Nat.reduceLT, Nat.reduceEqDiff, setParams, Int.reduceLT, Int.reduceLE, Int.reduceGT, Int.reduceGE, Int.reduceEq, Int.reduceNe]
    refine Is_in ?_
    simp (disch := first | assumption | omega | (simp only [wkD, oneCell, Option.isSome_some, *]; done) | (simp only [wkE, ne_eq]; omega)) only [wkF, X_region, X_seq, X_block, X_loop, X_cond, Y_box, Y_un, Y_store, Y_append, Y_makeMap, Y_buildSlice, ibin_shl, ibin_shr, ibin_and, ↓reduceIte, reduceCtorEq, oneCell, setAt, readN, Nat.reduceAdd, Nat.reduceLeDiff, Nat.reduceMul, layAt, Nat.reduceLT, Nat.reduceEqDiff, setParams, Int.reduceLT, Int.reduceLE, Int.reduceGT, Int.reduceGE, Int.reduceEq, Int.reduceNe]
    have e : l = k := eq_upto f8 fun j h1 h2 => hall j h1 h2 (by omega)
    exact leaf1 ⟨by rw [decide_eq_true (show SameM m l m' k from ⟨f0, f1, f4, f5, f6, f7, f2, f3, e⟩)]; rfl, OR⟩
end
end Go.Proofs.YtpodmgbnldmlcaaDoor
