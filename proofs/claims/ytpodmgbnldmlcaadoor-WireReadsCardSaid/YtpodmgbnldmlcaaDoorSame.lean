/-
  When two messages are the same.
-/
import Derived.Test.YtpodmgbnldmlcaaDoorFk
import Derived.Test.YtpodmgbnldmlcaaDoorOnl
namespace Go.Proofs.YtpodmgbnldmlcaaDoor
open Go Go.Ideal Go.ChangeShapes Go.RowKit
set_option maxHeartbeats 0
set_option linter.unusedSimpArgs false
set_option linter.unusedVariables false
set_option maxRecDepth 100000
attribute [local irreducible] callV T.All T.Is run
theorem env36 : env 36 = some ir36 := rfl
theorem env37 : env 37 = some ir37 := rfl
theorem env22 : env 22 = some ir22 := rfl

/-- A claim. -/
structure Cl where
  c : Int
  g : Nat
  deriving DecidableEq
def cc (x : Cl) : List Value := [.int .i64 x.c, .int .u32 (x.g : Int)]
theorem cc_len (x : Cl) : (cc x).length = 2 := rfl
def ci (x : Int) : List Value := [.int .i64 x]
theorem ci_len (x : Int) : (ci x).length = 1 := rfl
theorem rdW {α : Type} {z : Nat} {g : α → List Value} (hg : ∀ x, (g x).length = z) {h : Heap} {v : Value} {l : List α} (V : Vw z g h v l) {i : Nat} (hi : i < l.length) : ∃ (b off : Nat) (sp : Option Nat) (c : Nat), v = .slice (some ⟨b, off, sp⟩) l.length c ∧ readC (h.get b) (off + i * z) z = some (g l[i]) := by
  obtain ⟨b, off, sp, c, hv, _, k⟩ := V.rd hg (List.getElem?_eq_getElem hi)
  exact ⟨b, off, sp, c, hv, k⟩
theorem eq_upto {α : Type} {l k : List α} (hl : l.length = k.length) (h : ∀ j (h1 : j < l.length) (h2 : j < k.length), l[j] = k[j]) : l = k := List.ext_getElem hl h
theorem vEqCl (x y : Cl) : vEqAgg true [.int, .int] (.agg (cc x).toArray) (.agg (cc y).toArray) = some (.bool (decide (x ≠ y))) := by
  obtain ⟨a, b⟩ := x
  obtain ⟨d, e⟩ := y
  have ha : ((a == d) = decide (a = d)) := rfl
  have hb : (((b : Int) == (e : Int)) = decide (b = e)) := by
    rw [Bool.eq_iff_iff, beq_iff_eq, decide_eq_true_iff]; omega
  unfold vEqAgg aggEq cc
  by_cases h1 : a = d <;> by_cases h2 : b = e <;> simp [cellsEq, cellEq, ha, hb, h1, h2]
section
variable {ro : Nat → Option (List Value × Nat)} {h : Heap} {R : List Rs} {v w : Value}

theorem eq36_h {n : Nat} {l k : List Int} (hm : l.length ≤ 1000000) (hn : l.length < n) (V : Vw 1 ci h v l) (W : Vw 1 ci h w k) : (callV env (n + 1) (.func (.func 36) #[] #[]) [v, w] h).Is fun q => q = (.bool (decide (l = k)), h) := by
  refine call_is env36 ?_
  obtain ⟨p1, c1, e1, _⟩ := V.len
  obtain ⟨p2, c2, e2, _⟩ := W.len
  by_cases hl : l.length = k.length
  · have hl' : (l.length : Int) = (k.length : Int) := by omega
    simp (disch := first | assumption | omega | (simp only [wkD, oneCell, Option.isSome_some, *]; done) | (simp only [wkE, ne_eq]; omega)) only [ir36, List.append_nil, List.nil_append, List.cons_append, List.length_cons, List.length_nil, Nat.reduceAdd, Nat.reduceSub, List.replicate_succ, List.replicate_zero, e1, e2, hl', wkF, X_region, X_seq, X_block, X_loop, X_cond, Y_box, Y_un, Y_store, Y_append, Y_makeMap, Y_buildSlice, ibin_shl, ibin_shr, ibin_and, ↓reduceIte, reduceCtorEq, oneCell, setAt, readN, Nat.reduceAdd, Nat.reduceLeDiff, Nat.reduceMul, layAt, Nat.reduceLT, Nat.reduceEqDiff, setParams, Int.reduceLT, Int.reduceLE, Int.reduceGT, Int.reduceGE, Int.reduceEq, Int.reduceNe]
    refine L_is (fun q s => ∃ (i : Nat), s.defers = [] ∧ s.tmps.length = 26 ∧ s.tmps.getD 0 undefV = v ∧ s.tmps.getD 1 undefV = w ∧ s.tmps.getD 12 undefV = .int .i64 (k.length : Int) ∧ s.tmps.getD 13 undefV = .int .i64 (i : Int) ∧ q = k.length - i ∧ i ≤ k.length ∧ (∀ j (h1 : j < l.length) (h2 : j < k.length), j < i → l[j] = k[j]) ∧ s.h = h) k.length ?_ (by omega) ?_
    · refine ⟨0, rfl, rfl, ?_, ?_, rfl, rfl, rfl, by omega, fun j _ _ hj => by omega, rfl⟩
      · rw [e1]; rfl
      · rw [e2]; rfl
    rintro q_ tm df h2 ⟨i, hd, hlen_, g0, g1, g12, g13, hq, hi, hall, hh⟩
    simp only at hd g0 g1 g12 g13 hh
    subst hd
    obtain ⟨w, hg_, rfl⟩ := explode hlen_
    simp only [hg_] at g0 g1 g12 g13
    clear hlen_ hg_
    subst hh
    by_cases hlt : i < k.length
    · have hlt' : (i : Int) < (k.length : Int) := by omega
      have c0 : (0 : Int) ≤ (i : Int) := by omega
      have y1 : IntKind.i64.wrap ((i : Int) + 1) = ((i + 1 : Nat) : Int) := by rw [wrap_i64 (by omega) (by omega)]; omega
      obtain ⟨b1, o1, s1, d1, hv, r1⟩ := rdW ci_len V (i := i) (by omega)
      obtain ⟨b2, o2, s2, d2, hw, r2⟩ := rdW ci_len W (i := i) hlt
      have hlt2 : (i : Int) < (l.length : Int) := by omega
      simp (disch := first | assumption | omega | (simp only [wkD, oneCell, Option.isSome_some, *]; done) | (simp only [wkE, ne_eq]; omega)) only [g0, g1, g12, g13, hlt', wkF, X_region, X_seq, X_block, X_loop, X_cond, Y_box, Y_un, Y_store, Y_append, Y_makeMap, Y_buildSlice, ibin_shl, ibin_shr, ibin_and, ↓reduceIte, reduceCtorEq, oneCell, setAt, readN, Nat.reduceAdd, Nat.reduceLeDiff, Nat.reduceMul, layAt, Nat.reduceLT, Nat.reduceEqDiff, setParams, Int.reduceLT, Int.reduceLE, Int.reduceGT, Int.reduceGE, Int.reduceEq, Int.reduceNe]
      rw [hv, hw]
      refine X_drawn _ fun an => ?_
      by_cases he : l[i] = k[i]
      · simp (disch := first | assumption | omega | (simp only [wkD, oneCell, Option.isSome_some, *]; done) | (simp only [wkE, ne_eq]; omega)) only [g0, g1, g12, g13, hlt', hlt2, c0, r1, r2, Int.toNat_natCast, ci, he, y1, wkF, X_region, X_seq, X_block, X_loop, X_cond, Y_box, Y_un, Y_store, Y_append, Y_makeMap, Y_buildSlice, ibin_shl, ibin_shr, ibin_and, ↓reduceIte, reduceCtorEq, oneCell, setAt, readN, Nat.reduceAdd, Nat.reduceLeDiff, Nat.reduceMul, layAt, Nat.reduceLT, Nat.reduceEqDiff, setParams, Int.reduceLT, Int.reduceLE, Int.reduceGT, Int.reduceGE, Int.reduceEq, Int.reduceNe]
        rw [← hv, ← hw]
        exact Is_in ⟨k.length - (i + 1), by omega, i + 1, rfl, rfl, rfl, rfl, rfl, rfl, rfl, by omega, fun j h1 h2 hj => by
          by_cases e : j = i
          · subst e; exact he
          · exact hall j h1 h2 (by omega), rfl⟩
      · simp (disch := first | assumption | omega | (simp only [wkD, oneCell, Option.isSome_some, *]; done) | (simp only [wkE, ne_eq]; omega)) only [g0, g1, g12, g13, hlt', hlt2, c0, r1, r2, Int.toNat_natCast, ci, he, y1, wkF, X_region, X_seq, X_block, X_loop, X_cond, Y_box, Y_un, Y_store, Y_append, Y_makeMap, Y_buildSlice, ibin_shl, ibin_shr, ibin_and, ↓reduceIte, reduceCtorEq, oneCell, setAt, readN, Nat.reduceAdd, Nat.reduceLeDiff, Nat.reduceMul, layAt, Nat.reduceLT, Nat.reduceEqDiff, setParams, Int.reduceLT, Int.reduceLE, Int.reduceGT, Int.reduceGE, Int.reduceEq, Int.reduceNe]
        refine Is_in ?_
        simp (disch := first | assumption | omega | (simp only [wkD, oneCell, Option.isSome_some, *]; done) | (simp only [wkE, ne_eq]; omega)) only [wkF, X_region, X_seq, X_block, X_loop, X_cond, Y_box, Y_un, Y_store, Y_append, Y_makeMap, Y_buildSlice, ibin_shl, ibin_shr, ibin_and, ↓reduceIte, reduceCtorEq, oneCell, setAt, readN, Nat.reduceAdd, Nat.reduceLeDiff, Nat.reduceMul, layAt, Nat.reduceLT, Nat.reduceEqDiff, setParams, Int.reduceLT, Int.reduceLE, Int.reduceGT, Int.reduceGE, Int.reduceEq, Int.reduceNe]
        have hne : l ≠ k := fun e => he (by subst e; rfl)
        exact leaf1 (by rw [decide_eq_false hne]; rfl)
    · have hlt' : ¬ (i : Int) < (k.length : Int) := by omega
      simp (disch := first | assumption | omega | (simp only [wkD, oneCell, Option.isSome_some, *]; done) | (simp only [wkE, ne_eq]; omega)) only [g0, g1, g12, g13, hlt', wkF, X_region, X_seq, X_block, X_loop, X_cond, Y_box, Y_un, Y_store, Y_append, Y_makeMap, Y_buildSlice, ibin_shl, ibin_shr, ibin_and, ↓reduceIte, reduceCtorEq, oneCell, setAt, readN, Nat.reduceAdd, Nat.reduceLeDiff, Nat.reduceMul, layAt, Nat.reduceLT, Nat.reduceEqDiff, setParams, Int.reduceLT, Int.reduceLE, Int.reduceGT, Int.reduceGE, Int.reduceEq, Int.reduceNe]
      refine Is_in ?_
      simp (disch := first | assumption | omega | (simp only [wkD, oneCell, Option.isSome_some, *]; done) | (simp only [wkE, ne_eq]; omega)) only [wkF, X_region, X_seq, X_block, X_loop, X_cond, Y_box, Y_un, Y_store, Y_append, Y_makeMap, Y_buildSlice, ibin_shl, ibin_shr, ibin_and, ↓reduceIte, reduceCtorEq, oneCell, setAt, readN, Nat.reduceAdd, Nat.reduceLeDiff, Nat.reduceMul, layAt, Nat.reduceLT, Nat.reduceEqDiff, setParams, Int.reduceLT, Int.reduceLE, Int.reduceGT, Int.reduceGE, Int.reduceEq, Int.reduceNe]
      have : l = k := eq_upto hl fun j h1 h2 => hall j h1 h2 (by omega)
      exact leaf1 (by rw [decide_eq_true this]; rfl)
  · have hl' : ¬ (l.length : Int) = (k.length : Int) := by omega
    simp (disch := first | assumption | omega | (simp only [wkD, oneCell, Option.isSome_some, *]; done) | (simp only [wkE, ne_eq]; omega)) only [ir36, List.append_nil, List.nil_append, List.cons_append, List.length_cons, List.length_nil, Nat.reduceAdd, Nat.reduceSub, List.replicate_succ, List.replicate_zero, e1, e2, hl', wkF, X_region, X_seq, X_block, X_loop, X_cond, Y_box, Y_un, Y_store, Y_append, Y_makeMap, Y_buildSlice, ibin_shl, ibin_shr, ibin_and, ↓reduceIte, reduceCtorEq, oneCell, setAt, readN, Nat.reduceAdd, Nat.reduceLeDiff, Nat.reduceMul, layAt, Nat.reduceLT, Nat.reduceEqDiff, setParams, Int.reduceLT, Int.reduceLE, Int.reduceGT, Int.reduceGE, Int.reduceEq, Int.reduceNe]
    have hne : l ≠ k := fun e => hl (by subst e; rfl)
    exact leaf1 (by rw [decide_eq_false hne]; rfl)

theorem eq37_h {n : Nat} {l k : List Cl} (hm : l.length ≤ 1000000) (hn : l.length < n) (V : Vw 2 cc h v l) (W : Vw 2 cc h w k) : (callV env (n + 1) (.func (.func 37) #[] #[]) [v, w] h).Is fun q => q = (.bool (decide (l = k)), h) := by
  refine call_is env37 ?_
  obtain ⟨p1, c1, e1, _⟩ := V.len
  obtain ⟨p2, c2, e2, _⟩ := W.len
  by_cases hl : l.length = k.length
  · have hl' : (l.length : Int) = (k.length : Int) := by omega
    simp (disch := first | assumption | omega | (simp only [wkD, oneCell, Option.isSome_some, *]; done) | (simp only [wkE, ne_eq]; omega)) only [ir37, List.append_nil, List.nil_append, List.cons_append, List.length_cons, List.length_nil, Nat.reduceAdd, Nat.reduceSub, List.replicate_succ, List.replicate_zero, e1, e2, hl', wkF, X_region, X_seq, X_block, X_loop, X_cond, Y_box, Y_un, Y_store, Y_append, Y_makeMap, Y_buildSlice, ibin_shl, ibin_shr, ibin_and, ↓reduceIte, reduceCtorEq, oneCell, setAt, readN, Nat.reduceAdd, Nat.reduceLeDiff, Nat.reduceMul, layAt, Nat.reduceLT, Nat.reduceEqDiff, setParams, Int.reduceLT, Int.reduceLE, Int.reduceGT, Int.reduceGE, Int.reduceEq, Int.reduceNe]
    refine L_is (fun q s => ∃ (i : Nat), s.defers = [] ∧ s.tmps.length = 26 ∧ s.tmps.getD 0 undefV = v ∧ s.tmps.getD 1 undefV = w ∧ s.tmps.getD 12 undefV = .int .i64 (k.length : Int) ∧ s.tmps.getD 13 undefV = .int .i64 (i : Int) ∧ q = k.length - i ∧ i ≤ k.length ∧ (∀ j (h1 : j < l.length) (h2 : j < k.length), j < i → l[j] = k[j]) ∧ s.h = h) k.length ?_ (by omega) ?_
    · refine ⟨0, rfl, rfl, ?_, ?_, rfl, rfl, rfl, by omega, fun j _ _ hj => by omega, rfl⟩
      · rw [e1]; rfl
      · rw [e2]; rfl
    rintro q_ tm df h2 ⟨i, hd, hlen_, g0, g1, g12, g13, hq, hi, hall, hh⟩
    simp only at hd g0 g1 g12 g13 hh
    subst hd
    obtain ⟨w, hg_, rfl⟩ := explode hlen_
    simp only [hg_] at g0 g1 g12 g13
    clear hlen_ hg_
    subst hh
    by_cases hlt : i < k.length
    · have hlt' : (i : Int) < (k.length : Int) := by omega
      have c0 : (0 : Int) ≤ (i : Int) := by omega
      have y1 : IntKind.i64.wrap ((i : Int) + 1) = ((i + 1 : Nat) : Int) := by rw [wrap_i64 (by omega) (by omega)]; omega
      obtain ⟨b1, o1, s1, d1, hv, r1⟩ := rdW cc_len V (i := i) (by omega)
      obtain ⟨b2, o2, s2, d2, hw, r2⟩ := rdW cc_len W (i := i) hlt
      have hlt2 : (i : Int) < (l.length : Int) := by omega
      simp (disch := first | assumption | omega | (simp only [wkD, oneCell, Option.isSome_some, *]; done) | (simp only [wkE, ne_eq]; omega)) only [g0, g1, g12, g13, hlt', wkF, X_region, X_seq, X_block, X_loop, X_cond, Y_box, Y_un, Y_store, Y_append, Y_makeMap, Y_buildSlice, ibin_shl, ibin_shr, ibin_and, ↓reduceIte, reduceCtorEq, oneCell, setAt, readN, Nat.reduceAdd, Nat.reduceLeDiff, Nat.reduceMul, layAt, Nat.reduceLT, Nat.reduceEqDiff, setParams, Int.reduceLT, Int.reduceLE, Int.reduceGT, Int.reduceGE, Int.reduceEq, Int.reduceNe]
      rw [hv, hw]
      refine X_drawn _ fun an => ?_
      by_cases he : l[i] = k[i]
      · simp (disch := first | assumption | omega | (simp only [wkD, oneCell, Option.isSome_some, *]; done) | (simp only [wkE, ne_eq]; omega)) only [g0, g1, g12, g13, hlt', hlt2, c0, r1, r2, Int.toNat_natCast, vEqCl, he, y1, wkF, X_region, X_seq, X_block, X_loop, X_cond, Y_box, Y_un, Y_store, Y_append, Y_makeMap, Y_buildSlice, ibin_shl, ibin_shr, ibin_and, ↓reduceIte, reduceCtorEq, oneCell, setAt, readN, Nat.reduceAdd, Nat.reduceLeDiff, Nat.reduceMul, layAt, Nat.reduceLT, Nat.reduceEqDiff, setParams, Int.reduceLT, Int.reduceLE, Int.reduceGT, Int.reduceGE, Int.reduceEq, Int.reduceNe]
        rw [← hv, ← hw]
        exact Is_in ⟨k.length - (i + 1), by omega, i + 1, rfl, rfl, rfl, rfl, rfl, rfl, rfl, by omega, fun j h1 h2 hj => by
          by_cases e : j = i
          · subst e; exact he
          · exact hall j h1 h2 (by omega), rfl⟩
      · simp (disch := first | assumption | omega | (simp only [wkD, oneCell, Option.isSome_some, *]; done) | (simp only [wkE, ne_eq]; omega)) only [g0, g1, g12, g13, hlt', hlt2, c0, r1, r2, Int.toNat_natCast, vEqCl, he, y1, wkF, X_region, X_seq, X_block, X_loop, X_cond, Y_box, Y_un, Y_store, Y_append, Y_makeMap, Y_buildSlice, ibin_shl, ibin_shr, ibin_and, ↓reduceIte, reduceCtorEq, oneCell, setAt, readN, Nat.reduceAdd, Nat.reduceLeDiff, Nat.reduceMul, layAt, Nat.reduceLT, Nat.reduceEqDiff, setParams, Int.reduceLT, Int.reduceLE, Int.reduceGT, Int.reduceGE, Int.reduceEq, Int.reduceNe]
        refine Is_in ?_
        simp (disch := first | assumption | omega | (simp only [wkD, oneCell, Option.isSome_some, *]; done) | (simp only [wkE, ne_eq]; omega)) only [wkF, X_region, X_seq, X_block, X_loop, X_cond, Y_box, Y_un, Y_store, Y_append, Y_makeMap, Y_buildSlice, ibin_shl, ibin_shr, ibin_and, ↓reduceIte, reduceCtorEq, oneCell, setAt, readN, Nat.reduceAdd, Nat.reduceLeDiff, Nat.reduceMul, layAt, Nat.reduceLT, Nat.reduceEqDiff, setParams, Int.reduceLT, Int.reduceLE, Int.reduceGT, Int.reduceGE, Int.reduceEq, Int.reduceNe]
        have hne : l ≠ k := fun e => he (by subst e; rfl)
        exact leaf1 (by rw [decide_eq_false hne]; rfl)
    · have hlt' : ¬ (i : Int) < (k.length : Int) := by omega
      simp (disch := first | assumption | omega | (simp only [wkD, oneCell, Option.isSome_some, *]; done) | (simp only [wkE, ne_eq]; omega)) only [g0, g1, g12, g13, hlt', wkF, X_region, X_seq, X_block, X_loop, X_cond, Y_box, Y_un, Y_store, Y_append, Y_makeMap, Y_buildSlice, ibin_shl, ibin_shr, ibin_and, ↓reduceIte, reduceCtorEq, oneCell, setAt, readN, Nat.reduceAdd, Nat.reduceLeDiff, Nat.reduceMul, layAt, Nat.reduceLT, Nat.reduceEqDiff, setParams, Int.reduceLT, Int.reduceLE, Int.reduceGT, Int.reduceGE, Int.reduceEq, Int.reduceNe]
      refine Is_in ?_
      simp (disch := first | assumption | omega | (simp only [wkD, oneCell, Option.isSome_some, *]; done) | (simp only [wkE, ne_eq]; omega)) only [wkF, X_region, X_seq, X_block, X_loop, X_cond, Y_box, Y_un, Y_store, Y_append, Y_makeMap, Y_buildSlice, ibin_shl, ibin_shr, ibin_and, ↓reduceIte, reduceCtorEq, oneCell, setAt, readN, Nat.reduceAdd, Nat.reduceLeDiff, Nat.reduceMul, layAt, Nat.reduceLT, Nat.reduceEqDiff, setParams, Int.reduceLT, Int.reduceLE, Int.reduceGT, Int.reduceGE, Int.reduceEq, Int.reduceNe]
      have : l = k := eq_upto hl fun j h1 h2 => hall j h1 h2 (by omega)
      exact leaf1 (by rw [decide_eq_true this]; rfl)
  · have hl' : ¬ (l.length : Int) = (k.length : Int) := by omega
    simp (disch := first | assumption | omega | (simp only [wkD, oneCell, Option.isSome_some, *]; done) | (simp only [wkE, ne_eq]; omega)) only [ir37, List.append_nil, List.nil_append, List.cons_append, List.length_cons, List.length_nil, Nat.reduceAdd, Nat.reduceSub, List.replicate_succ, List.replicate_zero, e1, e2, hl', wkF, X_region, X_seq, X_block, X_loop, X_cond, Y_box, Y_un, Y_store, Y_append, Y_makeMap, Y_buildSlice, ibin_shl, ibin_shr, ibin_and, ↓reduceIte, reduceCtorEq, oneCell, setAt, readN, Nat.reduceAdd, Nat.reduceLeDiff, Nat.reduceMul, layAt, Nat.reduceLT, Nat.reduceEqDiff, setParams, Int.reduceLT, Int.reduceLE, Int.reduceGT, Int.reduceGE, Int.reduceEq, Int.reduceNe]
    have hne : l ≠ k := fun e => hl (by subst e; rfl)
    exact leaf1 (by rw [decide_eq_false hne]; rfl)

/-- Two messages, with their claims, are the same. -/
def SameM (m : Msg) (l : List Cl) (m' : Msg) (k : List Cl) : Prop := m.kd = m'.kd ∧ m.cell = m'.cell ∧ m.prio = m'.prio ∧ m.hops = m'.hops ∧ m.orig = m'.orig ∧ m.oth = m'.oth ∧ m.gen = m'.gen ∧ m.stamp = m'.stamp ∧ l = k
instance (m : Msg) (l : List Cl) (m' : Msg) (k : List Cl) : Decidable (SameM m l m' k) := by unfold SameM; infer_instance
theorem Has.vwo {α : Type} {z zz : Nat} {g : α → List Value} {t : Bool} {b n : Nat} {l : List α} (O : Has ro h R) (i : Nat) (hn : l.length = n) (hi : R[i]? = some (Ob b (.cells (l.flatMap g) zz t))) : Vw z g h (.slice (some ⟨b, 0, none⟩) n n) l := by
  obtain ⟨q1, q2, q3, q4, q5⟩ := O.info hi
  subst hn
  exact ⟨_, _, rfl, Nat.le_refl _, fun _ => ⟨b, 0, none, [], [], zz, t, rfl, Or.inl rfl, rfl, by simpa using q1, Or.inr q4⟩⟩
theorem rdm {h : Heap} {mb : Nat} {m : Msg} {t : Bool} (g : h.get mb = some (.cells (mc m) 1 t)) : readC (h.get mb) 0 1 = some [.int .i64 m.kd] ∧ readC (h.get mb) 1 1 = some [.int .i64 m.cell] ∧ readC (h.get mb) 2 1 = some [.int .u32 (m.gen : Int)] ∧ readC (h.get mb) 3 1 = some [.int .u64 (m.stamp : Int)] ∧ readC (h.get mb) 4 1 = some [.int .i64 m.prio] ∧ readC (h.get mb) 5 1 = some [.int .i64 m.hops] ∧ readC (h.get mb) 6 1 = some [.int .i64 m.orig] ∧ readC (h.get mb) 7 1 = some [.int .i64 m.oth] ∧ readC (h.get mb) 8 1 = some [m.cl] ∧ readC (h.get mb) 0 9 = some (mc m) := by
  rw [g]
  exact ⟨rfl, rfl, rfl, rfl, rfl, rfl, rfl, rfl, rfl, rfl⟩
theorem same_h {n : Nat} {m m' : Msg} {l k : List Cl} (hn : 200 < n) (hl : l.length < n) (hm : l.length ≤ 1000000) (V : ∀ h, Has ro h R → Vw 2 cc h m.cl l) (W : ∀ h, Has ro h R → Vw 2 cc h m'.cl k) (O : Has ro h R) :
    (callV env (n + 2) (.func (.func 22) #[] #[]) [mv m, mv m'] h).Is fun q => q.1 = .bool (decide (SameM m l m' k)) ∧ Has ro q.2 R := by
  refine call_is env22 ?_
  simp (disch := first | assumption | omega | (simp only [wkD, oneCell, Option.isSome_some, *]; done) | (simp only [wkE, ne_eq]; omega)) only [ir22, List.append_nil, List.nil_append, List.cons_append, List.length_cons, List.length_nil, Nat.reduceAdd, Nat.reduceSub, List.replicate_succ, List.replicate_zero, mv, wkF, X_region, X_seq, X_block, X_loop, X_cond, Y_un, Y_store, Y_append, Y_makeMap, Y_buildSlice, ibin_shl, ibin_shr, ibin_and, ↓reduceIte, reduceCtorEq, oneCell, setAt, readN, Nat.reduceAdd, Nat.reduceLeDiff, Nat.reduceMul, layAt, Nat.reduceLT, Nat.reduceEqDiff, setParams, Int.reduceLT, Int.reduceLE, Int.reduceGT, Int.reduceGE, Int.reduceEq, Int.reduceNe]
  refine Y_boxO O ?_
  intro mb h1 O1 e1
  replace O1 : Has ro h1 (Ob mb (.cells (mc m) 1 false) :: R) := O1
  simp (disch := first | assumption | omega | (simp only [wkD, oneCell, Option.isSome_some, *]; done) | (simp only [wkE, ne_eq]; omega)) only [wkF, X_region, X_seq, X_block, X_loop, X_cond, Y_un, Y_store, Y_append, Y_makeMap, Y_buildSlice, ibin_shl, ibin_shr, ibin_and, ↓reduceIte, reduceCtorEq, oneCell, setAt, readN, Nat.reduceAdd, Nat.reduceLeDiff, Nat.reduceMul, layAt, Nat.reduceLT, Nat.reduceEqDiff, setParams, Int.reduceLT, Int.reduceLE, Int.reduceGT, Int.reduceGE, Int.reduceEq, Int.reduceNe]
  refine Y_boxO O1 ?_
  intro nb h2 O2 e2
  replace O2 : Has ro h2 (Ob nb (.cells (mc m') 1 false) :: Ob mb (.cells (mc m) 1 false) :: R) := O2
  obtain ⟨q0, q1, q2, q3, q4, q5, q6, q7, q8, _⟩ := rdm (O2.get 1 rfl)
  simp (disch := first | assumption | omega | (simp only [wkD, oneCell, Option.isSome_some, *]; done) | (simp only [wkE, ne_eq]; omega)) only [q0, q1, q4, q5, q6, q7, wkF, X_region, X_seq, X_block, X_loop, X_cond, Y_box, Y_un, Y_store, Y_append, Y_makeMap, ibin_shl, ibin_shr, ibin_and, ↓reduceIte, reduceCtorEq, oneCell, setAt, readN, Nat.reduceAdd, Nat.reduceLeDiff, Nat.reduceMul, layAt, Nat.reduceLT, Nat.reduceEqDiff, setParams, Int.reduceLT, Int.reduceLE, Int.reduceGT, Int.reduceGE, Int.reduceEq, Int.reduceNe]
  refine Y_buildSliceO O2 (cs := [m.kd, m.cell, m.prio, m.hops, m.orig, m.oth].flatMap ci) rfl ?_
  intro xb h3 O3 e3
  obtain ⟨q0, q1, q2, q3, q4, q5, q6, q7, q8, _⟩ := rdm (O3.get 1 rfl)
  simp (disch := first | assumption | omega | (simp only [wkD, oneCell, Option.isSome_some, *]; done) | (simp only [wkE, ne_eq]; omega)) only [q0, q1, q4, q5, q6, q7, wkF, X_region, X_seq, X_block, X_loop, X_cond, Y_box, Y_un, Y_store, Y_append, Y_makeMap, ibin_shl, ibin_shr, ibin_and, ↓reduceIte, reduceCtorEq, oneCell, setAt, readN, Nat.reduceAdd, Nat.reduceLeDiff, Nat.reduceMul, layAt, Nat.reduceLT, Nat.reduceEqDiff, setParams, Int.reduceLT, Int.reduceLE, Int.reduceGT, Int.reduceGE, Int.reduceEq, Int.reduceNe]
  refine Y_buildSliceO O3 (cs := [m'.kd, m'.cell, m'.prio, m'.hops, m'.orig, m'.oth].flatMap ci) rfl ?_
  intro yb h4 O4 e4
  have V1 : Vw 1 ci h4 (.slice (some ⟨xb, 0, none⟩) 6 6) [m.kd, m.cell, m.prio, m.hops, m.orig, m.oth] := Has.vwo O4 1 rfl rfl
  have V2 : Vw 1 ci h4 (.slice (some ⟨yb, 0, none⟩) 6 6) [m'.kd, m'.cell, m'.prio, m'.hops, m'.orig, m'.oth] := Has.vwo O4 0 rfl rfl
  obtain ⟨q0, q1, q2, q3, q4, q5, q6, q7, q8, _⟩ := rdm (O4.get 3 rfl)
  obtain ⟨u0, u1, u2, u3, u4, u5, u6, u7, u8, _⟩ := rdm (O4.get 2 rfl)
  have OR := O4.drop.drop.drop.drop
  simp (disch := first | assumption | omega | (simp only [wkD, oneCell, Option.isSome_some, *]; done) | (simp only [wkE, ne_eq]; omega)) only [wkF, X_region, X_seq, X_block, X_loop, X_cond, Y_box, Y_un, Y_store, Y_append, Y_makeMap, Y_buildSlice, ibin_shl, ibin_shr, ibin_and, ↓reduceIte, reduceCtorEq, oneCell, setAt, readN, Nat.reduceAdd, Nat.reduceLeDiff, Nat.reduceMul, layAt, Nat.reduceLT, Nat.reduceEqDiff, setParams, Int.reduceLT, Int.reduceLE, Int.reduceGT, Int.reduceGE, Int.reduceEq, Int.reduceNe]
  refine Z_is (eq36_h (n := n) (by simp) (by simp; omega) V1 V2) ?_
  rintro v5 h5 e5
  cases e5
  by_cases hx : [m.kd, m.cell, m.prio, m.hops, m.orig, m.oth] = [m'.kd, m'.cell, m'.prio, m'.hops, m'.orig, m'.oth]
  · rw [decide_eq_true hx]
    by_cases h2 : m.gen = m'.gen
    · have h2' : (m.gen : Int) = (m'.gen : Int) := by omega
      by_cases h3 : m.stamp = m'.stamp
      · have h3' : (m.stamp : Int) = (m'.stamp : Int) := by omega
        simp (disch := first | assumption | omega | (simp only [wkD, oneCell, Option.isSome_some, *]; done) | (simp only [wkE, ne_eq]; omega)) only [q2, q3, q8, u2, u3, u8, h2', h3', wkF, X_region, X_seq, X_block, X_loop, X_cond, Y_box, Y_un, Y_store, Y_append, Y_makeMap, Y_buildSlice, ibin_shl, ibin_shr, ibin_and, ↓reduceIte, reduceCtorEq, oneCell, setAt, readN, Nat.reduceAdd, Nat.reduceLeDiff, Nat.reduceMul, layAt, Nat.reduceLT, Nat.reduceEqDiff, setParams, Int.reduceLT, Int.reduceLE, Int.reduceGT, Int.reduceGE, Int.reduceEq, Int.reduceNe]
        refine Z_is (eq37_h (n := n) hm hl (V _ OR) (W _ OR)) ?_
        rintro v6 h6 e6
        cases e6
        simp (disch := first | assumption | omega | (simp only [wkD, oneCell, Option.isSome_some, *]; done) | (simp only [wkE, ne_eq]; omega)) only [wkF, X_region, X_seq, X_block, X_loop, X_cond, Y_box, Y_un, Y_store, Y_append, Y_makeMap, Y_buildSlice, ibin_shl, ibin_shr, ibin_and, ↓reduceIte, reduceCtorEq, oneCell, setAt, readN, Nat.reduceAdd, Nat.reduceLeDiff, Nat.reduceMul, layAt, Nat.reduceLT, Nat.reduceEqDiff, setParams, Int.reduceLT, Int.reduceLE, Int.reduceGT, Int.reduceGE, Int.reduceEq, Int.reduceNe]
        refine leaf1 ⟨?_, OR⟩
        have e : (SameM m l m' k) = (l = k) := by
          simp only [List.cons.injEq, and_true] at hx
          obtain ⟨a1, a2, a3, a4, a5, a6⟩ := hx
          unfold SameM
          simp only [a1, a2, a3, a4, a5, a6, h2, h3, true_and]
        simp only [e]
        cases hd : decide (l = k) <;> rfl
      · have h3' : ¬ (m.stamp : Int) = (m'.stamp : Int) := by omega
        simp (disch := first | assumption | omega | (simp only [wkD, oneCell, Option.isSome_some, *]; done) | (simp only [wkE, ne_eq]; omega)) only [q2, q3, q8, u2, u3, u8, h2', h3', wkF, X_region, X_seq, X_block, X_loop, X_cond, Y_box, Y_un, Y_store, Y_append, Y_makeMap, Y_buildSlice, ibin_shl, ibin_shr, ibin_and, ↓reduceIte, reduceCtorEq, oneCell, setAt, readN, Nat.reduceAdd, Nat.reduceLeDiff, Nat.reduceMul, layAt, Nat.reduceLT, Nat.reduceEqDiff, setParams, Int.reduceLT, Int.reduceLE, Int.reduceGT, Int.reduceGE, Int.reduceEq, Int.reduceNe]
        refine leaf1 ⟨?_, OR⟩
        rw [decide_eq_false (fun h => h3 h.2.2.2.2.2.2.2.1)]
        rfl
    · have h2' : ¬ (m.gen : Int) = (m'.gen : Int) := by omega
      simp (disch := first | assumption | omega | (simp only [wkD, oneCell, Option.isSome_some, *]; done) | (simp only [wkE, ne_eq]; omega)) only [q2, q3, q8, u2, u3, u8, h2', wkF, X_region, X_seq, X_block, X_loop, X_cond, Y_box, Y_un, Y_store, Y_append, Y_makeMap, Y_buildSlice, ibin_shl, ibin_shr, ibin_and, ↓reduceIte, reduceCtorEq, oneCell, setAt, readN, Nat.reduceAdd, Nat.reduceLeDiff, Nat.reduceMul, layAt, Nat.reduceLT, Nat.reduceEqDiff, setParams, Int.reduceLT, Int.reduceLE, Int.reduceGT, Int.reduceGE, Int.reduceEq, Int.reduceNe]
      refine leaf1 ⟨?_, OR⟩
      rw [decide_eq_false (fun h => h2 h.2.2.2.2.2.2.1)]
      rfl
  · rw [decide_eq_false hx]
    simp (disch := first | assumption | omega | (simp only [wkD, oneCell, Option.isSome_some, *]; done) | (simp only [wkE, ne_eq]; omega)) only [wkF, X_region, X_seq, X_block, X_loop, X_cond, Y_box, Y_un, Y_store, Y_append, Y_makeMap, Y_buildSlice, ibin_shl, ibin_shr, ibin_and, ↓reduceIte, reduceCtorEq, oneCell, setAt, readN, Nat.reduceAdd, Nat.reduceLeDiff, Nat.reduceMul, layAt, Nat.reduceLT, Nat.reduceEqDiff, setParams, Int.reduceLT, Int.reduceLE, Int.reduceGT, Int.reduceGE, Int.reduceEq, Int.reduceNe]
    refine leaf1 ⟨?_, OR⟩
    rw [decide_eq_false (fun h => hx (by
      obtain ⟨a1, a2, a3, a4, a5, a6, _⟩ := h
      rw [a1, a2, a3, a4, a5, a6]))]
    rfl
end
end Go.Proofs.YtpodmgbnldmlcaaDoor
