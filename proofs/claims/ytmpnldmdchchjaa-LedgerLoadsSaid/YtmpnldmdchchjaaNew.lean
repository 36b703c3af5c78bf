import Derived.Test.YtmpnldmdchchjaaFk
import Derived.Test.YtmpnldmdchchjaaSta
namespace Go.Proofs.Ytmpnldmdchchjaa
open Go Go.Ideal Go.ChangeShapes Go.RowKit
set_option maxHeartbeats 0
set_option linter.unusedSimpArgs false
set_option linter.unusedVariables false
set_option maxRecDepth 100000
attribute [local irreducible] callV T.All T.Is run
theorem env11 : env 11 = some ir11 := rfl
def Szs (home rob cells : Int) : Prop := 1 ≤ rob ∧ rob ≤ 64 ∧ 0 ≤ home ∧ home < rob ∧ 1 ≤ cells ∧ cells ≤ 1024
instance (a b c : Int) : Decidable (Szs a b c) := by unfold Szs; infer_instance
def lz (home rob cells : Int) : Ls := ⟨home, rob, cells, [], [], [(home, 1)], fun _ => []⟩
theorem lz_wf {a b c : Int} (h : Szs a b c) : Wf (lz a b c) := by
  obtain ⟨h1, h2, h3, h4, h5, h6⟩ := h
  refine ⟨⟨h1, h2, h3, h4, h5, h6⟩, fun x => ?_, fun x _ => rfl, fun x => Nat.zero_le _⟩
  show 0 ≤ e0.g ∧ e0.g ≤ 4294967295
  decide
section
variable {ro : Nat → Option (List Value × Nat)} {h : Heap} {R : List Rs} {lb ob : Nat} {S : Ls} {o : Ou} {n : Nat}
theorem new_h (a b c : Int) (O : Has ro h R) : (callV env (n + 1) (.func (.func 11) #[] #[]) [.int .i64 a, .int .i64 b, .int .i64 c] h).Is fun p =>
    (¬ Szs a b c ∧ p.1 = .tuple #[.pointer none, .int .i64 2] ∧ Has ro p.2 R) ∨ (Szs a b c ∧ ∃ lb, p.1 = .tuple #[.pointer (some ⟨lb, 0, none⟩), .int .i64 0] ∧ Has ro p.2 (Lg lb (lz a b c) :: R)) := by
  refine call_is env11 ?_
  by_cases h1 : b < 1
  · simp (disch := first | assumption | omega | (simp only [wkD, oneCell, Option.isSome_some, *]; done) | (simp only [wkE, ne_eq]; omega)) only [ir11, List.append_nil, List.nil_append, List.cons_append, List.length_cons, List.length_nil, Nat.reduceAdd, Nat.reduceSub, List.replicate_succ, List.replicate_zero, h1, wkF, X_region, X_seq, X_block, X_loop, X_cond, Y_box, Y_un, Y_store, Y_append, Y_makeMap, Y_buildSlice, ibin_shl, ibin_shr, ibin_and, ↓reduceIte, reduceCtorEq, oneCell, setAt, readN, Nat.reduceAdd, Nat.reduceLeDiff, Nat.reduceMul, layAt, Nat.reduceLT, Nat.reduceEqDiff, setParams, Int.reduceLT, Int.reduceLE, Int.reduceGT, Int.reduceGE, Int.reduceEq, Int.reduceNe]
    exact leaf2 (Or.inl ⟨fun x => by have := x.1; omega, rfl, O⟩)
  by_cases h2 : 64 < b
  · simp (disch := first | assumption | omega | (simp only [wkD, oneCell, Option.isSome_some, *]; done) | (simp only [wkE, ne_eq]; omega)) only [ir11, List.append_nil, List.nil_append, List.cons_append, List.length_cons, List.length_nil, Nat.reduceAdd, Nat.reduceSub, List.replicate_succ, List.replicate_zero, h1, h2, wkF, X_region, X_seq, X_block, X_loop, X_cond, Y_box, Y_un, Y_store, Y_append, Y_makeMap, Y_buildSlice, ibin_shl, ibin_shr, ibin_and, ↓reduceIte, reduceCtorEq, oneCell, setAt, readN, Nat.reduceAdd, Nat.reduceLeDiff, Nat.reduceMul, layAt, Nat.reduceLT, Nat.reduceEqDiff, setParams, Int.reduceLT, Int.reduceLE, Int.reduceGT, Int.reduceGE, Int.reduceEq, Int.reduceNe]
    exact leaf2 (Or.inl ⟨fun x => by have := x.2.1; omega, rfl, O⟩)
  by_cases h3 : a < 0
  · simp (disch := first | assumption | omega | (simp only [wkD, oneCell, Option.isSome_some, *]; done) | (simp only [wkE, ne_eq]; omega)) only [ir11, List.append_nil, List.nil_append, List.cons_append, List.length_cons, List.length_nil, Nat.reduceAdd, Nat.reduceSub, List.replicate_succ, List.replicate_zero, h1, h2, h3, wkF, X_region, X_seq, X_block, X_loop, X_cond, Y_box, Y_un, Y_store, Y_append, Y_makeMap, Y_buildSlice, ibin_shl, ibin_shr, ibin_and, ↓reduceIte, reduceCtorEq, oneCell, setAt, readN, Nat.reduceAdd, Nat.reduceLeDiff, Nat.reduceMul, layAt, Nat.reduceLT, Nat.reduceEqDiff, setParams, Int.reduceLT, Int.reduceLE, Int.reduceGT, Int.reduceGE, Int.reduceEq, Int.reduceNe]
    exact leaf2 (Or.inl ⟨fun x => by have := x.2.2.1; omega, rfl, O⟩)
  by_cases h4 : b ≤ a
  · simp (disch := first | assumption | omega | (simp only [wkD, oneCell, Option.isSome_some, *]; done) | (simp only [wkE, ne_eq]; omega)) only [ir11, List.append_nil, List.nil_append, List.cons_append, List.length_cons, List.length_nil, Nat.reduceAdd, Nat.reduceSub, List.replicate_succ, List.replicate_zero, h1, h2, h3, h4, wkF, X_region, X_seq, X_block, X_loop, X_cond, Y_box, Y_un, Y_store, Y_append, Y_makeMap, Y_buildSlice, ibin_shl, ibin_shr, ibin_and, ↓reduceIte, reduceCtorEq, oneCell, setAt, readN, Nat.reduceAdd, Nat.reduceLeDiff, Nat.reduceMul, layAt, Nat.reduceLT, Nat.reduceEqDiff, setParams, Int.reduceLT, Int.reduceLE, Int.reduceGT, Int.reduceGE, Int.reduceEq, Int.reduceNe]
    exact leaf2 (Or.inl ⟨fun x => by have := x.2.2.2.1; omega, rfl, O⟩)
  by_cases h5 : c < 1
  · simp (disch := first | assumption | omega | (simp only [wkD, oneCell, Option.isSome_some, *]; done) | (simp only [wkE, ne_eq]; omega)) only [ir11, List.append_nil, List.nil_append, List.cons_append, List.length_cons, List.length_nil, Nat.reduceAdd, Nat.reduceSub, List.replicate_succ, List.replicate_zero, h1, h2, h3, h4, h5, wkF, X_region, X_seq, X_block, X_loop, X_cond, Y_box, Y_un, Y_store, Y_append, Y_makeMap, Y_buildSlice, ibin_shl, ibin_shr, ibin_and, ↓reduceIte, reduceCtorEq, oneCell, setAt, readN, Nat.reduceAdd, Nat.reduceLeDiff, Nat.reduceMul, layAt, Nat.reduceLT, Nat.reduceEqDiff, setParams, Int.reduceLT, Int.reduceLE, Int.reduceGT, Int.reduceGE, Int.reduceEq, Int.reduceNe]
    exact leaf2 (Or.inl ⟨fun x => by have := x.2.2.2.2.1; omega, rfl, O⟩)
  by_cases h6 : 1024 < c
  · simp (disch := first | assumption | omega | (simp only [wkD, oneCell, Option.isSome_some, *]; done) | (simp only [wkE, ne_eq]; omega)) only [ir11, List.append_nil, List.nil_append, List.cons_append, List.length_cons, List.length_nil, Nat.reduceAdd, Nat.reduceSub, List.replicate_succ, List.replicate_zero, h1, h2, h3, h4, h5, h6, wkF, X_region, X_seq, X_block, X_loop, X_cond, Y_box, Y_un, Y_store, Y_append, Y_makeMap, Y_buildSlice, ibin_shl, ibin_shr, ibin_and, ↓reduceIte, reduceCtorEq, oneCell, setAt, readN, Nat.reduceAdd, Nat.reduceLeDiff, Nat.reduceMul, layAt, Nat.reduceLT, Nat.reduceEqDiff, setParams, Int.reduceLT, Int.reduceLE, Int.reduceGT, Int.reduceGE, Int.reduceEq, Int.reduceNe]
    exact leaf2 (Or.inl ⟨fun x => by have := x.2.2.2.2.2; omega, rfl, O⟩)
  have hs : Szs a b c := ⟨by omega, by omega, by omega, by omega, by omega, by omega⟩
  simp (disch := first | assumption | omega | (simp only [wkD, oneCell, Option.isSome_some, *]; done) | (simp only [wkE, ne_eq]; omega)) only [ir11, List.append_nil, List.nil_append, List.cons_append, List.length_cons, List.length_nil, Nat.reduceAdd, Nat.reduceSub, List.replicate_succ, List.replicate_zero, h1, h2, h3, h4, h5, h6, wkF, X_region, X_seq, X_block, X_loop, X_cond, Y_box, Y_un, Y_store, Y_append, Y_buildSlice, ibin_shl, ibin_shr, ibin_and, ↓reduceIte, reduceCtorEq, oneCell, setAt, readN, Nat.reduceAdd, Nat.reduceLeDiff, Nat.reduceMul, layAt, Nat.reduceLT, Nat.reduceEqDiff, setParams, Int.reduceLT, Int.reduceLE, Int.reduceGT, Int.reduceGE, Int.reduceEq, Int.reduceNe]
  refine Y_makeMapO O ?_
  intro eb k1 O1 _
  simp (disch := first | assumption | omega | (simp only [wkD, oneCell, Option.isSome_some, *]; done) | (simp only [wkE, ne_eq]; omega)) only [wkF, X_region, X_seq, X_block, X_loop, X_cond, Y_box, Y_un, Y_store, Y_append, Y_buildSlice, ibin_shl, ibin_shr, ibin_and, ↓reduceIte, reduceCtorEq, oneCell, setAt, readN, Nat.reduceAdd, Nat.reduceLeDiff, Nat.reduceMul, layAt, Nat.reduceLT, Nat.reduceEqDiff, setParams, Int.reduceLT, Int.reduceLE, Int.reduceGT, Int.reduceGE, Int.reduceEq, Int.reduceNe]
  refine Y_makeMapO O1 ?_
  intro qb k2 O2 _
  simp (disch := first | assumption | omega | (simp only [wkD, oneCell, Option.isSome_some, *]; done) | (simp only [wkE, ne_eq]; omega)) only [wkF, X_region, X_seq, X_block, X_loop, X_cond, Y_box, Y_un, Y_store, Y_append, Y_buildSlice, ibin_shl, ibin_shr, ibin_and, ↓reduceIte, reduceCtorEq, oneCell, setAt, readN, Nat.reduceAdd, Nat.reduceLeDiff, Nat.reduceMul, layAt, Nat.reduceLT, Nat.reduceEqDiff, setParams, Int.reduceLT, Int.reduceLE, Int.reduceGT, Int.reduceGE, Int.reduceEq, Int.reduceNe]
  refine Y_makeMapO O2 ?_
  intro tb k3 O3 _
  have M1 := Has.mpNew (K := K64) (vv := tv) O3
  have M2 := Has.mpNew (K := K64) (vv := pq) M1.swap2
  have M3 := Has.mpNew (K := K64) (vv := ev) (M2.at 2 rfl)
  obtain ⟨k4, u4, M4⟩ := M3.mpUpd 2 rfl a 1
  have u4' : vMapUpdate k3 none (.map (some tb)) (.int .i64 a) (.int .i64 1) = some k4 := u4
  simp only [List.set_cons_zero, List.set_cons_succ] at M4
  have mapI : ∀ x : Option Nat, cellsOf (.map x) = [.map x] := fun _ => rfl
  simp (disch := first | assumption | omega | (simp only [wkD, oneCell, Option.isSome_some, *]; done) | (simp only [wkE, ne_eq]; omega)) only [u4', mapI, wkF, X_region, X_seq, X_block, X_loop, X_cond, Y_un, Y_store, Y_append, Y_makeMap, Y_buildSlice, ibin_shl, ibin_shr, ibin_and, ↓reduceIte, reduceCtorEq, oneCell, setAt, readN, Nat.reduceAdd, Nat.reduceLeDiff, Nat.reduceMul, layAt, Nat.reduceLT, Nat.reduceEqDiff, setParams, Int.reduceLT, Int.reduceLE, Int.reduceGT, Int.reduceGE, Int.reduceEq, Int.reduceNe]
  refine Y_boxO M4 ?_
  intro lb k5 M5 _
  simp (disch := first | assumption | omega | (simp only [wkD, oneCell, Option.isSome_some, *]; done) | (simp only [wkE, ne_eq]; omega)) only [wkF, X_region, X_seq, X_block, X_loop, X_cond, Y_box, Y_un, Y_store, Y_append, Y_makeMap, Y_buildSlice, ibin_shl, ibin_shr, ibin_and, ↓reduceIte, reduceCtorEq, oneCell, setAt, readN, Nat.reduceAdd, Nat.reduceLeDiff, Nat.reduceMul, layAt, Nat.reduceLT, Nat.reduceEqDiff, setParams, Int.reduceLT, Int.reduceLE, Int.reduceGT, Int.reduceGE, Int.reduceEq, Int.reduceNe]
  refine leaf2 (Or.inr ⟨hs, lb, rfl, ?_⟩)
  have M6 : Has ro k5 (Ob lb (.cells (lc (lz a b c) eb qb tb) 1 false) :: Mp K64 ev eb [] :: Mp K64 pq qb [] :: Mp K64 tv tb [(a, 1)] :: R) := M5
  have M7 : Has ro k5 (Qall [] (fun _ => []) :: Ob lb (.cells (lc (lz a b c) eb qb tb) 1 false) :: Mp K64 ev eb [] :: Mp K64 pq qb [] :: Mp K64 tv tb [(a, 1)] :: R) := Has.all.2 M6
  exact Has.lgClose (S := lz a b c) ((((M7.at 4 rfl).at 4 rfl).at 4 rfl).at 4 rfl)
def RenIs (S : Ls) (r : Int) (S' : Ls) : Prop :=
  (¬ S.Rob r ∧ S' = S) ∨ (S.Rob r ∧ ∃ W, Gn S r S.N W ∧ S' = { S with W := W, told := if r = S.home then S.told else upd1 S.told r 0 })
theorem renewed_h (r : Int) (w : Wf S) (hn : 1200 < n) (O : Has ro h (Lg lb S :: R)) :
    (callV env (n + 10) (.func (.func 13) #[] #[]) [.pointer (some ⟨lb, 0, none⟩), .int .i64 r] h).Is fun p => ∃ S', RenIs S r S' ∧ Has ro p.2 (Lg lb S' :: R) := by
  refine call_is env13 ?_
  simp (disch := first | assumption | omega | (simp only [wkD, oneCell, Option.isSome_some, *]; done) | (simp only [wkE, ne_eq]; omega)) only [ir13, List.append_nil, List.nil_append, List.cons_append, List.length_cons, List.length_nil, Nat.reduceAdd, Nat.reduceSub, List.replicate_succ, List.replicate_zero, wkF, X_region, X_seq, X_block, X_loop, X_cond, Y_box, Y_un, Y_store, Y_append, Y_makeMap, Y_buildSlice, ibin_shl, ibin_shr, ibin_and, ↓reduceIte, reduceCtorEq, oneCell, setAt, readN, Nat.reduceAdd, Nat.reduceLeDiff, Nat.reduceMul, layAt, Nat.reduceLT, Nat.reduceEqDiff, setParams, Int.reduceLT, Int.reduceLE, Int.reduceGT, Int.reduceGE, Int.reduceEq, Int.reduceNe]
  refine Z_is (robot_h (n := n + 7) r O) ?_
  rintro v h1 ⟨rfl, rfl⟩
  by_cases hr : S.Rob r
  · simp (disch := first | assumption | omega | (simp only [wkD, oneCell, Option.isSome_some, *]; done) | (simp only [wkE, ne_eq]; omega)) only [hr, wkF, X_region, X_seq, X_block, X_loop, X_cond, Y_box, Y_un, Y_store, Y_append, Y_makeMap, Y_buildSlice, ibin_shl, ibin_shr, ibin_and, ↓reduceIte, reduceCtorEq, oneCell, setAt, readN, Nat.reduceAdd, Nat.reduceLeDiff, Nat.reduceMul, layAt, Nat.reduceLT, Nat.reduceEqDiff, setParams, Int.reduceLT, Int.reduceLE, Int.reduceGT, Int.reduceGE, Int.reduceEq, Int.reduceNe]
    refine Z_is (gone_h (n := n + 5) w.z r (by omega) w.q w.w8 O) ?_
    rintro v h2 ⟨W, g, O2⟩
    simp only at O2
    obtain ⟨eb, qb, tb, O3⟩ := Has.lgOpen O2
    have g1 := O3.get 0 rfl
    unfold lc at g1
    simp only at g1
    by_cases hh : r = S.home
    · have hh' : (r = S.home) = True := eq_true hh
      simp (disch := first | assumption | omega | (simp only [wkD, oneCell, Option.isSome_some, *]; done) | (simp only [wkE, ne_eq]; omega)) only [g1, hh', wkF, X_region, X_seq, X_block, X_loop, X_cond, Y_box, Y_un, Y_store, Y_append, Y_makeMap, Y_buildSlice, ibin_shl, ibin_shr, ibin_and, ↓reduceIte, reduceCtorEq, oneCell, setAt, readN, Nat.reduceAdd, Nat.reduceLeDiff, Nat.reduceMul, layAt, Nat.reduceLT, Nat.reduceEqDiff, setParams, Int.reduceLT, Int.reduceLE, Int.reduceGT, Int.reduceGE, Int.reduceEq, Int.reduceNe]
      refine leaf0n ⟨_, Or.inr ⟨hr, W, g, rfl⟩, ?_⟩
      rw [if_pos hh]
      exact O2
    · obtain ⟨h4, u4, O4⟩ := O3.mpUpd 3 rfl r 0
      have u4' : vMapUpdate h2 none (.map (some tb)) (.int .i64 r) (.int .i64 0) = some h4 := u4
      simp only [List.set_cons_zero, List.set_cons_succ] at O4
      simp (disch := first | assumption | omega | (simp only [wkD, oneCell, Option.isSome_some, *]; done) | (simp only [wkE, ne_eq]; omega)) only [g1, hh, u4', wkF, X_region, X_seq, X_block, X_loop, X_cond, Y_box, Y_un, Y_store, Y_append, Y_makeMap, Y_buildSlice, ibin_shl, ibin_shr, ibin_and, ↓reduceIte, reduceCtorEq, oneCell, setAt, readN, Nat.reduceAdd, Nat.reduceLeDiff, Nat.reduceMul, layAt, Nat.reduceLT, Nat.reduceEqDiff, setParams, Int.reduceLT, Int.reduceLE, Int.reduceGT, Int.reduceGE, Int.reduceEq, Int.reduceNe]
      refine leaf0n ⟨_, Or.inr ⟨hr, W, g, rfl⟩, ?_⟩
      rw [if_neg hh]
      exact Has.lgClose (S := { S with W := W, told := upd1 S.told r 0 }) O4
  · simp (disch := first | assumption | omega | (simp only [wkD, oneCell, Option.isSome_some, *]; done) | (simp only [wkE, ne_eq]; omega)) only [hr, wkF, X_region, X_seq, X_block, X_loop, X_cond, Y_box, Y_un, Y_store, Y_append, Y_makeMap, Y_buildSlice, ibin_shl, ibin_shr, ibin_and, ↓reduceIte, reduceCtorEq, oneCell, setAt, readN, Nat.reduceAdd, Nat.reduceLeDiff, Nat.reduceMul, layAt, Nat.reduceLT, Nat.reduceEqDiff, setParams, Int.reduceLT, Int.reduceLE, Int.reduceGT, Int.reduceGE, Int.reduceEq, Int.reduceNe]
    exact leaf0 ⟨S, Or.inl ⟨hr, rfl⟩, O⟩
def PlaIs (S : Ls) (c r e : Int) (S' : Ls) (rv : Value) (D : Rs) : Prop :=
  (¬ (S.Is c ∧ S.Rob r) ∧ e = 2 ∧ S' = S ∧ rv = .agg #[.int .i64 0, .int .i64 0, .slice none 0 0] ∧ D = Rs.emp) ∨
    ((S.Is c ∧ S.Rob r) ∧ S.E c ≠ e0 ∧ e = 140 ∧ S' = S ∧ rv = .agg #[.int .i64 0, .int .i64 0, .slice none 0 0] ∧ D = Rs.emp) ∨
    ((S.Is c ∧ S.Rob r) ∧ S.E c = e0 ∧ e = 0 ∧ S' = S.set c ⟨r, 1⟩ ∧ ∃ d, rv = .agg (wc ⟨c, ⟨r, 1⟩, d⟩).toArray ∧ D = Dt d ⟨r, 1⟩)
theorem place_h' (c r : Int) (w : Wf S) (O : Has ro h (Lg lb S :: R)) :
    (callV env (n + 10) (.func (.func 12) #[] #[]) [.pointer (some ⟨lb, 0, none⟩), .int .i64 c, .int .i64 r] h).Is fun p => ∃ rv e S' D, p.1 = .tuple #[rv, .int .i64 e] ∧ PlaIs S c r e S' rv D ∧ Has ro p.2 (Lg lb S' :: D :: R) := by
  refine call_is env12 ?_
  simp (disch := first | assumption | omega | (simp only [wkD, oneCell, Option.isSome_some, *]; done) | (simp only [wkE, ne_eq]; omega)) only [ir12, List.append_nil, List.nil_append, List.cons_append, List.length_cons, List.length_nil, Nat.reduceAdd, Nat.reduceSub, List.replicate_succ, List.replicate_zero, wkF, X_region, X_seq, X_block, X_loop, X_cond, Y_un, Y_store, Y_append, Y_makeMap, Y_buildSlice, ibin_shl, ibin_shr, ibin_and, ↓reduceIte, reduceCtorEq, oneCell, setAt, readN, Nat.reduceAdd, Nat.reduceLeDiff, Nat.reduceMul, layAt, Nat.reduceLT, Nat.reduceEqDiff, setParams, Int.reduceLT, Int.reduceLE, Int.reduceGT, Int.reduceGE, Int.reduceEq, Int.reduceNe]
  refine Y_boxO O ?_
  intro b6 h1 O1 e1
  replace O1 : Has ro h1 (Ob b6 (.cells [.int .i64 0, .int .i64 0, .slice none 0 0] 1 false) :: Lg lb S :: R) := O1
  replace O1 := O1.swap2
  have hr0 : ¬ S.rob = 0 := by have := w.z.r1; omega
  simp (disch := first | assumption | omega | (simp only [wkD, oneCell, Option.isSome_some, *]; done) | (simp only [wkE, ne_eq]; omega)) only [wkF, X_region, X_seq, X_block, X_loop, X_cond, Y_box, Y_un, Y_store, Y_append, Y_makeMap, Y_buildSlice, ibin_shl, ibin_shr, ibin_and, ↓reduceIte, reduceCtorEq, oneCell, setAt, readN, Nat.reduceAdd, Nat.reduceLeDiff, Nat.reduceMul, layAt, Nat.reduceLT, Nat.reduceEqDiff, setParams, Int.reduceLT, Int.reduceLE, Int.reduceGT, Int.reduceGE, Int.reduceEq, Int.reduceNe]
  refine Z_is (none_h (n := n + 8) O1) ?_
  rintro v h2 ⟨rfl, rfl⟩
  simp (disch := first | assumption | omega | (simp only [wkD, oneCell, Option.isSome_some, *]; done) | (simp only [wkE, ne_eq]; omega)) only [hr0, wkF, X_region, X_seq, X_block, X_loop, X_cond, Y_box, Y_un, Y_store, Y_append, Y_makeMap, Y_buildSlice, ibin_shl, ibin_shr, ibin_and, ↓reduceIte, reduceCtorEq, oneCell, setAt, readN, Nat.reduceAdd, Nat.reduceLeDiff, Nat.reduceMul, layAt, Nat.reduceLT, Nat.reduceEqDiff, setParams, Int.reduceLT, Int.reduceLE, Int.reduceGT, Int.reduceGE, Int.reduceEq, Int.reduceNe]
  refine Z_is (is_h (n := n + 7) c O1) ?_
  rintro v h2 ⟨rfl, rfl⟩
  have g6 := O1.get 1 rfl
  have p6 := O1.can 1 rfl
  have zc3 : cellsOf (.agg #[.int .i64 0, .int .i64 0, .slice none 0 0]) = [.int .i64 0, .int .i64 0, .slice none 0 0] := rfl
  have zs3 : setAt [Value.int .i64 0, .int .i64 0, .slice none 0 0] 0 [.int .i64 0, .int .i64 0, .slice none 0 0] = [.int .i64 0, .int .i64 0, .slice none 0 0] := rfl
  have zo : ∀ {h : Heap} (O1 : Has ro h (Lg lb S :: Ob b6 (.cells [.int .i64 0, .int .i64 0, .slice none 0 0] 1 false) :: R)), Has ro (h.setB b6 (.cells [.int .i64 0, .int .i64 0, .slice none 0 0] 1 false)) (Ob b6 (.cells [.int .i64 0, .int .i64 0, .slice none 0 0] 1 false) :: Lg lb S :: R) := fun O1 => (O1.set 1 rfl (.cells [.int .i64 0, .int .i64 0, .slice none 0 0] 1 false)).swap2
  by_cases hi : S.Is c
  · simp (disch := first | assumption | omega | (simp only [wkD, oneCell, Option.isSome_some, *]; done) | (simp only [wkE, ne_eq]; omega)) only [hi, wkF, X_region, X_seq, X_block, X_loop, X_cond, Y_box, Y_un, Y_store, Y_append, Y_makeMap, Y_buildSlice, ibin_shl, ibin_shr, ibin_and, ↓reduceIte, reduceCtorEq, oneCell, setAt, readN, Nat.reduceAdd, Nat.reduceLeDiff, Nat.reduceMul, layAt, Nat.reduceLT, Nat.reduceEqDiff, setParams, Int.reduceLT, Int.reduceLE, Int.reduceGT, Int.reduceGE, Int.reduceEq, Int.reduceNe]
    refine Z_is (robot_h (n := n + 7) r O1) ?_
    rintro v h2 ⟨rfl, rfl⟩
    by_cases hr : S.Rob r
    · simp (disch := first | assumption | omega | (simp only [wkD, oneCell, Option.isSome_some, *]; done) | (simp only [wkE, ne_eq]; omega)) only [hr, wkF, X_region, X_seq, X_block, X_loop, X_cond, Y_box, Y_un, Y_store, Y_append, Y_makeMap, Y_buildSlice, ibin_shl, ibin_shr, ibin_and, ↓reduceIte, reduceCtorEq, oneCell, setAt, readN, Nat.reduceAdd, Nat.reduceLeDiff, Nat.reduceMul, layAt, Nat.reduceLT, Nat.reduceEqDiff, setParams, Int.reduceLT, Int.reduceLE, Int.reduceGT, Int.reduceGE, Int.reduceEq, Int.reduceNe]
      refine Z_is (entry_h (n := n + 7) c O1) ?_
      rintro v h3 ⟨rfl, O3⟩
      simp only at O3
      simp (disch := first | assumption | omega | (simp only [wkD, oneCell, Option.isSome_some, *]; done) | (simp only [wkE, ne_eq]; omega)) only [wkF, X_region, X_seq, X_block, X_loop, X_cond, Y_box, Y_un, Y_store, Y_append, Y_makeMap, Y_buildSlice, ibin_shl, ibin_shr, ibin_and, ↓reduceIte, reduceCtorEq, oneCell, setAt, readN, Nat.reduceAdd, Nat.reduceLeDiff, Nat.reduceMul, layAt, Nat.reduceLT, Nat.reduceEqDiff, setParams, Int.reduceLT, Int.reduceLE, Int.reduceGT, Int.reduceGE, Int.reduceEq, Int.reduceNe]
      refine Z_is (first_e O3.fine) ?_
      rintro v h4 ⟨rfl, e4⟩
      simp only at e4
      have O4 := O3.ext e4
      have g4 := O4.get 1 rfl
      have p4 := O4.can 1 rfl
      by_cases he : S.E c = e0
      · have hd : decide (S.E c = e0) = true := decide_eq_true he
        simp (disch := first | assumption | omega | (simp only [wkD, oneCell, Option.isSome_some, *]; done) | (simp only [wkE, ne_eq]; omega)) only [eq_ev, hd, wkF, X_region, X_seq, X_block, X_loop, X_cond, Y_un, Y_store, Y_append, Y_makeMap, Y_buildSlice, ibin_shl, ibin_shr, ibin_and, ↓reduceIte, reduceCtorEq, oneCell, setAt, readN, Nat.reduceAdd, Nat.reduceLeDiff, Nat.reduceMul, layAt, Nat.reduceLT, Nat.reduceEqDiff, setParams, Int.reduceLT, Int.reduceLE, Int.reduceGT, Int.reduceGE, Int.reduceEq, Int.reduceNe]
        refine Y_boxO O4 ?_
        intro b8 h5 O5 e5
        replace O5 : Has ro h5 (Ob b8 (.cells [.slice none 0 0, .slice none 0 0, .slice none 0 0] 1 false) :: Lg lb S :: Ob b6 (.cells [.int .i64 0, .int .i64 0, .slice none 0 0] 1 false) :: R) := O5
        replace O5 := (Has.ogNew O5).swap2
        simp (disch := first | assumption | omega | (simp only [wkD, oneCell, Option.isSome_some, *]; done) | (simp only [wkE, ne_eq]; omega)) only [wkF, X_region, X_seq, X_block, X_loop, X_cond, Y_box, Y_un, Y_store, Y_append, Y_makeMap, Y_buildSlice, ibin_shl, ibin_shr, ibin_and, ↓reduceIte, reduceCtorEq, oneCell, setAt, readN, Nat.reduceAdd, Nat.reduceLeDiff, Nat.reduceMul, layAt, Nat.reduceLT, Nat.reduceEqDiff, setParams, Int.reduceLT, Int.reduceLE, Int.reduceGT, Int.reduceGE, Int.reduceEq, Int.reduceNe]
        refine Z_is (set_h (n := n + 6) (o := oz) c ⟨r, 1⟩ (by decide) O5) ?_
        rintro v h6 ⟨d, O6⟩
        simp only at O6
        obtain ⟨wv, pv, bv, O7⟩ := Has.ogOpen (O6.at 1 rfl)
        have g7 := O7.get 0 rfl
        have V7 := O7.vw 1 rfl
        obtain ⟨b, off, sp, c2, rfl, _, rd⟩ := V7.rd wc_len (i := 0) rfl
        have hlen : (oz.wr c ⟨r, 1⟩ d).ws.length = 1 := rfl
        rw [Nat.zero_mul, Nat.add_zero] at rd
        have wcc : ∀ x : Wr, cellsOf (.agg (wc x).toArray) = wc x := fun _ => rfl
        have wcs : ∀ x : Wr, setAt [Value.int .i64 0, .int .i64 0, .slice none 0 0] 0 (wc x) = wc x := fun _ => rfl
        have gb := O7.get 6 rfl
        have pb := O7.can 6 rfl
        have O8 := O7.set 6 rfl (.cells (wc ⟨c, ⟨r, 1⟩, d⟩) 1 false)
        simp only [List.set_cons_zero, List.set_cons_succ] at O8
        simp (disch := first | assumption | omega | (simp only [wkD, oneCell, Option.isSome_some, *]; done) | (simp only [wkE, ne_eq]; omega)) only [g7, hlen, rd, Int.toNat_zero, Nat.zero_mul, Nat.add_zero, Int.le_refl, wcc, wcs, wc_len, wc_one, gb, pb, wkF, X_region, X_seq, X_block, X_loop, X_cond, Y_box, Y_un, Y_store, Y_append, Y_makeMap, Y_buildSlice, ibin_shl, ibin_shr, ibin_and, ↓reduceIte, reduceCtorEq, oneCell, setAt, readN, Nat.reduceAdd, Nat.reduceLeDiff, Nat.reduceMul, layAt, Nat.reduceLT, Nat.reduceEqDiff, setParams, Int.reduceLT, Int.reduceLE, Int.reduceGT, Int.reduceGE, Int.reduceEq, Int.reduceNe]
        have O9 : Has ro _ (Dt d ⟨r, 1⟩ :: _) := Has.all.1 (O8.at 4 rfl)
        exact leafO _ (answer2 _ _ _ _ (cellN O8 6 rfl rfl rfl) rfl) ⟨_, _, _, _, rfl, Or.inr (Or.inr ⟨⟨hi, hr⟩, he, rfl, rfl, d, rfl, rfl⟩), ((((((O9.rid 6 rfl).rid 4 rfl).rid 3 rfl).rid 2 rfl).rid 1 rfl).swap2)⟩
      · have hd : decide (S.E c = e0) = false := decide_eq_false he
        simp (disch := first | assumption | omega | (simp only [wkD, oneCell, Option.isSome_some, *]; done) | (simp only [wkE, ne_eq]; omega)) only [eq_ev, hd, g4, p4, zc3, zs3, wkF, X_region, X_seq, X_block, X_loop, X_cond, Y_box, Y_un, Y_store, Y_append, Y_makeMap, Y_buildSlice, ibin_shl, ibin_shr, ibin_and, ↓reduceIte, reduceCtorEq, oneCell, setAt, readN, Nat.reduceAdd, Nat.reduceLeDiff, Nat.reduceMul, layAt, Nat.reduceLT, Nat.reduceEqDiff, setParams, Int.reduceLT, Int.reduceLE, Int.reduceGT, Int.reduceGE, Int.reduceEq, Int.reduceNe]
        exact leafO _ (answer2 _ _ _ _ (cellN (zo O4) 0 rfl rfl rfl) rfl) ⟨_, _, S, Rs.emp, rfl, Or.inr (Or.inl ⟨⟨hi, hr⟩, he, rfl, rfl, rfl, rfl⟩), (Has.emp.2 (zo O4).drop).swap2⟩
    · simp (disch := first | assumption | omega | (simp only [wkD, oneCell, Option.isSome_some, *]; done) | (simp only [wkE, ne_eq]; omega)) only [hr, g6, p6, zc3, zs3, wkF, X_region, X_seq, X_block, X_loop, X_cond, Y_box, Y_un, Y_store, Y_append, Y_makeMap, Y_buildSlice, ibin_shl, ibin_shr, ibin_and, ↓reduceIte, reduceCtorEq, oneCell, setAt, readN, Nat.reduceAdd, Nat.reduceLeDiff, Nat.reduceMul, layAt, Nat.reduceLT, Nat.reduceEqDiff, setParams, Int.reduceLT, Int.reduceLE, Int.reduceGT, Int.reduceGE, Int.reduceEq, Int.reduceNe]
      exact leafO _ (answer2 _ _ _ _ (cellN (zo O1) 0 rfl rfl rfl) rfl) ⟨_, _, S, Rs.emp, rfl, Or.inl ⟨fun x => hr x.2, rfl, rfl, rfl, rfl⟩, (Has.emp.2 (zo O1).drop).swap2⟩
  · simp (disch := first | assumption | omega | (simp only [wkD, oneCell, Option.isSome_some, *]; done) | (simp only [wkE, ne_eq]; omega)) only [hi, g6, p6, zc3, zs3, wkF, X_region, X_seq, X_block, X_loop, X_cond, Y_box, Y_un, Y_store, Y_append, Y_makeMap, Y_buildSlice, ibin_shl, ibin_shr, ibin_and, ↓reduceIte, reduceCtorEq, oneCell, setAt, readN, Nat.reduceAdd, Nat.reduceLeDiff, Nat.reduceMul, layAt, Nat.reduceLT, Nat.reduceEqDiff, setParams, Int.reduceLT, Int.reduceLE, Int.reduceGT, Int.reduceGE, Int.reduceEq, Int.reduceNe]
    exact leafO _ (answer2 _ _ _ _ (cellN (zo O1) 0 rfl rfl rfl) rfl) ⟨_, _, S, Rs.emp, rfl, Or.inl ⟨fun x => hi x.1, rfl, rfl, rfl, rfl⟩, (Has.emp.2 (zo O1).drop).swap2⟩
end
end Go.Proofs.Ytmpnldmdchchjaa
