import Derived.Test.YtmpnldmdchchjaaFk
import Derived.Test.YtmpnldmdchchjaaMin
namespace Go.Proofs.Ytmpnldmdchchjaa
open Go Go.Ideal Go.ChangeShapes Go.RowKit
set_option maxHeartbeats 0
set_option linter.unusedSimpArgs false
set_option linter.unusedVariables false
set_option maxRecDepth 100000
attribute [local irreducible] callV T.All T.Is run
theorem env28 : env 28 = some ir28 := rfl
theorem env16 : env 16 = some ir16 := rfl
theorem env13 : env 13 = some ir13 := rfl
theorem env12 : env 12 = some ir12 := rfl
structure Wf (S : Ls) : Prop where
  z : Sz S
  g : ∀ c, 0 ≤ (S.E c).g ∧ (S.E c).g ≤ 4294967295
  q : ∀ c, lk S.qs c = none → S.W c = []
  w8 : ∀ c, (S.W c).length ≤ 8
def oz : Ou := ⟨[], [], []⟩
def Ls.T (S : Ls) (r : Int) : Int := (lk S.told r).getD 0
section
variable {ro : Nat → Option (List Value × Nat)} {h : Heap} {R : List Rs} {lb ob : Nat} {S : Ls} {o : Ou} {n : Nat}
theorem none_h (O : Has ro h (Lg lb S :: R)) : (callV env (n + 1) (.func (.func 30) #[] #[]) [.pointer (some ⟨lb, 0, none⟩)] h).Is fun p => p = (.bool (decide (S.rob = 0)), h) := by
  obtain ⟨eb, qb, tb, O1⟩ := Has.lgOpen O
  exact none_g (O1.get 0 rfl)
theorem robot_h (r : Int) (O : Has ro h (Lg lb S :: R)) : (callV env (n + 2) (.func (.func 31) #[] #[]) [.pointer (some ⟨lb, 0, none⟩), .int .i64 r] h).Is fun p => p = (.bool (decide (S.Rob r)), h) := by
  obtain ⟨eb, qb, tb, O1⟩ := Has.lgOpen O
  exact robot_g r (O1.get 0 rfl)
theorem is_h (c : Int) (O : Has ro h (Lg lb S :: R)) : (callV env (n + 2) (.func (.func 26) #[] #[]) [.pointer (some ⟨lb, 0, none⟩), .int .i64 c] h).Is fun p => p = (.bool (decide (S.Is c)), h) := by
  obtain ⟨eb, qb, tb, O1⟩ := Has.lgOpen O
  exact is_g c (O1.get 0 rfl)
theorem Has.ogNew (O : Has ro h (Ob ob (.cells [.slice none 0 0, .slice none 0 0, .slice none 0 0] 1 false) :: R)) : Has ro h (Og ob oz :: R) := by
  refine Has.ogClose (o := oz) (wv := .slice none 0 0) (pv := .slice none 0 0) (bv := .slice none 0 0) ?_
  have O1 : Has ro h (Dts oz.ws :: Ob ob (.cells [.slice none 0 0, .slice none 0 0, .slice none 0 0] 1 false) :: R) := Has.all.2 O
  have O2 := Has.scNil (z := 1) (g := zc) O1
  have O3 := Has.scNil (z := 10) (g := pc) O2
  have O4 := Has.scNil (z := 3) (g := wc) O3
  exact O4.at 4 rfl
theorem Has.ogOs (O : Has ro h (Og ob o :: R)) : ∃ wv pv bv, h.get ob = some (.cells [wv, pv, bv] 1 false) ∧ Has ro h (Ob ob (.cells [wv, pv, bv] 1 false) :: Oo wv pv bv o :: R) := by
  obtain ⟨⟨wv, pv, bv⟩, O⟩ := Has.ex.1 O
  have O1 := Has.all.1 O
  simp only [List.cons_append, List.nil_append] at O1
  exact ⟨wv, pv, bv, O1.get 0 rfl, O1⟩
theorem os_one {wv pv bv : Value} (O : Has ro h (Oo wv pv bv o :: R)) : [wv, pv, bv].all oneCell = true := by
  have O1 := Has.all.1 O
  simp only [List.cons_append, List.nil_append] at O1
  obtain ⟨p1, c1, rfl, _⟩ := O1.scVal 0 rfl
  obtain ⟨p2, c2, rfl, _⟩ := O1.scVal 1 rfl
  obtain ⟨p3, c3, rfl, _⟩ := O1.scVal 2 rfl
  rfl
theorem told_h (r : Int) (O : Has ro h (Lg lb S :: R)) : (callV env (n + 3) (.func (.func 28) #[] #[]) [.pointer (some ⟨lb, 0, none⟩), .int .i64 r] h).Is fun p => p = (.bool (decide (S.Rob r ∧ 0 < S.T r)), h) := by
  refine call_is env28 ?_
  simp (disch := first | assumption | omega | (simp only [wkD, oneCell, Option.isSome_some, *]; done) | (simp only [wkE, ne_eq]; omega)) only [ir28, List.append_nil, List.nil_append, List.cons_append, List.length_cons, List.length_nil, Nat.reduceAdd, Nat.reduceSub, List.replicate_succ, List.replicate_zero, wkF, X_region, X_seq, X_block, X_loop, X_cond, Y_box, Y_un, Y_store, Y_append, Y_makeMap, Y_buildSlice, ibin_shl, ibin_shr, ibin_and, ↓reduceIte, reduceCtorEq, oneCell, setAt, readN, Nat.reduceAdd, Nat.reduceLeDiff, Nat.reduceMul, layAt, Nat.reduceLT, Nat.reduceEqDiff, setParams, Int.reduceLT, Int.reduceLE, Int.reduceGT, Int.reduceGE, Int.reduceEq, Int.reduceNe]
  refine Z_is (robot_h (n := n) r O) ?_
  rintro v h1 ⟨rfl, rfl⟩
  obtain ⟨eb, qb, tb, O1⟩ := Has.lgOpen O
  have g1 := O1.get 0 rfl
  unfold lc at g1
  have m := O1.mpLook 3 rfl r (.int .i64 0) false
  have m' : vLookup h none (.int .i64 0) false (.map (some tb)) (.int .i64 r) = some (.int .i64 (S.T r)) := by
    refine Eq.trans m ?_
    unfold Ls.T
    cases lk S.told r <;> rfl
  by_cases hr : S.Rob r
  · simp (disch := first | assumption | omega | (simp only [wkD, oneCell, Option.isSome_some, *]; done) | (simp only [wkE, ne_eq]; omega)) only [hr, g1, m', wkF, X_region, X_seq, X_block, X_loop, X_cond, Y_box, Y_un, Y_store, Y_append, Y_makeMap, Y_buildSlice, ibin_shl, ibin_shr, ibin_and, ↓reduceIte, reduceCtorEq, oneCell, setAt, readN, Nat.reduceAdd, Nat.reduceLeDiff, Nat.reduceMul, layAt, Nat.reduceLT, Nat.reduceEqDiff, setParams, Int.reduceLT, Int.reduceLE, Int.reduceGT, Int.reduceGE, Int.reduceEq, Int.reduceNe]
    exact leaf1 (by simp [hr])
  · simp (disch := first | assumption | omega | (simp only [wkD, oneCell, Option.isSome_some, *]; done) | (simp only [wkE, ne_eq]; omega)) only [hr, wkF, X_region, X_seq, X_block, X_loop, X_cond, Y_box, Y_un, Y_store, Y_append, Y_makeMap, Y_buildSlice, ibin_shl, ibin_shr, ibin_and, ↓reduceIte, reduceCtorEq, oneCell, setAt, readN, Nat.reduceAdd, Nat.reduceLeDiff, Nat.reduceMul, layAt, Nat.reduceLT, Nat.reduceEqDiff, setParams, Int.reduceLT, Int.reduceLE, Int.reduceGT, Int.reduceGE, Int.reduceEq, Int.reduceNe]
    exact leaf1 (by simp [hr])
end
end Go.Proofs.Ytmpnldmdchchjaa
