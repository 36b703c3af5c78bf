/-
  A message with nothing but what its kind names: the whole function.
-/
import Derived.Test.YtpodmgbnldmlcaaDoorFk
import Derived.Test.YtpodmgbnldmlcaaDoorOnly
namespace Go.Proofs.YtpodmgbnldmlcaaDoor
open Go Go.Ideal Go.ChangeShapes Go.RowKit
set_option maxHeartbeats 0
set_option linter.unusedSimpArgs false
set_option linter.unusedVariables false
set_option maxRecDepth 100000
attribute [local irreducible] callV T.All T.Is run
theorem answerC {a : IResult} {tm : List Value} {h : Heap} {va : Value} (h1 : a.val tm h = some va) : answer [a] tm h = some va := by
  simp [answer, h1]
section
variable {ro : Nat → Option (List Value × Nat)} {h : Heap} {R : List Rs} {m : Msg}
/-- The kind's numbers, told by a loop over a function whose yield keeps a predicate. -/
theorem fields_r {n bE lb : Nat} {kd : Int} {I : Nat → List Rs} (hL : Lay ro) (hn : 20 < n) (hk0 : 1 ≤ kd) (hk1 : kd ≤ 11)
    (hy : ∀ i h (f : Nat), i < 5 → (row kd).getD i 0 = (f : Int) → 1 ≤ f → f ≤ 8 → Has ro h (Ob bE (.cells [.int .i64 kd] 1 false) :: I i) → (callV env n (.func (.yield lb) #[] #[]) [.int .i64 (f : Int)] h).Is fun p => p.1 = .bool true ∧ Has ro p.2 (Ob bE (.cells [.int .i64 kd] 1 false) :: I (i + 1))) (O : Has ro h (Ob bE (.cells [.int .i64 kd] 1 false) :: I 0)) :
    (callV env (n + 1) (.func (.func 41) #[] #[.pointer (some ⟨bE, 0, none⟩)]) [.func (.yield lb) #[] #[]] h).Is fun p => ∃ j, j ≤ 5 ∧ Has ro p.2 (Ob bE (.cells [.int .i64 kd] 1 false) :: I j) ∧ (j = 5 ∨ (row kd).getD j 0 = 0) := by
  refine T.Is.mono ?_ (fields_h (F := row kd) (I := fun i h => Has ro h (Ob bE (.cells [.int .i64 kd] 1 false) :: I i)) hn hk0 hk1 (row_len kd) (fun i h O => ⟨O.get 0 rfl, by rw [O.odd (b := 1) rfl rfl]; exact hL kd hk0 hk1⟩) (fun i h hi hz O => ?_) O)
  · rintro p ⟨j, h1, h2, h3, h4⟩
    exact ⟨j, h1, h2, h4⟩
  · obtain ⟨f1, f2⟩ := row_field kd i hi
    obtain ⟨f, hf⟩ : ∃ f : Nat, (row kd).getD i 0 = (f : Int) := ⟨((row kd).getD i 0).toNat, by omega⟩
    rw [hf] at hz f2 ⊢
    exact hy i h f hi hf (by omega) (by omega) O

theorem only_h {n : Nat} {p : Option Addr} {a b : Nat} (hL : Lay ro) (hn : 30 < n) (hk0 : 1 ≤ m.kd) (hk1 : m.kd ≤ 11) (hc : m.cl = .slice p a b) (O : Has ro h R) :
    (callV env (n + 3) (.func (.func 28) #[] #[]) [mv m] h).Is fun q => q.1 = mv (only m) ∧ Has ro q.2 R := by
  refine call_is env28 ?_
  simp (disch := first | assumption | omega | (simp only [wkD, oneCell, Option.isSome_some, *]; done) | (simp only [wkE, ne_eq]; omega)) only [ir28, List.append_nil, List.nil_append, List.cons_append, List.length_cons, List.length_nil, Nat.reduceAdd, Nat.reduceSub, List.replicate_succ, List.replicate_zero, mv, wkF, X_region, X_seq, X_block, X_loop, X_cond, Y_un, Y_store, Y_append, Y_makeMap, Y_buildSlice, ibin_shl, ibin_shr, ibin_and, ↓reduceIte, reduceCtorEq, oneCell, setAt, readN, Nat.reduceAdd, Nat.reduceLeDiff, Nat.reduceMul, layAt, Nat.reduceLT, Nat.reduceEqDiff, setParams, Int.reduceLT, Int.reduceLE, Int.reduceGT, Int.reduceGE, Int.reduceEq, Int.reduceNe]
  refine Y_boxO O ?_
  intro mb h1 O1 e1
  replace O1 : Has ro h1 (Ob mb (.cells (mc m) 1 false) :: R) := O1
  simp (disch := first | assumption | omega | (simp only [wkD, oneCell, Option.isSome_some, *]; done) | (simp only [wkE, ne_eq]; omega)) only [wkF, X_region, X_seq, X_block, X_loop, X_cond, Y_un, Y_store, Y_append, Y_makeMap, Y_buildSlice, ibin_shl, ibin_shr, ibin_and, ↓reduceIte, reduceCtorEq, oneCell, setAt, readN, Nat.reduceAdd, Nat.reduceLeDiff, Nat.reduceMul, layAt, Nat.reduceLT, Nat.reduceEqDiff, setParams, Int.reduceLT, Int.reduceLE, Int.reduceGT, Int.reduceGE, Int.reduceEq, Int.reduceNe]
  refine Y_boxO O1 ?_
  intro zb h2 O2 e2
  replace O2 : Has ro h2 (Ob zb (.cells (mc ⟨0, 0, 0, 0, 0, 0, 0, 0, nilS⟩) 1 false) :: Ob mb (.cells (mc m) 1 false) :: R) := O2
  have gm := O2.get 1 rfl
  have r0 := rd1 (f := 0) (by omega) gm
  have f0 : fl m 0 = .int .i64 m.kd := rfl
  rw [f0] at r0
  simp (disch := first | assumption | omega | (simp only [wkD, oneCell, Option.isSome_some, *]; done) | (simp only [wkE, ne_eq]; omega)) only [r0, wkF, X_region, X_seq, X_block, X_loop, X_cond, Y_un, Y_store, Y_append, Y_makeMap, Y_buildSlice, ibin_shl, ibin_shr, ibin_and, ↓reduceIte, reduceCtorEq, oneCell, setAt, readN, Nat.reduceAdd, Nat.reduceLeDiff, Nat.reduceMul, layAt, Nat.reduceLT, Nat.reduceEqDiff, setParams, Int.reduceLT, Int.reduceLE, Int.reduceGT, Int.reduceGE, Int.reduceEq, Int.reduceNe]
  refine Y_boxO O2 ?_
  intro ob h3 O3 e3
  replace O3 : Has ro h3 (Ob ob (.cells (mc ⟨0, 0, 0, 0, 0, 0, 0, 0, nilS⟩) 1 false) :: Ob zb (.cells (mc ⟨0, 0, 0, 0, 0, 0, 0, 0, nilS⟩) 1 false) :: Ob mb (.cells (mc m) 1 false) :: R) := O3
  have g3 := O3.get 0 rfl
  have p3 := O3.can 0 rfl
  have OS := O3.set 0 rfl (.cells (mc (sel m [])) 1 false)
  simp only [List.set_cons_zero] at OS
  have hs : setAt (mc ⟨0, 0, 0, 0, 0, 0, 0, 0, nilS⟩) 0 [Value.int .i64 m.kd, .int .i64 0, .int .u32 0, .int .u64 0, .int .i64 0, .int .i64 0, .int .i64 0, .int .i64 0, .slice none 0 0] = mc (sel m []) := by
    simp [setAt, mc, sel, nilS]
  have gm2 := OS.get 2 rfl
  have r2 := rd1 (f := 0) (by omega) gm2
  rw [f0] at r2
  simp (disch := first | assumption | omega | (simp only [wkD, oneCell, Option.isSome_some, *]; done) | (simp only [wkE, ne_eq]; omega)) only [cellsOf_agg, g3, p3, hs, mc_len, X_seq, wkF, X_seq, X_block, X_loop, X_cond, Y_box, Y_un, Y_store, Y_append, Y_makeMap, Y_buildSlice, ibin_shl, ibin_shr, ibin_and, ↓reduceIte, reduceCtorEq, oneCell, readN, Nat.reduceAdd, Nat.reduceLeDiff, Nat.reduceMul, layAt, Nat.reduceLT, Nat.reduceEqDiff, setParams, Int.reduceLT, Int.reduceLE, Int.reduceGT, Int.reduceGE, Int.reduceEq, Int.reduceNe]
  generalize h3.setB ob (.cells (mc (sel m [])) 1 false) = h4 at OS gm2 r2 ⊢
  simp (disch := first | assumption | omega | (simp only [wkD, oneCell, Option.isSome_some, *]; done) | (simp only [wkE, ne_eq]; omega)) only [r2, wkF, X_region, X_seq, X_block, X_loop, X_cond, Y_box, Y_un, Y_store, Y_append, Y_makeMap, Y_buildSlice, ibin_shl, ibin_shr, ibin_and, ↓reduceIte, reduceCtorEq, oneCell, setAt, readN, Nat.reduceAdd, Nat.reduceLeDiff, Nat.reduceMul, layAt, Nat.reduceLT, Nat.reduceEqDiff, setParams, Int.reduceLT, Int.reduceLE, Int.reduceGT, Int.reduceGE, Int.reduceEq, Int.reduceNe]
  refine Z_is (R := fun p => ∃ bE, p.1 = .func (.func 41) #[] #[.pointer (some ⟨bE, 0, none⟩)] ∧ Has ro p.2 (Ob bE (.cells [.int .i64 m.kd] 1 false) :: Ob ob (.cells (mc (sel m [])) 1 false) :: Ob zb (.cells (mc ⟨0, 0, 0, 0, 0, 0, 0, 0, nilS⟩) 1 false) :: Ob mb (.cells (mc m) 1 false) :: R)) ?_ ?_
  · refine call_is env38 ?_
    simp (disch := first | assumption | omega | (simp only [wkD, oneCell, Option.isSome_some, *]; done) | (simp only [wkE, ne_eq]; omega)) only [ir38, List.append_nil, List.nil_append, List.cons_append, List.length_cons, List.length_nil, Nat.reduceAdd, Nat.reduceSub, List.replicate_succ, List.replicate_zero, wkF, X_region, X_seq, X_block, X_loop, X_cond, Y_un, Y_store, Y_append, Y_makeMap, Y_buildSlice, ibin_shl, ibin_shr, ibin_and, ↓reduceIte, reduceCtorEq, oneCell, setAt, readN, Nat.reduceAdd, Nat.reduceLeDiff, Nat.reduceMul, layAt, Nat.reduceLT, Nat.reduceEqDiff, setParams, Int.reduceLT, Int.reduceLE, Int.reduceGT, Int.reduceGE, Int.reduceEq, Int.reduceNe]
    refine Y_boxO OS ?_
    intro bE h5 O5 e5
    simp (disch := first | assumption | omega | (simp only [wkD, oneCell, Option.isSome_some, *]; done) | (simp only [wkE, ne_eq]; omega)) only [wkF, X_region, X_seq, X_block, X_loop, X_cond, Y_box, Y_un, Y_store, Y_append, Y_makeMap, Y_buildSlice, ibin_shl, ibin_shr, ibin_and, ↓reduceIte, reduceCtorEq, oneCell, setAt, readN, Nat.reduceAdd, Nat.reduceLeDiff, Nat.reduceMul, layAt, Nat.reduceLT, Nat.reduceEqDiff, setParams, Int.reduceLT, Int.reduceLE, Int.reduceGT, Int.reduceGE, Int.reduceEq, Int.reduceNe]
    exact leaf1 ⟨bE, rfl, O5⟩
  rintro v5 h5 ⟨bE, rfl, O5⟩
  clear O1 O2 O3 OS gm gm2 r0 r2 hs e1 e2 e3 O g3 p3 f0
  simp (disch := first | assumption | omega | (simp only [wkD, oneCell, Option.isSome_some, *]; done) | (simp only [wkE, ne_eq]; omega)) only [wkF, X_region, X_seq, X_block, X_loop, X_cond, Y_box, Y_un, Y_store, Y_append, Y_makeMap, Y_buildSlice, ibin_shl, ibin_shr, ibin_and, ↓reduceIte, reduceCtorEq, oneCell, setAt, readN, Nat.reduceAdd, Nat.reduceLeDiff, Nat.reduceMul, layAt, Nat.reduceLT, Nat.reduceEqDiff, setParams, Int.reduceLT, Int.reduceLE, Int.reduceGT, Int.reduceGE, Int.reduceEq, Int.reduceNe]
  refine X_rangeO O5 (g := 41) (first := #[]) rfl ?_
  intro dm lb h6 O6
  obtain ⟨tl, htl, ht1, ht3, O7⟩ : ∃ tl : List Value, tl.length = 54 ∧ tl.getD 1 undefV = .pointer (some ⟨mb, 0, none⟩) ∧ tl.getD 3 undefV = .pointer (some ⟨ob, 0, none⟩) ∧ Has ro h6 (Ob bE (.cells [.int .i64 m.kd] 1 false) :: Ob lb (.loop (oLoop dm tl)) :: Ob mb (.cells (mc m) 1 false) :: Ob ob (.cells (mc (sel m [])) 1 false) :: Ob dm (.deferred true) :: Ob zb (.cells (mc ⟨0, 0, 0, 0, 0, 0, 0, 0, nilS⟩) 1 false) :: R) := ⟨_, rfl, rfl, rfl, (O6.at 4 rfl).at 2 rfl |>.at 4 rfl |>.at 5 rfl |>.at 4 rfl |>.at 5 rfl⟩
  clear O6 O5
  refine T.Is.mono ?_ (fields_r (n := n + 1) (kd := m.kd) (lb := lb) (I := fun i => Ob lb (.loop (oLoop dm tl)) :: Ob mb (.cells (mc m) 1 false) :: Ob ob (.cells (mc (sel m ((row m.kd).take i))) 1 false) :: Ob dm (.deferred true) :: Ob zb (.cells (mc ⟨0, 0, 0, 0, 0, 0, 0, 0, nilS⟩) 1 false) :: R) hL (by omega) hk0 hk1 ?_ O7)
  rotate_left
  · intro i h f hi hf h1 h2 O
    refine T.Is.mono ?_ (only_y (k := n) htl ht1 ht3 h1 h2 hc ((O.at 3 rfl).at 3 rfl |>.at 3 rfl))
    rintro ⟨v, h'⟩ ⟨hv, O'⟩
    have e : (row m.kd).take (i + 1) = (row m.kd).take i ++ [(f : Int)] := by rw [take_next (by rw [row_len]; omega), hf]
    refine ⟨hv, ?_⟩
    rw [e]
    exact O'.at 3 rfl
  rintro ⟨v7, h7⟩ ⟨j, hj, O8, hz⟩
  replace O8 : Has ro h7 (Ob bE (.cells [.int .i64 m.kd] 1 false) :: Ob lb (.loop (oLoop dm tl)) :: Ob mb (.cells (mc m) 1 false) :: Ob ob (.cells (mc (sel m ((row m.kd).take j))) 1 false) :: Ob dm (.deferred true) :: Ob zb (.cells (mc ⟨0, 0, 0, 0, 0, 0, 0, 0, nilS⟩) 1 false) :: R) := O8
  rw [sel_take hj hz] at O8
  refine ⟨oLoop dm tl, _, (by intro e; cases e), O8.at 1 rfl, fun h8 O9 => ?_⟩
  replace O9 : Has ro h8 (Ob bE (.cells [.int .i64 m.kd] 1 false) :: Ob mb (.cells (mc m) 1 false) :: Ob ob (.cells (mc (only m)) 1 false) :: Ob dm (.deferred true) :: Ob zb (.cells (mc ⟨0, 0, 0, 0, 0, 0, 0, 0, nilS⟩) 1 false) :: R) := O9
  have hpn : (oLoop dm tl).pending = .normal := rfl
  rw [hpn]
  have g9 := O9.get 2 rfl
  have r9 : readC (h8.get ob) 0 9 = some (mc (only m)) := by rw [g9]; rfl
  have gz := O9.get 4 rfl
  have pz := O9.can 4 rfl
  have hone : (mc (only m)).all oneCell = true := by
    have : oneCell (only m).cl = true := by
      show oneCell (if (8 : Int) ∈ row m.kd then m.cl else nilS) = true
      split
      · rw [hc]; rfl
      · rfl
    simp only [mc, List.all_cons, this, List.all_nil, Bool.and_true]
    rfl
  have hs2 : setAt (mc ⟨0, 0, 0, 0, 0, 0, 0, 0, nilS⟩) 0 (mc (only m)) = mc (only m) := by
    simp [setAt, mc]
  simp (disch := first | assumption | omega | (simp only [wkD, oneCell, Option.isSome_some, *]; done) | (simp only [wkE, ne_eq]; omega)) only [r9, gz, pz, hs2, mc_len, cellsOf_agg, hone, wkF, X_region, X_seq, X_block, X_loop, X_cond, Y_box, Y_un, Y_store, Y_append, Y_makeMap, Y_buildSlice, ibin_shl, ibin_shr, ibin_and, ↓reduceIte, reduceCtorEq, readN, Nat.reduceAdd, Nat.reduceLeDiff, Nat.reduceMul, layAt, Nat.reduceLT, Nat.reduceEqDiff, setParams, Int.reduceLT, Int.reduceLE, Int.reduceGT, Int.reduceGE, Int.reduceEq, Int.reduceNe]
  have O10 := O9.set 4 rfl (.cells (mc (only m)) 1 false)
  simp only [List.set_cons_succ, List.set_cons_zero] at O10
  refine leafMO O10 3 rfl fun h13 O13 => ⟨_, answerC (cellN O13 4 rfl rfl rfl), rfl, ?_⟩
  simp only [List.set_cons_succ, List.set_cons_zero] at O13
  exact O13.drop.drop.drop.drop.drop
end
end Go.Proofs.YtpodmgbnldmlcaaDoor
