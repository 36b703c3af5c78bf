import Derived.Test.YtmpnldmdchchjaaFk
import Derived.Test.YtmpnldmdchchjaaAsk
namespace Go.Proofs.Ytmpnldmdchchjaa
open Go Go.Ideal Go.ChangeShapes Go.RowKit
set_option maxHeartbeats 0
set_option linter.unusedSimpArgs false
set_option linter.unusedVariables false
set_option maxRecDepth 100000
attribute [local irreducible] callV T.All T.Is run
def RelIs (S : Ls) (r c g e : Int) (S' : Ls) (o' : Ou) : Prop :=
  (¬ (S.Rob r ∧ S.Is c) ∧ e = 2 ∧ S' = S ∧ o' = oz) ∨ ((S.Rob r ∧ S.Is c) ∧ e = 0 ∧ S.E c = ⟨r, g⟩ ∧ FreeTo S oz c S' o') ∨ ((S.Rob r ∧ S.Is c) ∧ e = 0 ∧ S.E c ≠ ⟨r, g⟩ ∧ S' = S ∧ o' = oz)
section
variable {ro : Nat → Option (List Value × Nat)} {h : Heap} {R : List Rs} {lb ob : Nat} {S : Ls} {o : Ou} {n : Nat}
theorem fin3 {b8 : Nat} (O : Has ro h (Og ob o :: Ob b8 (.cells [.slice none 0 0, .slice none 0 0, .slice none 0 0] 1 false) :: R)) : ∃ wv pv bv, h.get ob = some (.cells [wv, pv, bv] 1 false) ∧ h.get b8 = some (.cells [.slice none 0 0, .slice none 0 0, .slice none 0 0] 1 false) ∧ canPut h b8 = true ∧ ([wv, pv, bv] : List Value).all oneCell = true ∧ Has ro (h.setB b8 (.cells [wv, pv, bv] 1 false)) (Ob b8 (.cells [wv, pv, bv] 1 false) :: Oo wv pv bv o :: R) := by
  obtain ⟨wv, pv, bv, g, O1⟩ := Has.ogOs O
  have one := os_one (O1.at 1 rfl)
  have O2 := O1.set 2 rfl (.cells [wv, pv, bv] 1 false)
  exact ⟨wv, pv, bv, g, O1.get 2 rfl, O1.can 2 rfl, one, ((O2.rid 0 rfl).at 1 rfl)⟩
theorem c3 (wv pv bv : Value) : cellsOf (.agg #[wv, pv, bv]) = [wv, pv, bv] := rfl
theorem s3 (wv pv bv a b c : Value) : setAt [a, b, c] 0 [wv, pv, bv] = [wv, pv, bv] := rfl
theorem release_h (r c g : Int) (w : Wf S) (hn : 40 < n) (O : Has ro h (Lg lb S :: R)) :
    (callV env (n + 7) (.func (.func 16) #[] #[]) [.pointer (some ⟨lb, 0, none⟩), .int .i64 r, .int .i64 c, .int .u32 g] h).Is fun p => ∃ wv pv bv e S' o', p.1 = .tuple #[.agg #[wv, pv, bv], .int .i64 e] ∧ RelIs S r c g e S' o' ∧ Has ro p.2 (Lg lb S' :: Oo wv pv bv o' :: R) := by
  refine call_is env16 ?_
  simp (disch := first | assumption | omega | (simp only [wkD, oneCell, Option.isSome_some, *]; done) | (simp only [wkE, ne_eq]; omega)) only [ir16, List.append_nil, List.nil_append, List.cons_append, List.length_cons, List.length_nil, Nat.reduceAdd, Nat.reduceSub, List.replicate_succ, List.replicate_zero, wkF, X_region, X_seq, X_block, X_loop, X_cond, Y_un, Y_store, Y_append, Y_makeMap, Y_buildSlice, ibin_shl, ibin_shr, ibin_and, ↓reduceIte, reduceCtorEq, oneCell, setAt, readN, Nat.reduceAdd, Nat.reduceLeDiff, Nat.reduceMul, layAt, Nat.reduceLT, Nat.reduceEqDiff, setParams, Int.reduceLT, Int.reduceLE, Int.reduceGT, Int.reduceGE, Int.reduceEq, Int.reduceNe]
  refine Y_boxO O ?_
  intro b8 h1 O1 e1
  simp (disch := first | assumption | omega | (simp only [wkD, oneCell, Option.isSome_some, *]; done) | (simp only [wkE, ne_eq]; omega)) only [wkF, X_region, X_seq, X_block, X_loop, X_cond, Y_un, Y_store, Y_append, Y_makeMap, Y_buildSlice, ibin_shl, ibin_shr, ibin_and, ↓reduceIte, reduceCtorEq, oneCell, setAt, readN, Nat.reduceAdd, Nat.reduceLeDiff, Nat.reduceMul, layAt, Nat.reduceLT, Nat.reduceEqDiff, setParams, Int.reduceLT, Int.reduceLE, Int.reduceGT, Int.reduceGE, Int.reduceEq, Int.reduceNe]
  refine Y_boxO O1 ?_
  intro b10 h2 O2 e2
  replace O2 : Has ro h2 (Ob b10 (.cells [.slice none 0 0, .slice none 0 0, .slice none 0 0] 1 false) :: Ob b8 (.cells [.slice none 0 0, .slice none 0 0, .slice none 0 0] 1 false) :: Lg lb S :: R) := O2
  replace O2 : Has ro h2 (Lg lb S :: Og b10 oz :: Ob b8 (.cells [.slice none 0 0, .slice none 0 0, .slice none 0 0] 1 false) :: R) := (Has.ogNew O2).at 2 rfl
  have hr0 : ¬ S.rob = 0 := by have := w.z.r1; omega
  simp (disch := first | assumption | omega | (simp only [wkD, oneCell, Option.isSome_some, *]; done) | (simp only [wkE, ne_eq]; omega)) only [wkF, X_region, X_seq, X_block, X_loop, X_cond, Y_box, Y_un, Y_store, Y_append, Y_makeMap, Y_buildSlice, ibin_shl, ibin_shr, ibin_and, ↓reduceIte, reduceCtorEq, oneCell, setAt, readN, Nat.reduceAdd, Nat.reduceLeDiff, Nat.reduceMul, layAt, Nat.reduceLT, Nat.reduceEqDiff, setParams, Int.reduceLT, Int.reduceLE, Int.reduceGT, Int.reduceGE, Int.reduceEq, Int.reduceNe]
  refine Z_is (none_h (n := n + 5) O2) ?_
  rintro v h3 ⟨rfl, rfl⟩
  simp (disch := first | assumption | omega | (simp only [wkD, oneCell, Option.isSome_some, *]; done) | (simp only [wkE, ne_eq]; omega)) only [hr0, wkF, X_region, X_seq, X_block, X_loop, X_cond, Y_box, Y_un, Y_store, Y_append, Y_makeMap, Y_buildSlice, ibin_shl, ibin_shr, ibin_and, ↓reduceIte, reduceCtorEq, oneCell, setAt, readN, Nat.reduceAdd, Nat.reduceLeDiff, Nat.reduceMul, layAt, Nat.reduceLT, Nat.reduceEqDiff, setParams, Int.reduceLT, Int.reduceLE, Int.reduceGT, Int.reduceGE, Int.reduceEq, Int.reduceNe]
  refine Z_is (robot_h (n := n + 4) r O2) ?_
  rintro v h3 ⟨rfl, rfl⟩
  by_cases hr : S.Rob r
  · simp (disch := first | assumption | omega | (simp only [wkD, oneCell, Option.isSome_some, *]; done) | (simp only [wkE, ne_eq]; omega)) only [hr, wkF, X_region, X_seq, X_block, X_loop, X_cond, Y_box, Y_un, Y_store, Y_append, Y_makeMap, Y_buildSlice, ibin_shl, ibin_shr, ibin_and, ↓reduceIte, reduceCtorEq, oneCell, setAt, readN, Nat.reduceAdd, Nat.reduceLeDiff, Nat.reduceMul, layAt, Nat.reduceLT, Nat.reduceEqDiff, setParams, Int.reduceLT, Int.reduceLE, Int.reduceGT, Int.reduceGE, Int.reduceEq, Int.reduceNe]
    refine Z_is (is_h (n := n + 4) c O2) ?_
    rintro v h3 ⟨rfl, rfl⟩
    by_cases hi : S.Is c
    · simp (disch := first | assumption | omega | (simp only [wkD, oneCell, Option.isSome_some, *]; done) | (simp only [wkE, ne_eq]; omega)) only [hi, wkF, X_region, X_seq, X_block, X_loop, X_cond, Y_un, Y_store, Y_append, Y_makeMap, Y_buildSlice, ibin_shl, ibin_shr, ibin_and, ↓reduceIte, reduceCtorEq, oneCell, setAt, readN, Nat.reduceAdd, Nat.reduceLeDiff, Nat.reduceMul, layAt, Nat.reduceLT, Nat.reduceEqDiff, setParams, Int.reduceLT, Int.reduceLE, Int.reduceGT, Int.reduceGE, Int.reduceEq, Int.reduceNe]
      refine Z_is (entry_h (n := n + 4) c O2) ?_
      rintro v h3 ⟨rfl, O3⟩
      simp only at O3
      simp (disch := first | assumption | omega | (simp only [wkD, oneCell, Option.isSome_some, *]; done) | (simp only [wkE, ne_eq]; omega)) only [wkF, X_region, X_seq, X_block, X_loop, X_cond, Y_un, Y_store, Y_append, Y_makeMap, Y_buildSlice, ibin_shl, ibin_shr, ibin_and, ↓reduceIte, reduceCtorEq, oneCell, setAt, readN, Nat.reduceAdd, Nat.reduceLeDiff, Nat.reduceMul, layAt, Nat.reduceLT, Nat.reduceEqDiff, setParams, Int.reduceLT, Int.reduceLE, Int.reduceGT, Int.reduceGE, Int.reduceEq, Int.reduceNe]
      refine Y_boxO O3 ?_
      intro b11 h4 O4 e4
      replace O4 : Has ro h4 (Ob b11 (.cells [.int .i64 0, .int .u32 0] 1 false) :: Lg lb S :: Og b10 oz :: Ob b8 (.cells [.slice none 0 0, .slice none 0 0, .slice none 0 0] 1 false) :: R) := O4
      have g4 := O4.get 0 rfl
      have p4 := O4.can 0 rfl
      have O5 := O4.set 0 rfl (.cells (ec (S.E c)) 1 false)
      simp only [List.set_cons_zero] at O5
      have g5 := O5.get 0 rfl
      by_cases ho : (S.E c).o = r
      · by_cases hg : (S.E c).g = g
        · simp (disch := first | assumption | omega | (simp only [wkD, oneCell, Option.isSome_some, *]; done) | (simp only [wkE, ne_eq]; omega)) only [ec_len, tk_ec, tk_ec1, dr_ec1, agg_ec, ev_cells, set_ec, ec_one, g4, p4, g5, ho, hg, wkF, X_region, X_seq, X_block, X_loop, X_cond, Y_box, Y_un, Y_store, Y_append, Y_makeMap, Y_buildSlice, ibin_shl, ibin_shr, ibin_and, ↓reduceIte, reduceCtorEq, oneCell, setAt, readN, Nat.reduceAdd, Nat.reduceLeDiff, Nat.reduceMul, layAt, Nat.reduceLT, Nat.reduceEqDiff, setParams, Int.reduceLT, Int.reduceLE, Int.reduceGT, Int.reduceGE, Int.reduceEq, Int.reduceNe]
          refine Z_is (free_h (n := n) (o := oz) c hn (w.g c) (w.q c) (w.w8 c) ⟨by decide, by decide, by decide⟩ O5.drop) ?_
          rintro v h6 ⟨S', o', hf, O6⟩
          simp only at O6
          simp (disch := first | assumption | omega | (simp only [wkD, oneCell, Option.isSome_some, *]; done) | (simp only [wkE, ne_eq]; omega)) only [wkF, X_region, X_seq, X_block, X_loop, X_cond, Y_box, Y_un, Y_store, Y_append, Y_makeMap, Y_buildSlice, ibin_shl, ibin_shr, ibin_and, ↓reduceIte, reduceCtorEq, oneCell, setAt, readN, Nat.reduceAdd, Nat.reduceLeDiff, Nat.reduceMul, layAt, Nat.reduceLT, Nat.reduceEqDiff, setParams, Int.reduceLT, Int.reduceLE, Int.reduceGT, Int.reduceGE, Int.reduceEq, Int.reduceNe]
          have hE : S.E c = ⟨r, g⟩ := by
            rw [← ho, ← hg]
          obtain ⟨wv, pv, bv, ga, gb, pb, one, O9⟩ := fin3 ((O6.at 2 rfl).at 2 rfl)
          simp (disch := first | assumption | omega | (simp only [wkD, oneCell, Option.isSome_some, *]; done) | (simp only [wkE, ne_eq]; omega)) only [ga, gb, pb, one, c3, s3, wkF, X_region, X_seq, X_block, X_loop, X_cond, Y_box, Y_un, Y_store, Y_append, Y_makeMap, Y_buildSlice, ibin_shl, ibin_shr, ibin_and, ↓reduceIte, reduceCtorEq, setAt, readN, Nat.reduceAdd, Nat.reduceLeDiff, Nat.reduceMul, layAt, Nat.reduceLT, Nat.reduceEqDiff, setParams, Int.reduceLT, Int.reduceLE, Int.reduceGT, Int.reduceGE, Int.reduceEq, Int.reduceNe]
          exact leafO _ (answer2 _ _ _ _ (cellN O9 0 rfl rfl rfl) rfl) ⟨wv, pv, bv, _, _, _, rfl, Or.inr (Or.inl ⟨⟨hr, hi⟩, rfl, hE, hf⟩), (O9.drop.at 1 rfl)⟩
        · simp (disch := first | assumption | omega | (simp only [wkD, oneCell, Option.isSome_some, *]; done) | (simp only [wkE, ne_eq]; omega)) only [ec_len, tk_ec, tk_ec1, dr_ec1, agg_ec, ev_cells, set_ec, ec_one, g4, p4, g5, ho, hg, wkF, X_region, X_seq, X_block, X_loop, X_cond, Y_box, Y_un, Y_store, Y_append, Y_makeMap, Y_buildSlice, ibin_shl, ibin_shr, ibin_and, ↓reduceIte, reduceCtorEq, oneCell, setAt, readN, Nat.reduceAdd, Nat.reduceLeDiff, Nat.reduceMul, layAt, Nat.reduceLT, Nat.reduceEqDiff, setParams, Int.reduceLT, Int.reduceLE, Int.reduceGT, Int.reduceGE, Int.reduceEq, Int.reduceNe]
          obtain ⟨wv, pv, bv, ga, gb, pb, one, O9⟩ := fin3 ((O5.drop.at 2 rfl).at 2 rfl)
          simp (disch := first | assumption | omega | (simp only [wkD, oneCell, Option.isSome_some, *]; done) | (simp only [wkE, ne_eq]; omega)) only [ga, gb, pb, one, c3, s3, wkF, X_region, X_seq, X_block, X_loop, X_cond, Y_box, Y_un, Y_store, Y_append, Y_makeMap, Y_buildSlice, ibin_shl, ibin_shr, ibin_and, ↓reduceIte, reduceCtorEq, setAt, readN, Nat.reduceAdd, Nat.reduceLeDiff, Nat.reduceMul, layAt, Nat.reduceLT, Nat.reduceEqDiff, setParams, Int.reduceLT, Int.reduceLE, Int.reduceGT, Int.reduceGE, Int.reduceEq, Int.reduceNe]
          exact leafO _ (answer2 _ _ _ _ (cellN O9 0 rfl rfl rfl) rfl) ⟨wv, pv, bv, _, _, _, rfl, Or.inr (Or.inr ⟨⟨hr, hi⟩, rfl, fun e => hg (by rw [e]), rfl, rfl⟩), (O9.drop.at 1 rfl)⟩
      · simp (disch := first | assumption | omega | (simp only [wkD, oneCell, Option.isSome_some, *]; done) | (simp only [wkE, ne_eq]; omega)) only [ec_len, tk_ec, tk_ec1, dr_ec1, agg_ec, ev_cells, set_ec, ec_one, g4, p4, g5, ho, wkF, X_region, X_seq, X_block, X_loop, X_cond, Y_box, Y_un, Y_store, Y_append, Y_makeMap, Y_buildSlice, ibin_shl, ibin_shr, ibin_and, ↓reduceIte, reduceCtorEq, oneCell, setAt, readN, Nat.reduceAdd, Nat.reduceLeDiff, Nat.reduceMul, layAt, Nat.reduceLT, Nat.reduceEqDiff, setParams, Int.reduceLT, Int.reduceLE, Int.reduceGT, Int.reduceGE, Int.reduceEq, Int.reduceNe]
        obtain ⟨wv, pv, bv, ga, gb, pb, one, O9⟩ := fin3 ((O5.drop.at 2 rfl).at 2 rfl)
        simp (disch := first | assumption | omega | (simp only [wkD, oneCell, Option.isSome_some, *]; done) | (simp only [wkE, ne_eq]; omega)) only [ga, gb, pb, one, c3, s3, wkF, X_region, X_seq, X_block, X_loop, X_cond, Y_box, Y_un, Y_store, Y_append, Y_makeMap, Y_buildSlice, ibin_shl, ibin_shr, ibin_and, ↓reduceIte, reduceCtorEq, setAt, readN, Nat.reduceAdd, Nat.reduceLeDiff, Nat.reduceMul, layAt, Nat.reduceLT, Nat.reduceEqDiff, setParams, Int.reduceLT, Int.reduceLE, Int.reduceGT, Int.reduceGE, Int.reduceEq, Int.reduceNe]
        exact leafO _ (answer2 _ _ _ _ (cellN O9 0 rfl rfl rfl) rfl) ⟨wv, pv, bv, _, _, _, rfl, Or.inr (Or.inr ⟨⟨hr, hi⟩, rfl, fun e => ho (by rw [e]), rfl, rfl⟩), (O9.drop.at 1 rfl)⟩
    · simp (disch := first | assumption | omega | (simp only [wkD, oneCell, Option.isSome_some, *]; done) | (simp only [wkE, ne_eq]; omega)) only [hi, wkF, X_region, X_seq, X_block, X_loop, X_cond, Y_box, Y_un, Y_store, Y_append, Y_makeMap, Y_buildSlice, ibin_shl, ibin_shr, ibin_and, ↓reduceIte, reduceCtorEq, oneCell, setAt, readN, Nat.reduceAdd, Nat.reduceLeDiff, Nat.reduceMul, layAt, Nat.reduceLT, Nat.reduceEqDiff, setParams, Int.reduceLT, Int.reduceLE, Int.reduceGT, Int.reduceGE, Int.reduceEq, Int.reduceNe]
      obtain ⟨wv, pv, bv, ga, gb, pb, one, O9⟩ := fin3 ((O2.at 2 rfl).at 2 rfl)
      simp (disch := first | assumption | omega | (simp only [wkD, oneCell, Option.isSome_some, *]; done) | (simp only [wkE, ne_eq]; omega)) only [ga, gb, pb, one, c3, s3, wkF, X_region, X_seq, X_block, X_loop, X_cond, Y_box, Y_un, Y_store, Y_append, Y_makeMap, Y_buildSlice, ibin_shl, ibin_shr, ibin_and, ↓reduceIte, reduceCtorEq, setAt, readN, Nat.reduceAdd, Nat.reduceLeDiff, Nat.reduceMul, layAt, Nat.reduceLT, Nat.reduceEqDiff, setParams, Int.reduceLT, Int.reduceLE, Int.reduceGT, Int.reduceGE, Int.reduceEq, Int.reduceNe]
      exact leafO _ (answer2 _ _ _ _ (cellN O9 0 rfl rfl rfl) rfl) ⟨wv, pv, bv, _, _, _, rfl, Or.inl ⟨fun x => hi x.2, rfl, rfl, rfl⟩, (O9.drop.at 1 rfl)⟩
  · simp (disch := first | assumption | omega | (simp only [wkD, oneCell, Option.isSome_some, *]; done) | (simp only [wkE, ne_eq]; omega)) only [hr, wkF, X_region, X_seq, X_block, X_loop, X_cond, Y_box, Y_un, Y_store, Y_append, Y_makeMap, Y_buildSlice, ibin_shl, ibin_shr, ibin_and, ↓reduceIte, reduceCtorEq, oneCell, setAt, readN, Nat.reduceAdd, Nat.reduceLeDiff, Nat.reduceMul, layAt, Nat.reduceLT, Nat.reduceEqDiff, setParams, Int.reduceLT, Int.reduceLE, Int.reduceGT, Int.reduceGE, Int.reduceEq, Int.reduceNe]
    obtain ⟨wv, pv, bv, ga, gb, pb, one, O9⟩ := fin3 ((O2.at 2 rfl).at 2 rfl)
    simp (disch := first | assumption | omega | (simp only [wkD, oneCell, Option.isSome_some, *]; done) | (simp only [wkE, ne_eq]; omega)) only [ga, gb, pb, one, c3, s3, wkF, X_region, X_seq, X_block, X_loop, X_cond, Y_box, Y_un, Y_store, Y_append, Y_makeMap, Y_buildSlice, ibin_shl, ibin_shr, ibin_and, ↓reduceIte, reduceCtorEq, setAt, readN, Nat.reduceAdd, Nat.reduceLeDiff, Nat.reduceMul, layAt, Nat.reduceLT, Nat.reduceEqDiff, setParams, Int.reduceLT, Int.reduceLE, Int.reduceGT, Int.reduceGE, Int.reduceEq, Int.reduceNe]
    exact leafO _ (answer2 _ _ _ _ (cellN O9 0 rfl rfl rfl) rfl) ⟨wv, pv, bv, _, _, _, rfl, Or.inl ⟨fun x => hr x.1, rfl, rfl, rfl⟩, (O9.drop.at 1 rfl)⟩
end
end Go.Proofs.Ytmpnldmdchchjaa
