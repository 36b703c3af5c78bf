import Derived.Test.YtmpnldmdchchjaaFk
import Derived.Test.YtmpnldmdchchjaaSet
namespace Go.Proofs.Ytmpnldmdchchjaa
open Go Go.Ideal Go.ChangeShapes Go.RowKit
set_option maxHeartbeats 0
set_option linter.unusedSimpArgs false
set_option linter.unusedVariables false
set_option maxRecDepth 100000
attribute [local irreducible] callV T.All T.Is run
theorem env40 : env 40 = some ir40 := rfl
theorem env38 : env 38 = some ir38 := rfl
def dny (w : It) (c oth : Int) : Po := ⟨w.r, 5, c, 0, w.s, 0, 0, 0, oth⟩
def grt (w : It) (c g : Int) : Po := ⟨w.r, 2, c, g, w.s, 0, 0, 0, 0⟩
def Ls.grant (S : Ls) (w : It) (c : Int) : Ls := if (S.E c).g = 4294967295 then S else S.set c ⟨w.r, (S.E c).g + 1⟩
def Ou.grant (o : Ou) (S : Ls) (w : It) (c : Int) (d : Option Nat) : Ou := if (S.E c).g = 4294967295 then o.post (dny w c (-1)) else (o.wr c ⟨w.r, (S.E c).g + 1⟩ d).post (grt w c ((S.E c).g + 1))
theorem tk_ic1 (x : It) : List.take 1 (ic x) = [.int .i64 x.r] := rfl
theorem dr_ic1 (x : It) : List.drop 1 (ic x) = [.int .u64 x.s, .int .i64 x.p] := rfl
theorem dr_ic2 (x : It) : List.drop 2 (ic x) = [.int .i64 x.p] := rfl
theorem set2_ec (x : En) (a b : Int) : ((ec x).set 0 (.int .i64 a)).set 1 (.int .u32 b) = ec ⟨a, b⟩ := rfl
structure Sm (o : Ou) (k : Nat) : Prop where
  w : o.ws.length < k
  p : o.ps.length < k
  b : o.bs.length < k
section
variable {ro : Nat → Option (List Value × Nat)} {h : Heap} {R : List Rs} {lb ob : Nat} {S : Ls} {o : Ou} {n : Nat}
theorem entry_h (c : Int) (O : Has ro h (Lg lb S :: R)) : (callV env (n + 2) (.func (.func 32) #[] #[]) [.pointer (some ⟨lb, 0, none⟩), .int .i64 c] h).Is fun p => p.1 = ev (S.E c) ∧ Has ro p.2 (Lg lb S :: R) := by
  obtain ⟨eb, qb, tb, O1⟩ := Has.lgOpen O
  exact T.Is.mono (fun p hp => ⟨hp.1, O.ext hp.2⟩) (entry_e c O1)
theorem grant_h (w : It) (c : Int) (hg : 0 ≤ (S.E c).g ∧ (S.E c).g ≤ 4294967295) (ho : Sm o 999998) (O : Has ro h (Lg lb S :: Og ob o :: R)) :
    (callV env (n + 5) (.func (.func 40) #[] #[]) [.pointer (some ⟨lb, 0, none⟩), iv w, .int .i64 c, .pointer (some ⟨ob, 0, none⟩)] h).Is fun p => ∃ d, p.1 = .bool (decide ((S.E c).g ≠ 4294967295)) ∧ Has ro p.2 (Lg lb (S.grant w c) :: Og ob (o.grant S w c d) :: R) := by
  obtain ⟨ho1, ho2, ho3⟩ := ho
  refine call_is env40 ?_
  simp (disch := first | assumption | omega | (simp only [wkD, oneCell, Option.isSome_some, *]; done) | (simp only [wkE, ne_eq]; omega)) only [ir40, List.append_nil, List.nil_append, List.cons_append, List.length_cons, List.length_nil, Nat.reduceAdd, Nat.reduceSub, List.replicate_succ, List.replicate_zero, wkF, X_region, X_seq, X_block, X_loop, X_cond, Y_un, Y_store, Y_append, Y_makeMap, Y_buildSlice, ibin_shl, ibin_shr, ibin_and, ↓reduceIte, reduceCtorEq, oneCell, setAt, readN, Nat.reduceAdd, Nat.reduceLeDiff, Nat.reduceMul, layAt, Nat.reduceLT, Nat.reduceEqDiff, setParams, Int.reduceLT, Int.reduceLE, Int.reduceGT, Int.reduceGE, Int.reduceEq, Int.reduceNe]
  refine Y_boxO O ?_
  intro b1 h1 O1 e1
  replace O1 : Has ro h1 (Lg lb S :: Og ob o :: Ob b1 (.cells (ic w) 1 false) :: R) := O1.at 1 rfl |>.at 2 rfl |>.at 1 rfl
  simp (disch := first | assumption | omega | (simp only [wkD, oneCell, Option.isSome_some, *]; done) | (simp only [wkE, ne_eq]; omega)) only [wkF, X_region, X_seq, X_block, X_loop, X_cond, Y_un, Y_store, Y_append, Y_makeMap, Y_buildSlice, ibin_shl, ibin_shr, ibin_and, ↓reduceIte, reduceCtorEq, oneCell, setAt, readN, Nat.reduceAdd, Nat.reduceLeDiff, Nat.reduceMul, layAt, Nat.reduceLT, Nat.reduceEqDiff, setParams, Int.reduceLT, Int.reduceLE, Int.reduceGT, Int.reduceGE, Int.reduceEq, Int.reduceNe]
  refine Z_is (entry_h (n := n + 2) c O1) ?_
  rintro v h2 ⟨rfl, O2⟩
  simp only at O2
  simp (disch := first | assumption | omega | (simp only [wkD, oneCell, Option.isSome_some, *]; done) | (simp only [wkE, ne_eq]; omega)) only [wkF, X_region, X_seq, X_block, X_loop, X_cond, Y_un, Y_store, Y_append, Y_makeMap, Y_buildSlice, ibin_shl, ibin_shr, ibin_and, ↓reduceIte, reduceCtorEq, oneCell, setAt, readN, Nat.reduceAdd, Nat.reduceLeDiff, Nat.reduceMul, layAt, Nat.reduceLT, Nat.reduceEqDiff, setParams, Int.reduceLT, Int.reduceLE, Int.reduceGT, Int.reduceGE, Int.reduceEq, Int.reduceNe]
  refine Y_boxO O2 ?_
  intro b3 h3 O3 e3
  replace O3 : Has ro h3 (Ob b3 (.cells [.int .i64 0, .int .u32 0] 1 false) :: Lg lb S :: Og ob o :: Ob b1 (.cells (ic w) 1 false) :: R) := O3
  have g3 := O3.get 0 rfl
  have p3 := O3.can 0 rfl
  have O4 := O3.set 0 rfl (.cells (ec (S.E c)) 1 false)
  simp only [List.set_cons_zero] at O4
  have g4 := O4.get 0 rfl
  have g5 := O4.get 3 rfl
  by_cases hm : (S.E c).g = 4294967295
  · simp (disch := first | assumption | omega | (simp only [wkD, oneCell, Option.isSome_some, *]; done) | (simp only [wkE, ne_eq]; omega)) only [ec_len, tk_ec, tk_ec1, dr_ec1, agg_ec, ev_cells, set_ec, ec_one, ic_len, tk_ic, tk_ic1, dr_ic1, dr_ic2, agg_ic, iv_cells, set_ic, ic_one, g3, p3, g4, g5, hm, wkF, X_region, X_seq, X_block, X_loop, X_cond, Y_box, Y_un, Y_store, Y_append, Y_makeMap, Y_buildSlice, ibin_shl, ibin_shr, ibin_and, ↓reduceIte, reduceCtorEq, oneCell, setAt, readN, Nat.reduceAdd, Nat.reduceLeDiff, Nat.reduceMul, layAt, Nat.reduceLT, Nat.reduceEqDiff, setParams, Int.reduceLT, Int.reduceLE, Int.reduceGT, Int.reduceGE, Int.reduceEq, Int.reduceNe]
    refine Z_is (post_h (n := n + 3) (dny w c (-1)) (by omega) (by omega) (O4.at 2 rfl)) ?_
    rintro v h5 O5
    simp (disch := first | assumption | omega | (simp only [wkD, oneCell, Option.isSome_some, *]; done) | (simp only [wkE, ne_eq]; omega)) only [wkF, X_region, X_seq, X_block, X_loop, X_cond, Y_box, Y_un, Y_store, Y_append, Y_makeMap, Y_buildSlice, ibin_shl, ibin_shr, ibin_and, ↓reduceIte, reduceCtorEq, oneCell, setAt, readN, Nat.reduceAdd, Nat.reduceLeDiff, Nat.reduceMul, layAt, Nat.reduceLT, Nat.reduceEqDiff, setParams, Int.reduceLT, Int.reduceLE, Int.reduceGT, Int.reduceGE, Int.reduceEq, Int.reduceNe]
    refine leaf1 ⟨none, by simp [hm], ?_⟩
    have e1 : S.grant w c = S := by unfold Ls.grant; rw [if_pos hm]
    have e2 : o.grant S w c none = o.post (dny w c (-1)) := by unfold Ou.grant; rw [if_pos hm]
    rw [e1, e2]
    exact (((O5.rid 3 rfl).rid 1 rfl).swap2)
  · have y1 : IntKind.u32.wrap ((S.E c).g + 1) = (S.E c).g + 1 := by rw [wrap_u32_mod]; omega
    have p4 := O4.can 0 rfl
    have O5 := O4.set 0 rfl (.cells (ec ⟨w.r, (S.E c).g + 1⟩) 1 false)
    simp only [List.set_cons_zero] at O5
    have g6 := O5.get 0 rfl
    simp (disch := first | assumption | omega | (simp only [wkD, oneCell, Option.isSome_some, *]; done) | (simp only [wkE, ne_eq]; omega)) only [ec_len, tk_ec, tk_ec1, dr_ec1, agg_ec, ev_cells, set_ec, ec_one, ic_len, tk_ic, tk_ic1, dr_ic1, dr_ic2, agg_ic, iv_cells, set_ic, ic_one, g3, p3, g4, g5, hm, y1, p4, set2_ec, g6, wkF, X_region, X_seq, X_block, X_loop, X_cond, Y_box, Y_un, Y_store, Y_append, Y_makeMap, Y_buildSlice, ibin_shl, ibin_shr, ibin_and, ↓reduceIte, reduceCtorEq, oneCell, setAt, readN, Nat.reduceAdd, Nat.reduceLeDiff, Nat.reduceMul, layAt, Nat.reduceLT, Nat.reduceEqDiff, setParams, Int.reduceLT, Int.reduceLE, Int.reduceGT, Int.reduceGE, Int.reduceEq, Int.reduceNe]
    clear g3 p3 g4 g5 p4 g6
    refine Z_is (set_h (n := n + 1) c ⟨w.r, (S.E c).g + 1⟩ (by omega) ((O5.at 2 rfl).at 2 rfl)) ?_
    rintro v h6 ⟨d, O6⟩
    simp only at O6
    have g3 := O6.get 2 rfl
    have g4 := O6.get 3 rfl
    simp (disch := first | assumption | omega | (simp only [wkD, oneCell, Option.isSome_some, *]; done) | (simp only [wkE, ne_eq]; omega)) only [ec_len, tk_ec, tk_ec1, dr_ec1, agg_ec, ev_cells, set_ec, ec_one, ic_len, tk_ic, tk_ic1, dr_ic1, dr_ic2, agg_ic, iv_cells, set_ic, ic_one, g3, g4, wkF, X_region, X_seq, X_block, X_loop, X_cond, Y_box, Y_un, Y_store, Y_append, Y_makeMap, Y_buildSlice, ibin_shl, ibin_shr, ibin_and, ↓reduceIte, reduceCtorEq, oneCell, setAt, readN, Nat.reduceAdd, Nat.reduceLeDiff, Nat.reduceMul, layAt, Nat.reduceLT, Nat.reduceEqDiff, setParams, Int.reduceLT, Int.reduceLE, Int.reduceGT, Int.reduceGE, Int.reduceEq, Int.reduceNe]
    refine Z_is (post_h (n := n + 3) (o := o.wr c ⟨w.r, (S.E c).g + 1⟩ d) (grt w c ((S.E c).g + 1)) (by show o.ps.length < 1000000; omega) (by show o.bs.length < 1000000; omega) (O6.at 1 rfl)) ?_
    rintro v h7 O7
    simp (disch := first | assumption | omega | (simp only [wkD, oneCell, Option.isSome_some, *]; done) | (simp only [wkE, ne_eq]; omega)) only [wkF, X_region, X_seq, X_block, X_loop, X_cond, Y_box, Y_un, Y_store, Y_append, Y_makeMap, Y_buildSlice, ibin_shl, ibin_shr, ibin_and, ↓reduceIte, reduceCtorEq, oneCell, setAt, readN, Nat.reduceAdd, Nat.reduceLeDiff, Nat.reduceMul, layAt, Nat.reduceLT, Nat.reduceEqDiff, setParams, Int.reduceLT, Int.reduceLE, Int.reduceGT, Int.reduceGE, Int.reduceEq, Int.reduceNe]
    refine leaf1 ⟨d, by simp [hm], ?_⟩
    have e1 : S.grant w c = S.set c ⟨w.r, (S.E c).g + 1⟩ := by unfold Ls.grant; rw [if_neg hm]
    have e2 : o.grant S w c d = (o.wr c ⟨w.r, (S.E c).g + 1⟩ d).post (grt w c ((S.E c).g + 1)) := by unfold Ou.grant; rw [if_neg hm]
    rw [e1, e2]
    exact (((O7.rid 3 rfl).rid 2 rfl).swap2)
end
end Go.Proofs.Ytmpnldmdchchjaa
