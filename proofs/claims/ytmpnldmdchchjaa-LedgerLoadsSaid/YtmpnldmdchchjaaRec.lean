import Derived.Test.YtmpnldmdchchjaaFk
import Derived.Test.YtmpnldmdchchjaaArg
namespace Go.Proofs.Ytmpnldmdchchjaa
open Go Go.Ideal Go.ChangeShapes Go.RowKit
set_option maxHeartbeats 0
set_option linter.unusedSimpArgs false
set_option linter.unusedVariables false
set_option maxRecDepth 100000
attribute [local irreducible] callV T.All T.Is run
theorem env17 : env 17 = some ir17 := rfl
def recl (S : Ls) : Nat → List (Int × En)
  | 0 => []
  | k + 1 => recl S k ++ (match lk S.ents (S.at k) with | some e => [(S.at k, e)] | none => [])
theorem recl_len (S : Ls) : ∀ k, (recl S k).length ≤ k
  | 0 => Nat.le_refl _
  | k + 1 => by
    have := recl_len S k
    unfold recl
    rw [List.length_append]
    cases lk S.ents (S.at k) <;> simp <;> omega
section
variable {ro : Nat → Option (List Value × Nat)} {h : Heap} {R : List Rs} {lb : Nat} {S : Ls} {n : Nat}
def Rv (v : Value) (l : List (Int × En)) : Rs := Rs.ex fun ws : List Wr => Rs.and (ws.map (fun w => (w.c, w.e)) = l) (Rs.star (Sc 3 wc v ws) (Dts ws))
theorem Has.rvOpen {v : Value} {l : List (Int × En)} (O : Has ro h (Rv v l :: R)) : ∃ ws : List Wr, ws.map (fun w => (w.c, w.e)) = l ∧ Has ro h (Sc 3 wc v ws :: Dts ws :: R) := by
  obtain ⟨ws, O⟩ := Has.ex.1 O
  obtain ⟨e, O⟩ := Has.and.1 O
  exact ⟨ws, e, Has.star.1 O⟩
theorem Has.rvClose {v : Value} {l : List (Int × En)} {ws : List Wr} (e : ws.map (fun w => (w.c, w.e)) = l) (O : Has ro h (Sc 3 wc v ws :: Dts ws :: R)) : Has ro h (Rv v l :: R) :=
  Has.ex.2 ⟨ws, Has.and.2 ⟨e, Has.star.2 O⟩⟩
theorem Has.rvNil (O : Has ro h R) : Has ro h (Rv (.slice none 0 0) [] :: R) :=
  Has.rvClose (ws := []) rfl (Has.scNil (z := 3) (g := wc) (Has.all.2 O))
theorem records_h (w : Wf S) (hn : 1200 < n) (O : Has ro h (Lg lb S :: R)) :
    (callV env (n + 20) (.func (.func 17) #[] #[]) [.pointer (some ⟨lb, 0, none⟩)] h).Is fun p => Has ro p.2 (Rv p.1 (recl S S.N) :: Lg lb S :: R) := by
  refine call_is env17 ?_
  simp (disch := first | assumption | omega | (simp only [wkD, oneCell, Option.isSome_some, *]; done) | (simp only [wkE, ne_eq]; omega)) only [ir17, List.append_nil, List.nil_append, List.cons_append, List.length_cons, List.length_nil, Nat.reduceAdd, Nat.reduceSub, List.replicate_succ, List.replicate_zero, wkF, X_region, X_seq, X_block, X_loop, X_cond, Y_un, Y_store, Y_append, Y_makeMap, Y_buildSlice, ibin_shl, ibin_shr, ibin_and, ↓reduceIte, reduceCtorEq, oneCell, setAt, readN, Nat.reduceAdd, Nat.reduceLeDiff, Nat.reduceMul, layAt, Nat.reduceLT, Nat.reduceEqDiff, setParams, Int.reduceLT, Int.reduceLE, Int.reduceGT, Int.reduceGE, Int.reduceEq, Int.reduceNe]
  refine Y_boxO O ?_
  intro b1 h1 O1 e1
  simp (disch := first | assumption | omega | (simp only [wkD, oneCell, Option.isSome_some, *]; done) | (simp only [wkE, ne_eq]; omega)) only [wkF, X_region, X_seq, X_block, X_loop, X_cond, Y_un, Y_store, Y_append, Y_makeMap, Y_buildSlice, ibin_shl, ibin_shr, ibin_and, ↓reduceIte, reduceCtorEq, oneCell, setAt, readN, Nat.reduceAdd, Nat.reduceLeDiff, Nat.reduceMul, layAt, Nat.reduceLT, Nat.reduceEqDiff, setParams, Int.reduceLT, Int.reduceLE, Int.reduceGT, Int.reduceGE, Int.reduceEq, Int.reduceNe]
  refine Y_boxO O1 ?_
  intro b3 h2 O2 e2
  replace O2 : Has ro h2 (Ob b3 (.cells [.slice none 0 0] 1 false) :: Ob b1 (.cells [.pointer (some ⟨lb, 0, none⟩)] 1 false) :: Lg lb S :: R) := O2
  replace O2 : Has ro h2 (Lg lb S :: Ob b3 (.cells [.slice none 0 0] 1 false) :: Ob b1 (.cells [.pointer (some ⟨lb, 0, none⟩)] 1 false) :: R) := O2.at 2 rfl
  have hr0 : ¬ S.rob = 0 := by have := w.z.r1; omega
  have g1 := O2.get 2 rfl
  simp (disch := first | assumption | omega | (simp only [wkD, oneCell, Option.isSome_some, *]; done) | (simp only [wkE, ne_eq]; omega)) only [g1, wkF, X_region, X_seq, X_block, X_loop, X_cond, Y_box, Y_un, Y_store, Y_append, Y_makeMap, Y_buildSlice, ibin_shl, ibin_shr, ibin_and, ↓reduceIte, reduceCtorEq, oneCell, setAt, readN, Nat.reduceAdd, Nat.reduceLeDiff, Nat.reduceMul, layAt, Nat.reduceLT, Nat.reduceEqDiff, setParams, Int.reduceLT, Int.reduceLE, Int.reduceGT, Int.reduceGE, Int.reduceEq, Int.reduceNe]
  refine Z_is (none_h (n := n + 18) O2) ?_
  rintro v h3 ⟨rfl, rfl⟩
  simp (disch := first | assumption | omega | (simp only [wkD, oneCell, Option.isSome_some, *]; done) | (simp only [wkE, ne_eq]; omega)) only [hr0, g1, wkF, X_region, X_seq, X_block, X_loop, X_cond, Y_box, Y_un, Y_store, Y_append, Y_makeMap, Y_buildSlice, ibin_shl, ibin_shr, ibin_and, ↓reduceIte, reduceCtorEq, oneCell, setAt, readN, Nat.reduceAdd, Nat.reduceLeDiff, Nat.reduceMul, layAt, Nat.reduceLT, Nat.reduceEqDiff, setParams, Int.reduceLT, Int.reduceLE, Int.reduceGT, Int.reduceGE, Int.reduceEq, Int.reduceNe]
  refine Z_is (mine_h (n := n + 18) O2) ?_
  rintro v h7 ⟨E, rfl, O7⟩
  simp only at O7
  simp (disch := first | assumption | omega | (simp only [wkD, oneCell, Option.isSome_some, *]; done) | (simp only [wkE, ne_eq]; omega)) only [wkF, X_region, X_seq, X_block, X_loop, X_cond, Y_box, Y_un, Y_store, Y_append, Y_makeMap, Y_buildSlice, ibin_shl, ibin_shr, ibin_and, ↓reduceIte, reduceCtorEq, oneCell, setAt, readN, Nat.reduceAdd, Nat.reduceLeDiff, Nat.reduceMul, layAt, Nat.reduceLT, Nat.reduceEqDiff, setParams, Int.reduceLT, Int.reduceLE, Int.reduceGT, Int.reduceGE, Int.reduceEq, Int.reduceNe]
  refine X_rangeO O7 (g := 55) (first := #[]) rfl ?_
  intro m l h8 O8
  have hN := N_le w.z
  generalize hlp : ({ state := LoopState.ready, pending := IExit.normal, tmps := _, params := _, assign := _, body := _, defers := m } : ILoop) = lp at O8
  have l1 : lp.state = .ready := by rw [← hlp]
  have l2 : lp.pending = .normal := by rw [← hlp]
  have l3 := congrArg ILoop.tmps hlp.symm
  have l4 := congrArg ILoop.params hlp.symm
  have l5 := congrArg ILoop.assign hlp.symm
  have l6 := congrArg ILoop.body hlp.symm
  simp only at l3 l4 l5 l6
  clear hlp g1
  refine T.Is.mono ?_ (mine_iter (ro := ro) (lb := lb) (n := n + 18) (l := l) (E := E) (S := S) w.z (by omega) (fun i => Ob l (.loop lp) :: Ob m (.deferred true) :: Ob E (.cells [.pointer (some ⟨lb, 0, none⟩)] 1 false) :: Lg lb S :: Ob b1 (.cells [.pointer (some ⟨lb, 0, none⟩)] 1 false) :: (Rs.ex fun v : Value => Rs.star (Ob b3 (.cells [v] 1 false)) (Rv v (recl S i))) :: R) ?_ ?_ ?_)
  · rintro p O5
    refine ⟨lp, _, (by rw [l1]; intro e; cases e), O5, fun h6 O6 => ?_⟩
    rw [l2]
    clear O5 O8
    obtain ⟨v, O7⟩ := Has.ex.1 (O6.at 4 rfl)
    have O8 := Has.star.1 O7
    have g3 := O8.get 0 rfl
    simp (disch := first | assumption | omega | (simp only [wkD, oneCell, Option.isSome_some, *]; done) | (simp only [wkE, ne_eq]; omega)) only [g3, wkF, X_region, X_seq, X_block, X_loop, X_cond, Y_box, Y_un, Y_store, Y_append, Y_makeMap, Y_buildSlice, ibin_shl, ibin_shr, ibin_and, ↓reduceIte, reduceCtorEq, oneCell, setAt, readN, Nat.reduceAdd, Nat.reduceLeDiff, Nat.reduceMul, layAt, Nat.reduceLT, Nat.reduceEqDiff, setParams, Int.reduceLT, Int.reduceLE, Int.reduceGT, Int.reduceGE, Int.reduceEq, Int.reduceNe]
    refine leafMO O8 2 rfl fun h12 O12 => ?_
    simp only [List.set_cons_zero, List.set_cons_succ] at O12
    exact ⟨_, rfl, ((((O12.rid 5 rfl).rid 3 rfl).rid 2 rfl).rid 0 rfl)⟩
  · have := (Has.ex (F := fun v : Value => Rs.star (Ob b3 (.cells [v] 1 false)) (Rv v (recl S 0)))).2 ⟨.slice none 0 0, Has.star.2 ((Has.rvNil (O8.at 4 rfl)).swap2)⟩
    exact (((((this.at 5 rfl).at 5 rfl).at 5 rfl).at 5 rfl).at 5 rfl)
  · rintro i h6 hi O6
    obtain ⟨eb, qb, tb, O9⟩ := Has.lgOpen (O6.at 3 rfl)
    exact ⟨O6.get 2 rfl, eb, qb, tb, O9.get 0 rfl⟩
  · rintro i h6 hi O6
    rw [callV_yield]
    refine round_isB O6 l1 l2 l3 l4 l5 l6 rfl ?_
    simp (disch := first | assumption | omega | (simp only [wkD, oneCell, Option.isSome_some, *]; done) | (simp only [wkE, ne_eq]; omega)) only [List.nil_append, wkF, X_region, X_seq, X_block, X_loop, X_cond, Y_box, Y_un, Y_store, Y_append, Y_makeMap, Y_buildSlice, ibin_shl, ibin_shr, ibin_and, ↓reduceIte, reduceCtorEq, oneCell, setAt, readN, Nat.reduceAdd, Nat.reduceLeDiff, Nat.reduceMul, layAt, Nat.reduceLT, Nat.reduceEqDiff, setParams, Int.reduceLT, Int.reduceLE, Int.reduceGT, Int.reduceGE, Int.reduceEq, Int.reduceNe]
    refine Is_in ⟨rfl, _, O6, fun h7 lpB O7 => ?_⟩
    obtain ⟨eb, qb, tb, O9⟩ := Has.lgOpen (O7.at 3 rfl)
    have gl := O9.get 0 rfl
    unfold lc at gl
    have m1 := O9.mpLook 1 rfl (S.at i) (.agg #[.int .i64 0, .int .u32 0]) true
    simp only [if_true] at m1
    have m1' : vLookup h7 none (.agg #[.int .i64 0, .int .u32 0]) true (.map (some eb)) (.int .i64 (S.at i)) = _ := m1
    have q1 := O7.get 4 rfl
    simp (disch := first | assumption | omega | (simp only [wkD, oneCell, Option.isSome_some, *]; done) | (simp only [wkE, ne_eq]; omega)) only [q1, gl, m1', wkF, X_region, X_seq, X_block, X_loop, X_cond, Y_un, Y_store, Y_append, Y_makeMap, Y_buildSlice, ibin_shl, ibin_shr, ibin_and, ↓reduceIte, reduceCtorEq, oneCell, setAt, readN, Nat.reduceAdd, Nat.reduceLeDiff, Nat.reduceMul, layAt, Nat.reduceLT, Nat.reduceEqDiff, setParams, Int.reduceLT, Int.reduceLE, Int.reduceGT, Int.reduceGE, Int.reduceEq, Int.reduceNe]
    refine Y_boxO O7 ?_
    intro b5 h10 O10 e10
    replace O10 : Has ro h10 (Ob b5 (.cells [.int .i64 0, .int .u32 0] 1 false) :: Ob l (.loop lpB) :: Ob m (.deferred true) :: Ob E (.cells [.pointer (some ⟨lb, 0, none⟩)] 1 false) :: Lg lb S :: Ob b1 (.cells [.pointer (some ⟨lb, 0, none⟩)] 1 false) :: (Rs.ex fun v : Value => Rs.star (Ob b3 (.cells [v] 1 false)) (Rv v (recl S i))) :: R) := O10
    have g10 := O10.get 0 rfl
    have p10 := O10.can 0 rfl
    clear gl m1 m1' q1 O9
    cases hk : lk S.ents (S.at i) with
    | none =>
      simp (disch := first | assumption | omega | (simp only [wkD, oneCell, Option.isSome_some, *]; done) | (simp only [wkE, ne_eq]; omega)) only [hk, g10, p10, z_cells, z_set, Option.getD_none, wkF, X_region, X_seq, X_block, X_loop, X_cond, Y_box, Y_un, Y_store, Y_append, Y_makeMap, Y_buildSlice, ibin_shl, ibin_shr, ibin_and, ↓reduceIte, reduceCtorEq, oneCell, setAt, readN, Nat.reduceAdd, Nat.reduceLeDiff, Nat.reduceMul, layAt, Nat.reduceLT, Nat.reduceEqDiff, setParams, Int.reduceLT, Int.reduceLE, Int.reduceGT, Int.reduceGE, Int.reduceEq, Int.reduceNe]
      have er : recl S (i + 1) = recl S i := by
        show recl S i ++ (match lk S.ents (S.at i) with | some e => [(S.at i, e)] | none => []) = _
        rw [hk, List.append_nil]
      rw [er]
      have O11 := O10.set 0 rfl (.cells [.int .i64 0, .int .u32 0] 1 false)
      simp only [List.set_cons_zero] at O11
      refine Is_in ⟨_, O11.drop, fun h21 lpC c1 c2 c3 O21 => ⟨rfl, ?_⟩⟩
      have c1' := c1 rfl
      subst c1'
      exact O21
    | some e =>
      have O11 := O10.set 0 rfl (.cells (ec e) 1 false)
      simp only [List.set_cons_zero] at O11
      obtain ⟨v, O12⟩ := Has.ex.1 (O11.at 6 rfl)
      replace O12 : Has ro _ (Ob b3 (.cells [v] 1 false) :: Rv v (recl S i) :: Ob b5 (.cells (ec e) 1 false) :: Ob l (.loop lpB) :: Ob m (.deferred true) :: Ob E (.cells [.pointer (some ⟨lb, 0, none⟩)] 1 false) :: Lg lb S :: Ob b1 (.cells [.pointer (some ⟨lb, 0, none⟩)] 1 false) :: R) := Has.star.1 O12
      obtain ⟨ws, hws, O13⟩ := Has.rvOpen (O12.at 1 rfl)
      replace O13 : Has ro _ (Sc 3 wc v ws :: Dts ws :: Ob b3 (.cells [v] 1 false) :: Ob b5 (.cells (ec e) 1 false) :: Ob l (.loop lpB) :: Ob m (.deferred true) :: Ob E (.cells [.pointer (some ⟨lb, 0, none⟩)] 1 false) :: Lg lb S :: Ob b1 (.cells [.pointer (some ⟨lb, 0, none⟩)] 1 false) :: R) := O13
      simp (disch := first | assumption | omega | (simp only [wkD, oneCell, Option.isSome_some, *]; done) | (simp only [wkE, ne_eq]; omega)) only [hk, g10, p10, Option.getD_some, ec_len, tk_ec, tk_ec1, dr_ec1, agg_ec, ev_cells, set_ec, ec_one, wkF, X_region, X_seq, X_block, X_loop, X_cond, Y_box, Y_un, Y_store, Y_append, Y_makeMap, Y_buildSlice, ibin_shl, ibin_shr, ibin_and, ↓reduceIte, reduceCtorEq, oneCell, setAt, readN, Nat.reduceAdd, Nat.reduceLeDiff, Nat.reduceMul, layAt, Nat.reduceLT, Nat.reduceEqDiff, setParams, Int.reduceLT, Int.reduceLE, Int.reduceGT, Int.reduceGE, Int.reduceEq, Int.reduceNe]
      generalize h10.setB b5 _ = h11 at O13 ⊢
      have g3 := O13.get 2 rfl
      have g5 := O13.get 3 rfl
      refine X_drawn _ fun an => ?_
      simp (disch := first | assumption | omega | (simp only [wkD, oneCell, Option.isSome_some, *]; done) | (simp only [wkE, ne_eq]; omega)) only [g3, g5, ec_len, tk_ec, tk_ec1, dr_ec1, agg_ec, ev_cells, set_ec, ec_one, wkF, X_region, X_seq, X_block, X_loop, X_cond, Y_box, Y_un, Y_store, Y_append, Y_makeMap, Y_buildSlice, ibin_shl, ibin_shr, ibin_and, ↓reduceIte, reduceCtorEq, oneCell, setAt, readN, Nat.reduceAdd, Nat.reduceLeDiff, Nat.reduceMul, layAt, Nat.reduceLT, Nat.reduceEqDiff, setParams, Int.reduceLT, Int.reduceLE, Int.reduceGT, Int.reduceGE, Int.reduceEq, Int.reduceNe]
      refine DF_newO (R := fun _ => True) (p := fun v => Rs.ex fun d => Rs.and (v = .agg #[.int .i64 3, .int .i64 (S.at i), dvv d]) (Dt d e)) O13 (record_e (n := n + 15) (S.at i) e (seen0_fine (fr := []) O13.fine (by intro x hx; cases hx))) ?_
      rintro v2 h14 f _ O14 e14 hf14
      obtain ⟨d, O14⟩ := Has.ex.1 O14
      obtain ⟨hv, O15⟩ := Has.and.1 O14
      subst hv
      clear O14 O13 O12 O11 O10 O7 O6 g3 g5 e14
      have bs : pBuildSlice h14 3 1 [.int .i64 0, .int .i64 0, .slice none 0 0] [(0, 3, .agg #[.int .i64 3, .int .i64 (S.at i), dvv d])] = some (.slice (some ⟨2 * h14.next, 0, none⟩) 1 1, h14.alloc (.cells (wc ⟨S.at i, e, d⟩) 3 false)) := by cases d <;> rfl
      have O16 := O15.alloc (.cells (wc ⟨S.at i, e, d⟩) 3 false)
      have hwl : ws.length ≤ i := by
        have h1 := congrArg List.length hws
        rw [List.length_map] at h1
        have := recl_len S i
        omega
      obtain ⟨wv2, h17, ap, O17⟩ := sc_appendV (bytes := 40) (by decide) wc_len wc_one (O16.at 2 rfl) (Has.one (O16.at 2 rfl) 1 rfl) (by show (ws.length + 1) * 40 ≤ roomMost; unfold roomMost; omega) (by decide)
      simp only [List.eraseIdx_cons_succ, List.eraseIdx_cons_zero] at O17
      obtain ⟨wp, wcap, hwv, _⟩ := O17.scVal 0 rfl
      subst hwv
      have g17 := O17.get 4 rfl
      have p17 := O17.can 4 rfl
      have O18 := O17.set 4 rfl (.cells [.slice wp (ws ++ [(⟨S.at i, e, d⟩ : Wr)]).length wcap] 1 false)
      simp only [List.set_cons_zero, List.set_cons_succ] at O18
      simp (disch := first | assumption | omega | (simp only [wkD, oneCell, Option.isSome_some, *]; done) | (simp only [wkE, ne_eq]; omega)) only [bs, ap, g17, p17, slI, wkF, X_region, X_seq, X_block, X_loop, X_cond, Y_box, Y_un, Y_store, Y_append, Y_makeMap, Y_buildSlice, ibin_shl, ibin_shr, ibin_and, ↓reduceIte, reduceCtorEq, oneCell, setAt, readN, Nat.reduceAdd, Nat.reduceLeDiff, Nat.reduceMul, layAt, Nat.reduceLT, Nat.reduceEqDiff, setParams, Int.reduceLT, Int.reduceLE, Int.reduceGT, Int.reduceGE, Int.reduceEq, Int.reduceNe]
      have er : recl S (i + 1) = recl S i ++ [(S.at i, e)] := by
        show recl S i ++ (match lk S.ents (S.at i) with | some e => [(S.at i, e)] | none => []) = _
        rw [hk]
      have hws2 : (ws ++ [(⟨S.at i, e, d⟩ : Wr)]).map (fun w => (w.c, w.e)) = recl S (i + 1) := by
        rw [er, List.map_append, hws]
        rfl
      have O19 := Has.dtsAdd (w := ⟨S.at i, e, d⟩) (((O18.rid 1 rfl).at 2 rfl).at 2 rfl)
      have O20 := Has.rvClose hws2 (O19.at 1 rfl)
      have O21 := (Has.ex (F := fun v : Value => Rs.star (Ob b3 (.cells [v] 1 false)) (Rv v (recl S (i + 1))))).2 ⟨_, Has.star.2 (O20.at 1 rfl)⟩
      refine Is_in ⟨_, ((O21.rid 1 rfl).at 1 rfl), fun h21 lpC c1 c2 c3 O22 => ⟨rfl, ?_⟩⟩
      have c1' := c1 rfl
      subst c1'
      exact ((((((O22.at 1 rfl).at 5 rfl).at 5 rfl).at 5 rfl).at 5 rfl).at 5 rfl)
end
end Go.Proofs.Ytmpnldmdchchjaa
