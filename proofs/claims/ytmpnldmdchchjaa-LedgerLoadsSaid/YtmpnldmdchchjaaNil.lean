import Derived.Test.YtmpnldmdchchjaaFk
import Derived.Test.YtmpnldmdchchjaaGra
namespace Go.Proofs.Ytmpnldmdchchjaa
open Go Go.Ideal Go.ChangeShapes Go.RowKit
set_option maxHeartbeats 0
set_option linter.unusedSimpArgs false
set_option linter.unusedVariables false
set_option maxRecDepth 100000
attribute [local irreducible] callV T.All T.Is run
section
variable {ro : Nat → Option (List Value × Nat)} {h : Heap} {R : List Rs} {lb ob : Nat} {S : Ls} {o : Ou} {n : Nat}
theorem all_n : (callV env (n + 1) (.func (.func 69) #[] #[]) [.pointer none] h).Is fun p => p.1 = .func (.func 73) #[] #[.pointer (some ⟨2 * h.next, 0, none⟩)] ∧ p.2 = h.alloc (.cells [.pointer none] 1 false) := by
  refine call_is env69 ?_
  simp (disch := first | assumption | omega | (simp only [wkD, oneCell, Option.isSome_some, *]; done) | (simp only [wkE, ne_eq]; omega)) only [ir69, List.append_nil, List.nil_append, List.cons_append, List.length_cons, List.length_nil, Nat.reduceAdd, Nat.reduceSub, List.replicate_succ, List.replicate_zero, wkF, X_region, X_seq, X_block, X_loop, X_cond, Y_box, Y_un, Y_store, Y_append, Y_makeMap, Y_buildSlice, ibin_shl, ibin_shr, ibin_and, ↓reduceIte, reduceCtorEq, oneCell, setAt, readN, Nat.reduceAdd, Nat.reduceLeDiff, Nat.reduceMul, layAt, Nat.reduceLT, Nat.reduceEqDiff, setParams, Int.reduceLT, Int.reduceLE, Int.reduceGT, Int.reduceGE, Int.reduceEq, Int.reduceNe]
  exact leaf1 ⟨rfl, rfl⟩
theorem place_n (r : Int) (O : Has ro h R) : (callV env (n + 4) (.func (.func 67) #[] #[]) [.pointer none, .int .i64 r] h).Is fun p => p.1 = .int .i64 (-1) ∧ Has ro p.2 R := by
  refine call_is env67 ?_
  simp (disch := first | assumption | omega | (simp only [wkD, oneCell, Option.isSome_some, *]; done) | (simp only [wkE, ne_eq]; omega)) only [ir67, List.append_nil, List.nil_append, List.cons_append, List.length_cons, List.length_nil, Nat.reduceAdd, Nat.reduceSub, List.replicate_succ, List.replicate_zero, wkF, X_region, X_seq, X_block, X_loop, X_cond, Y_un, Y_store, Y_append, Y_makeMap, Y_buildSlice, ibin_shl, ibin_shr, ibin_and, ↓reduceIte, reduceCtorEq, oneCell, setAt, readN, Nat.reduceAdd, Nat.reduceLeDiff, Nat.reduceMul, layAt, Nat.reduceLT, Nat.reduceEqDiff, setParams, Int.reduceLT, Int.reduceLE, Int.reduceGT, Int.reduceGE, Int.reduceEq, Int.reduceNe]
  refine Y_boxO O ?_
  intro b1 h1 O1 e1
  simp (disch := first | assumption | omega | (simp only [wkD, oneCell, Option.isSome_some, *]; done) | (simp only [wkE, ne_eq]; omega)) only [wkF, X_region, X_seq, X_block, X_loop, X_cond, Y_un, Y_store, Y_append, Y_makeMap, Y_buildSlice, ibin_shl, ibin_shr, ibin_and, ↓reduceIte, reduceCtorEq, oneCell, setAt, readN, Nat.reduceAdd, Nat.reduceLeDiff, Nat.reduceMul, layAt, Nat.reduceLT, Nat.reduceEqDiff, setParams, Int.reduceLT, Int.reduceLE, Int.reduceGT, Int.reduceGE, Int.reduceEq, Int.reduceNe]
  refine Y_boxO O1 ?_
  intro b2 h2 O2 e2
  replace O2 : Has ro h2 (Ob b2 (.cells [.int .i64 0] 1 false) :: Ob b1 (.cells [.int .i64 r] 1 false) :: R) := O2
  have g2 := O2.get 0 rfl
  have p2 := O2.can 0 rfl
  have O3 := O2.set 0 rfl (.cells [.int .i64 (-1)] 1 false)
  simp only [List.set_cons_zero] at O3
  simp (disch := first | assumption | omega | (simp only [wkD, oneCell, Option.isSome_some, *]; done) | (simp only [wkE, ne_eq]; omega)) only [g2, p2, wkF, X_region, X_seq, X_block, X_loop, X_cond, Y_box, Y_un, Y_store, Y_append, Y_makeMap, Y_buildSlice, ibin_shl, ibin_shr, ibin_and, ↓reduceIte, reduceCtorEq, oneCell, setAt, readN, Nat.reduceAdd, Nat.reduceLeDiff, Nat.reduceMul, layAt, Nat.reduceLT, Nat.reduceEqDiff, setParams, Int.reduceLT, Int.reduceLE, Int.reduceGT, Int.reduceGE, Int.reduceEq, Int.reduceNe]
  refine Z_is (all_n (n := n + 2)) ?_
  rintro v h4 ⟨rfl, rfl⟩
  have O4 : Has ro _ (Ob (2 * h2.next) (.cells [.pointer none] 1 false) :: Ob b2 (.cells [.int .i64 (-1)] 1 false) :: Ob b1 (.cells [.int .i64 r] 1 false) :: R) := O3.alloc (.cells [.pointer none] 1 false)
  simp (disch := first | assumption | omega | (simp only [wkD, oneCell, Option.isSome_some, *]; done) | (simp only [wkE, ne_eq]; omega)) only [wkF, X_region, X_seq, X_block, X_loop, X_cond, Y_box, Y_un, Y_store, Y_append, Y_makeMap, Y_buildSlice, ibin_shl, ibin_shr, ibin_and, ↓reduceIte, reduceCtorEq, oneCell, setAt, readN, Nat.reduceAdd, Nat.reduceLeDiff, Nat.reduceMul, layAt, Nat.reduceLT, Nat.reduceEqDiff, setParams, Int.reduceLT, Int.reduceLE, Int.reduceGT, Int.reduceGE, Int.reduceEq, Int.reduceNe]
  generalize 2 * h2.next = bE at O4 ⊢
  refine X_abs O4 ?_
  clear g2 p2 O O1 O2 O3 O4 e1 e2
  intro h5 O5
  refine X_rangeO O5 (g := 73) (first := #[]) rfl ?_
  intro m l h6 O6
  refine call_is env73 ?_
  have gE := O6.get 2 rfl
  simp (disch := first | assumption | omega | (simp only [wkD, oneCell, Option.isSome_some, *]; done) | (simp only [wkE, ne_eq]; omega)) only [ir73, List.append_nil, List.nil_append, List.cons_append, List.length_cons, List.length_nil, Nat.reduceAdd, Nat.reduceSub, List.replicate_succ, List.replicate_zero, gE, vEqPtr_none, Bool.not_false, wkF, X_region, X_seq, X_block, X_loop, X_cond, Y_box, Y_un, Y_store, Y_append, Y_makeMap, Y_buildSlice, ibin_shl, ibin_shr, ibin_and, ↓reduceIte, reduceCtorEq, oneCell, setAt, readN, Nat.reduceAdd, Nat.reduceLeDiff, Nat.reduceMul, layAt, Nat.reduceLT, Nat.reduceEqDiff, setParams, Int.reduceLT, Int.reduceLE, Int.reduceGT, Int.reduceGE, Int.reduceEq, Int.reduceNe]
  refine leaf0 ⟨_, _, ?_, O6, fun h7 O7 => ?_⟩
  · intro h; cases h
  · have gB := O7.get 2 rfl
    simp (disch := first | assumption | omega | (simp only [wkD, oneCell, Option.isSome_some, *]; done) | (simp only [wkE, ne_eq]; omega)) only [gB, wkF, X_region, X_seq, X_block, X_loop, X_cond, Y_box, Y_un, Y_store, Y_append, Y_makeMap, Y_buildSlice, ibin_shl, ibin_shr, ibin_and, ↓reduceIte, reduceCtorEq, oneCell, setAt, readN, Nat.reduceAdd, Nat.reduceLeDiff, Nat.reduceMul, layAt, Nat.reduceLT, Nat.reduceEqDiff, setParams, Int.reduceLT, Int.reduceLE, Int.reduceGT, Int.reduceGE, Int.reduceEq, Int.reduceNe]
    refine leafMO O7 0 rfl fun h8 O8 => ?_
    simp only [List.set_cons_succ, List.set_cons_zero] at O8
    exact ⟨_, rfl, rfl, O8.drop.drop.drop.drop⟩
theorem first_n (O : Has ro h R) : (callV env (n + 3) (.func (.func 57) #[] #[]) [.pointer none] h).Is fun p => p.1 = .tuple #[iv it0, .bool false] ∧ Has ro p.2 R := by
  refine call_is env57 ?_
  simp (disch := first | assumption | omega | (simp only [wkD, oneCell, Option.isSome_some, *]; done) | (simp only [wkE, ne_eq]; omega)) only [ir57, List.append_nil, List.nil_append, List.cons_append, List.length_cons, List.length_nil, Nat.reduceAdd, Nat.reduceSub, List.replicate_succ, List.replicate_zero, wkF, X_region, X_seq, X_block, X_loop, X_cond, Y_un, Y_store, Y_append, Y_makeMap, Y_buildSlice, ibin_shl, ibin_shr, ibin_and, ↓reduceIte, reduceCtorEq, oneCell, setAt, readN, Nat.reduceAdd, Nat.reduceLeDiff, Nat.reduceMul, layAt, Nat.reduceLT, Nat.reduceEqDiff, setParams, Int.reduceLT, Int.reduceLE, Int.reduceGT, Int.reduceGE, Int.reduceEq, Int.reduceNe]
  refine Y_boxO O ?_
  intro b1 h1 O1 e1
  simp (disch := first | assumption | omega | (simp only [wkD, oneCell, Option.isSome_some, *]; done) | (simp only [wkE, ne_eq]; omega)) only [wkF, X_region, X_seq, X_block, X_loop, X_cond, Y_un, Y_store, Y_append, Y_makeMap, Y_buildSlice, ibin_shl, ibin_shr, ibin_and, ↓reduceIte, reduceCtorEq, oneCell, setAt, readN, Nat.reduceAdd, Nat.reduceLeDiff, Nat.reduceMul, layAt, Nat.reduceLT, Nat.reduceEqDiff, setParams, Int.reduceLT, Int.reduceLE, Int.reduceGT, Int.reduceGE, Int.reduceEq, Int.reduceNe]
  refine Y_boxO O1 ?_
  intro b2 h2 O2 e2
  replace O2 : Has ro h2 (Ob b2 (.cells [.bool false] 1 false) :: Ob b1 (.cells (ic it0) 1 false) :: R) := O2
  simp (disch := first | assumption | omega | (simp only [wkD, oneCell, Option.isSome_some, *]; done) | (simp only [wkE, ne_eq]; omega)) only [wkF, X_region, X_seq, X_block, X_loop, X_cond, Y_box, Y_un, Y_store, Y_append, Y_makeMap, Y_buildSlice, ibin_shl, ibin_shr, ibin_and, ↓reduceIte, reduceCtorEq, oneCell, setAt, readN, Nat.reduceAdd, Nat.reduceLeDiff, Nat.reduceMul, layAt, Nat.reduceLT, Nat.reduceEqDiff, setParams, Int.reduceLT, Int.reduceLE, Int.reduceGT, Int.reduceGE, Int.reduceEq, Int.reduceNe]
  refine Z_is (all_n (n := n + 1)) ?_
  rintro v h4 ⟨rfl, rfl⟩
  have O4 : Has ro _ (Ob (2 * h2.next) (.cells [.pointer none] 1 false) :: Ob b2 (.cells [.bool false] 1 false) :: Ob b1 (.cells (ic it0) 1 false) :: R) := O2.alloc (.cells [.pointer none] 1 false)
  simp (disch := first | assumption | omega | (simp only [wkD, oneCell, Option.isSome_some, *]; done) | (simp only [wkE, ne_eq]; omega)) only [wkF, X_region, X_seq, X_block, X_loop, X_cond, Y_box, Y_un, Y_store, Y_append, Y_makeMap, Y_buildSlice, ibin_shl, ibin_shr, ibin_and, ↓reduceIte, reduceCtorEq, oneCell, setAt, readN, Nat.reduceAdd, Nat.reduceLeDiff, Nat.reduceMul, layAt, Nat.reduceLT, Nat.reduceEqDiff, setParams, Int.reduceLT, Int.reduceLE, Int.reduceGT, Int.reduceGE, Int.reduceEq, Int.reduceNe]
  generalize 2 * h2.next = bE at O4 ⊢
  refine X_abs O4 ?_
  clear O O1 O2 O4 e1 e2
  intro h5 O5
  refine X_rangeO O5 (g := 73) (first := #[]) rfl ?_
  intro m l h6 O6
  refine call_is env73 ?_
  have gE := O6.get 2 rfl
  simp (disch := first | assumption | omega | (simp only [wkD, oneCell, Option.isSome_some, *]; done) | (simp only [wkE, ne_eq]; omega)) only [ir73, List.append_nil, List.nil_append, List.cons_append, List.length_cons, List.length_nil, Nat.reduceAdd, Nat.reduceSub, List.replicate_succ, List.replicate_zero, gE, vEqPtr_none, Bool.not_false, wkF, X_region, X_seq, X_block, X_loop, X_cond, Y_box, Y_un, Y_store, Y_append, Y_makeMap, Y_buildSlice, ibin_shl, ibin_shr, ibin_and, ↓reduceIte, reduceCtorEq, oneCell, setAt, readN, Nat.reduceAdd, Nat.reduceLeDiff, Nat.reduceMul, layAt, Nat.reduceLT, Nat.reduceEqDiff, setParams, Int.reduceLT, Int.reduceLE, Int.reduceGT, Int.reduceGE, Int.reduceEq, Int.reduceNe]
  refine leaf0 ⟨_, _, ?_, O6, fun h11 O11 => ?_⟩
  · intro h; cases h
  · have gA := O11.get 3 rfl
    have pA := O11.can 3 rfl
    have O13 := O11.set 3 rfl (.cells (ic it0) 1 false)
    simp only [List.set_cons_succ, List.set_cons_zero] at O13
    have gB := O13.get 2 rfl
    have pB := O13.can 2 rfl
    have O14 := O13.set 2 rfl (.cells [.bool false] 1 false)
    simp only [List.set_cons_succ, List.set_cons_zero] at O14
    unfold ic it0 at gA gB pB O14
    simp (disch := first | assumption | omega | (simp only [wkD, oneCell, Option.isSome_some, *]; done) | (simp only [wkE, ne_eq]; omega)) only [gA, pA, gB, pB, wkF, X_region, X_seq, X_block, X_loop, X_cond, Y_box, Y_un, Y_store, Y_append, Y_makeMap, Y_buildSlice, ibin_shl, ibin_shr, ibin_and, ↓reduceIte, reduceCtorEq, oneCell, setAt, readN, Nat.reduceAdd, Nat.reduceLeDiff, Nat.reduceMul, layAt, Nat.reduceLT, Nat.reduceEqDiff, setParams, Int.reduceLT, Int.reduceLE, Int.reduceGT, Int.reduceGE, Int.reduceEq, Int.reduceNe]
    refine leafMO O14 0 rfl fun h12 O12 => ?_
    simp only [List.set_cons_succ, List.set_cons_zero] at O12
    exact ⟨_, answer2 _ _ _ _ (cellN O12 3 rfl rfl rfl) (cell1 O12 2 rfl rfl), rfl, O12.drop.drop.drop.drop⟩
theorem cut_n (r : Int) (O : Has ro h R) : (callV env (n + 5) (.func (.func 54) #[] #[]) [.pointer none, .int .i64 r] h).Is fun p => p.1 = .bool false ∧ Has ro p.2 R := by
  refine call_is env54 ?_
  simp (disch := first | assumption | omega | (simp only [wkD, oneCell, Option.isSome_some, *]; done) | (simp only [wkE, ne_eq]; omega)) only [ir54, List.append_nil, List.nil_append, List.cons_append, List.length_cons, List.length_nil, Nat.reduceAdd, Nat.reduceSub, List.replicate_succ, List.replicate_zero, wkF, X_region, X_seq, X_block, X_loop, X_cond, Y_box, Y_un, Y_store, Y_append, Y_makeMap, Y_buildSlice, ibin_shl, ibin_shr, ibin_and, ↓reduceIte, reduceCtorEq, oneCell, setAt, readN, Nat.reduceAdd, Nat.reduceLeDiff, Nat.reduceMul, layAt, Nat.reduceLT, Nat.reduceEqDiff, setParams, Int.reduceLT, Int.reduceLE, Int.reduceGT, Int.reduceGE, Int.reduceEq, Int.reduceNe]
  refine Z_is (place_n r O) ?_
  rintro v h1 ⟨rfl, O1⟩
  simp only at O1
  have m1 : ¬ (0 : Int) ≤ -1 := by omega
  simp (disch := first | assumption | omega | (simp only [wkD, oneCell, Option.isSome_some, *]; done) | (simp only [wkE, ne_eq]; omega)) only [m1, wkF, X_region, X_seq, X_block, X_loop, X_cond, Y_box, Y_un, Y_store, Y_append, Y_makeMap, Y_buildSlice, ibin_shl, ibin_shr, ibin_and, ↓reduceIte, reduceCtorEq, oneCell, setAt, readN, Nat.reduceAdd, Nat.reduceLeDiff, Nat.reduceMul, layAt, Nat.reduceLT, Nat.reduceEqDiff, setParams, Int.reduceLT, Int.reduceLE, Int.reduceGT, Int.reduceGE, Int.reduceEq, Int.reduceNe]
  exact leaf1 ⟨rfl, O1⟩
def Ls.q (S : Ls) (c : Int) : Value := match lk S.qs c with
  | some b => pq b
  | none => .pointer none
def Ls.setW (S : Ls) (c : Int) (l : List It) : Ls := { S with W := updW S.W c l }
theorem updW_self {W : Int → List It} {c : Int} : updW W c (W c) = W := by
  funext x
  unfold updW
  split
  · rename_i e; rw [e]
  · rfl
theorem Has.lgQ {c : Int} {b : Nat} (hk : lk S.qs c = some b) (O : Has ro h (Lg lb S :: R)) : ∃ L, Has ro h (Qr b (S.W c) :: (L ++ R)) ∧ ∀ h' l R', Has ro h' (Qr b l :: (L ++ R')) → Has ro h' (Lg lb (S.setW c l) :: R') := by
  obtain ⟨eb, qb, tb, O1⟩ := Has.lgOpen O
  have hn := (O1.mpInfo 2 rfl).1
  have O2 := Has.qOpen hn hk (O1.at 4 rfl)
  refine ⟨[Rs.all ((del1 S.qs c).map fun p : Int × Nat => Qr p.2 (S.W p.1)), Ob lb (.cells (lc S eb qb tb) 1 false), Mp K64 ev eb S.ents, Mp K64 pq qb S.qs, Mp K64 tv tb S.told], O2, fun h' l R' O3 => ?_⟩
  have O4 := Has.qClose hn hk O3
  exact Has.lgClose (S := S.setW c l) ((((O4.at 4 rfl).at 4 rfl).at 4 rfl).at 4 rfl)
theorem first_l (c : Int) (hq : lk S.qs c = none → S.W c = []) (h8 : (S.W c).length ≤ 8) (hn : 40 < n) (O : Has ro h (Lg lb S :: R)) :
    (callV env (n + 3) (.func (.func 57) #[] #[]) [S.q c] h).Is fun p => p.1 = .tuple #[iv (nth (S.W c) 0), .bool (decide (0 < (S.W c).length))] ∧ Has ro p.2 (Lg lb S :: R) := by
  unfold Ls.q
  cases hk : lk S.qs c with
  | none =>
    rw [hq hk]
    exact T.Is.mono (fun p hp => ⟨hp.1, hp.2⟩) (first_n O)
  | some b =>
    obtain ⟨L, O1, k⟩ := Has.lgQ hk O
    refine T.Is.mono ?_ (first_h hn h8 O1)
    rintro p ⟨h1, h2⟩
    have := k _ _ _ h2
    have e : S.setW c (S.W c) = S := by unfold Ls.setW; rw [updW_self]
    rw [e] at this
    exact ⟨h1, this⟩
theorem cut_l (c r : Int) (hq : lk S.qs c = none → S.W c = []) (h8 : (S.W c).length ≤ 8) (hn : 40 < n) (O : Has ro h (Lg lb S :: R)) :
    (callV env (n + 5) (.func (.func 54) #[] #[]) [S.q c, .int .i64 r] h).Is fun p => ∃ a l', p.1 = .bool a ∧ CutIs (S.W c) r a l' ∧ Has ro p.2 (Lg lb (S.setW c l') :: R) := by
  unfold Ls.q
  cases hk : lk S.qs c with
  | none =>
    refine T.Is.mono ?_ (cut_n r O)
    rintro p ⟨h1, h2⟩
    refine ⟨false, S.W c, h1, Or.inl ⟨rfl, ?_, rfl⟩, ?_⟩
    · rw [hq hk]
      exact Or.inl ⟨rfl, fun j hj => by simp at hj⟩
    · have e : S.setW c (S.W c) = S := by unfold Ls.setW; rw [updW_self]
      rw [e]
      exact h2
  | some b =>
    obtain ⟨L, O1, k⟩ := Has.lgQ hk O
    refine T.Is.mono ?_ (cut_h (n := n + 1) (by omega) h8 O1)
    rintro p ⟨a, l', h1, h2, h3⟩
    exact ⟨a, l', h1, h2, k _ _ _ h3⟩
end
end Go.Proofs.Ytmpnldmdchchjaa
