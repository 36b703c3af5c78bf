import Derived.Test.YtmpnldmdchchjaaFk
import Derived.Test.YtmpnldmdchchjaaFre
namespace Go.Proofs.Ytmpnldmdchchjaa
open Go Go.Ideal Go.ChangeShapes Go.RowKit
set_option maxHeartbeats 0
set_option linter.unusedSimpArgs false
set_option linter.unusedVariables false
set_option maxRecDepth 100000
attribute [local irreducible] callV T.All T.Is run
theorem env36 : env 36 = some ir36 := rfl
theorem env55 : env 55 = some ir55 := rfl
theorem env35 : env 35 = some ir35 := rfl
structure Sz (S : Ls) : Prop where
  r1 : 1 ≤ S.rob
  r2 : S.rob ≤ 64
  h1 : 0 ≤ S.home
  h2 : S.home < S.rob
  c1 : 1 ≤ S.cells
  c2 : S.cells ≤ 1024
def Ls.N (S : Ls) : Nat := ((S.cells - S.home + S.rob - 1) / S.rob).toNat
def Ls.at (S : Ls) (i : Nat) : Int := S.home + (i : Int) * S.rob
theorem lt_N {S : Ls} (z : Sz S) (i : Nat) : i < S.N ↔ S.at i < S.cells := by
  unfold Ls.N Ls.at
  have hr : 0 < S.rob := by have := z.r1; omega
  have h1 : ((i : Int) + 1 ≤ (S.cells - S.home + S.rob - 1) / S.rob) ↔ ((i : Int) + 1) * S.rob ≤ S.cells - S.home + S.rob - 1 := Int.le_ediv_iff_mul_le hr
  have e : ((i : Int) + 1) * S.rob = (i : Int) * S.rob + S.rob := by rw [Int.add_mul, Int.one_mul]
  rw [e] at h1
  generalize (i : Int) * S.rob = x at h1 ⊢
  generalize (S.cells - S.home + S.rob - 1) / S.rob = q at h1 ⊢
  omega
theorem at_pos {S : Ls} (z : Sz S) (i : Nat) : 0 ≤ S.at i ∧ (i : Int) ≤ S.at i := by
  unfold Ls.at
  have hr := z.r1
  have h1 := z.h1
  have : (i : Int) * 1 ≤ (i : Int) * S.rob := Int.mul_le_mul_of_nonneg_left hr (by omega)
  omega
theorem N_le {S : Ls} (z : Sz S) : S.N ≤ 1024 := by
  by_cases h : S.N ≤ 1024
  · exact h
  · have := (lt_N z 1024).1 (by omega)
    have h2 := (at_pos z 1024).2
    have := z.c2
    omega
section
variable {ro : Nat → Option (List Value × Nat)} {h : Heap} {R : List Rs} {lb ob : Nat} {S : Ls} {o : Ou} {n : Nat}
theorem mine_h (O : Has ro h R) : (callV env (n + 1) (.func (.func 36) #[] #[]) [.pointer (some ⟨lb, 0, none⟩)] h).Is fun p => ∃ E, p.1 = .func (.func 55) #[] #[.pointer (some ⟨E, 0, none⟩)] ∧ Has ro p.2 (Ob E (.cells [.pointer (some ⟨lb, 0, none⟩)] 1 false) :: R) := by
  refine call_is env36 ?_
  simp (disch := first | assumption | omega | (simp only [wkD, oneCell, Option.isSome_some, *]; done) | (simp only [wkE, ne_eq]; omega)) only [ir36, List.append_nil, List.nil_append, List.cons_append, List.length_cons, List.length_nil, Nat.reduceAdd, Nat.reduceSub, List.replicate_succ, List.replicate_zero, wkF, X_region, X_seq, X_block, X_loop, X_cond, Y_un, Y_store, Y_append, Y_makeMap, Y_buildSlice, ibin_shl, ibin_shr, ibin_and, ↓reduceIte, reduceCtorEq, oneCell, setAt, readN, Nat.reduceAdd, Nat.reduceLeDiff, Nat.reduceMul, layAt, Nat.reduceLT, Nat.reduceEqDiff, setParams, Int.reduceLT, Int.reduceLE, Int.reduceGT, Int.reduceGE, Int.reduceEq, Int.reduceNe]
  refine Y_boxO O ?_
  intro b1 h1 O1 e1
  simp (disch := first | assumption | omega | (simp only [wkD, oneCell, Option.isSome_some, *]; done) | (simp only [wkE, ne_eq]; omega)) only [wkF, X_region, X_seq, X_block, X_loop, X_cond, Y_box, Y_un, Y_store, Y_append, Y_makeMap, Y_buildSlice, ibin_shl, ibin_shr, ibin_and, ↓reduceIte, reduceCtorEq, oneCell, setAt, readN, Nat.reduceAdd, Nat.reduceLeDiff, Nat.reduceMul, layAt, Nat.reduceLT, Nat.reduceEqDiff, setParams, Int.reduceLT, Int.reduceLE, Int.reduceGT, Int.reduceGE, Int.reduceEq, Int.reduceNe]
  exact leaf1 ⟨b1, rfl, O1⟩
theorem mine_iter {l E : Nat} (z : Sz S) (hn : 1030 < n) (J : Nat → List Rs) (O : Has ro h (J 0))
    (hJ : ∀ i h, i ≤ S.N → Has ro h (J i) → h.get E = some (.cells [.pointer (some ⟨lb, 0, none⟩)] 1 false) ∧ ∃ eb qb tb, h.get lb = some (.cells (lc S eb qb tb) 1 false))
    (hy : ∀ i h, i < S.N → Has ro h (J i) → (callV env n (.func (.yield l) #[] #[]) [.int .i64 (S.at i)] h).Is fun p => p.1 = .bool true ∧ Has ro p.2 (J (i + 1))) :
    (callV env (n + 1) (.func (.func 55) #[] #[.pointer (some ⟨E, 0, none⟩)]) [.func (.yield l) #[] #[]] h).Is fun p => Has ro p.2 (J S.N) := by
  refine call_is env55 ?_
  obtain ⟨gE, eb, qb, tb, gl⟩ := hJ 0 h (Nat.zero_le _) O
  unfold lc at gl
  simp (disch := first | assumption | omega | (simp only [wkD, oneCell, Option.isSome_some, *]; done) | (simp only [wkE, ne_eq]; omega)) only [ir55, List.append_nil, List.nil_append, List.cons_append, List.length_cons, List.length_nil, Nat.reduceAdd, Nat.reduceSub, List.replicate_succ, List.replicate_zero, gE, gl, wkF, X_region, X_seq, X_block, X_loop, X_cond, Y_box, Y_un, Y_store, Y_append, Y_makeMap, Y_buildSlice, ibin_shl, ibin_shr, ibin_and, ↓reduceIte, reduceCtorEq, oneCell, setAt, readN, Nat.reduceAdd, Nat.reduceLeDiff, Nat.reduceMul, layAt, Nat.reduceLT, Nat.reduceEqDiff, setParams, Int.reduceLT, Int.reduceLE, Int.reduceGT, Int.reduceGE, Int.reduceEq, Int.reduceNe]
  have hN := N_le z
  refine L_is (fun q s => ∃ i, q = S.N - i ∧ i ≤ S.N ∧ s.defers = [] ∧ s.tmps.length = 24 ∧ s.tmps.getD 0 undefV = .func (.yield l) #[] #[] ∧ s.tmps.getD 1 undefV = .pointer (some ⟨E, 0, none⟩) ∧ s.tmps.getD 3 undefV = .int .i64 (S.at i) ∧ Has ro s.h (J i)) S.N ?_ (by omega) ?_
  · refine ⟨0, rfl, Nat.zero_le _, rfl, rfl, rfl, rfl, ?_, O⟩
    show Value.int .i64 S.home = _
    have : S.at 0 = S.home := by unfold Ls.at; simp
    rw [this]
  clear gE gl eb qb tb O
  rintro q tm df h1 ⟨i, hk, hi, hd, hlen_, g0, g1, g3, O1⟩
  simp only at hd g0 g1 g3 O1
  subst hd
  obtain ⟨w, hg_, rfl⟩ := explode hlen_
  simp only [hg_] at g0 g1 g3
  clear hlen_ hg_
  obtain ⟨gE, eb, qb, tb, gl⟩ := hJ i h1 hi O1
  unfold lc at gl
  by_cases h0 : i < S.N
  · have h0' := (lt_N z i).1 h0
    simp (disch := first | assumption | omega | (simp only [wkD, oneCell, Option.isSome_some, *]; done) | (simp only [wkE, ne_eq]; omega)) only [g0, g1, g3, gE, gl, h0', wkF, X_region, X_seq, X_block, X_loop, X_cond, Y_box, Y_un, Y_store, Y_append, Y_makeMap, Y_buildSlice, ibin_shl, ibin_shr, ibin_and, ↓reduceIte, reduceCtorEq, oneCell, setAt, readN, Nat.reduceAdd, Nat.reduceLeDiff, Nat.reduceMul, layAt, Nat.reduceLT, Nat.reduceEqDiff, setParams, Int.reduceLT, Int.reduceLE, Int.reduceGT, Int.reduceGE, Int.reduceEq, Int.reduceNe]
    clear gE gl eb qb tb
    refine Z_is (hy i h1 h0 O1) ?_
    rintro v h2 ⟨rfl, O2⟩
    simp only at O2
    obtain ⟨gE, eb, qb, tb, gl⟩ := hJ (i + 1) h2 h0 O2
    unfold lc at gl
    have hw : IntKind.i64.wrap (S.at i + S.rob) = S.at (i + 1) := by
      have e : S.at (i + 1) = S.at i + S.rob := by
        unfold Ls.at
        have : ((i + 1 : Nat) : Int) * S.rob = (i : Int) * S.rob + S.rob := by
          rw [show ((i + 1 : Nat) : Int) = (i : Int) + 1 by omega, Int.add_mul, Int.one_mul]
        omega
      have h1 := (at_pos z i).1
      have h2 := z.c2
      have h3 := z.r2
      have h4 := z.r1
      rw [wrap_i64 (by omega) (by omega), e]
    simp (disch := first | assumption | omega | (simp only [wkD, oneCell, Option.isSome_some, *]; done) | (simp only [wkE, ne_eq]; omega)) only [gE, gl, hw, wkF, X_region, X_seq, X_block, X_loop, X_cond, Y_box, Y_un, Y_store, Y_append, Y_makeMap, Y_buildSlice, ibin_shl, ibin_shr, ibin_and, ↓reduceIte, reduceCtorEq, oneCell, setAt, readN, Nat.reduceAdd, Nat.reduceLeDiff, Nat.reduceMul, layAt, Nat.reduceLT, Nat.reduceEqDiff, setParams, Int.reduceLT, Int.reduceLE, Int.reduceGT, Int.reduceGE, Int.reduceEq, Int.reduceNe]
    refine Is_in ⟨S.N - (i + 1), by omega, i + 1, rfl, h0, rfl, rfl, rfl, rfl, rfl, O2⟩
  · have h0' : ¬ S.at i < S.cells := fun x => h0 ((lt_N z i).2 x)
    have hin : i = S.N := by omega
    subst hin
    simp (disch := first | assumption | omega | (simp only [wkD, oneCell, Option.isSome_some, *]; done) | (simp only [wkE, ne_eq]; omega)) only [g0, g1, g3, gE, gl, h0', wkF, X_region, X_seq, X_block, X_loop, X_cond, Y_box, Y_un, Y_store, Y_append, Y_makeMap, Y_buildSlice, ibin_shl, ibin_shr, ibin_and, ↓reduceIte, reduceCtorEq, oneCell, setAt, readN, Nat.reduceAdd, Nat.reduceLeDiff, Nat.reduceMul, layAt, Nat.reduceLT, Nat.reduceEqDiff, setParams, Int.reduceLT, Int.reduceLE, Int.reduceGT, Int.reduceGE, Int.reduceEq, Int.reduceNe]
    refine Is_in ?_
    simp (disch := first | assumption | omega | (simp only [wkD, oneCell, Option.isSome_some, *]; done) | (simp only [wkE, ne_eq]; omega)) only [wkF, X_region, X_seq, X_block, X_loop, X_cond, Y_box, Y_un, Y_store, Y_append, Y_makeMap, Y_buildSlice, ibin_shl, ibin_shr, ibin_and, ↓reduceIte, reduceCtorEq, oneCell, setAt, readN, Nat.reduceAdd, Nat.reduceLeDiff, Nat.reduceMul, layAt, Nat.reduceLT, Nat.reduceEqDiff, setParams, Int.reduceLT, Int.reduceLE, Int.reduceGT, Int.reduceGE, Int.reduceEq, Int.reduceNe]
    exact leaf0n O1
structure Gn (S : Ls) (r : Int) (k : Nat) (W : Int → List It) : Prop where
  on : ∀ i, i < k → ∃ a, CutIs (S.W (S.at i)) r a (W (S.at i))
  off : ∀ c, (∀ i, i < k → c ≠ S.at i) → W c = S.W c
theorem Gn.zero (r : Int) : Gn S r 0 S.W := ⟨fun i h => by omega, fun c h => rfl⟩
theorem at_ne (z : Sz S) {i j : Nat} (h : i < j) : S.at i ≠ S.at j := by
  unfold Ls.at
  intro e
  have h1 := z.r1
  have : ((i : Int) + 1) * S.rob ≤ (j : Int) * S.rob := Int.mul_le_mul_of_nonneg_right (by omega) (by omega)
  rw [Int.add_mul, Int.one_mul] at this
  omega
theorem Gn.succ (z : Sz S) {r : Int} {k : Nat} {W : Int → List It} (g : Gn S r k W) {a : Bool} {l' : List It} (hc : CutIs (W (S.at k)) r a l') : Gn S r (k + 1) (updW W (S.at k) l') := by
  have hk : W (S.at k) = S.W (S.at k) := g.off _ fun i hi e => at_ne z hi e.symm
  rw [hk] at hc
  refine ⟨fun i hi => ?_, fun c hc' => ?_⟩
  · unfold updW
    by_cases e : i = k
    · subst e
      rw [if_pos rfl]
      exact ⟨a, hc⟩
    · rw [if_neg (at_ne z (by omega))]
      exact g.on i (by omega)
  · unfold updW
    rw [if_neg (hc' k (by omega))]
    exact g.off c fun i hi => hc' i (by omega)
theorem gone_h (z : Sz S) (r : Int) (hn : 1100 < n) (hq : ∀ c, lk S.qs c = none → S.W c = []) (h8 : ∀ c, (S.W c).length ≤ 8) (O : Has ro h (Lg lb S :: R)) :
    (callV env (n + 4) (.func (.func 35) #[] #[]) [.pointer (some ⟨lb, 0, none⟩), .int .i64 r] h).Is fun p => ∃ W, Gn S r S.N W ∧ Has ro p.2 (Lg lb { S with W := W } :: R) := by
  obtain ⟨k, rfl⟩ : ∃ k, n = k + 4 := ⟨n - 4, by omega⟩
  refine call_is env35 ?_
  simp (disch := first | assumption | omega | (simp only [wkD, oneCell, Option.isSome_some, *]; done) | (simp only [wkE, ne_eq]; omega)) only [ir35, List.append_nil, List.nil_append, List.cons_append, List.length_cons, List.length_nil, Nat.reduceAdd, Nat.reduceSub, List.replicate_succ, List.replicate_zero, wkF, X_region, X_seq, X_block, X_loop, X_cond, Y_un, Y_store, Y_append, Y_makeMap, Y_buildSlice, ibin_shl, ibin_shr, ibin_and, ↓reduceIte, reduceCtorEq, oneCell, setAt, readN, Nat.reduceAdd, Nat.reduceLeDiff, Nat.reduceMul, layAt, Nat.reduceLT, Nat.reduceEqDiff, setParams, Int.reduceLT, Int.reduceLE, Int.reduceGT, Int.reduceGE, Int.reduceEq, Int.reduceNe]
  refine Y_boxO O ?_
  intro b1 h1 O1 e1
  simp (disch := first | assumption | omega | (simp only [wkD, oneCell, Option.isSome_some, *]; done) | (simp only [wkE, ne_eq]; omega)) only [wkF, X_region, X_seq, X_block, X_loop, X_cond, Y_un, Y_store, Y_append, Y_makeMap, Y_buildSlice, ibin_shl, ibin_shr, ibin_and, ↓reduceIte, reduceCtorEq, oneCell, setAt, readN, Nat.reduceAdd, Nat.reduceLeDiff, Nat.reduceMul, layAt, Nat.reduceLT, Nat.reduceEqDiff, setParams, Int.reduceLT, Int.reduceLE, Int.reduceGT, Int.reduceGE, Int.reduceEq, Int.reduceNe]
  refine Y_boxO O1 ?_
  intro b2 h2 O2 e2
  replace O2 : Has ro h2 (Ob b2 (.cells [.int .i64 r] 1 false) :: Ob b1 (.cells [.pointer (some ⟨lb, 0, none⟩)] 1 false) :: Lg lb S :: R) := O2
  have g1 := O2.get 1 rfl
  simp (disch := first | assumption | omega | (simp only [wkD, oneCell, Option.isSome_some, *]; done) | (simp only [wkE, ne_eq]; omega)) only [g1, wkF, X_region, X_seq, X_block, X_loop, X_cond, Y_box, Y_un, Y_store, Y_append, Y_makeMap, Y_buildSlice, ibin_shl, ibin_shr, ibin_and, ↓reduceIte, reduceCtorEq, oneCell, setAt, readN, Nat.reduceAdd, Nat.reduceLeDiff, Nat.reduceMul, layAt, Nat.reduceLT, Nat.reduceEqDiff, setParams, Int.reduceLT, Int.reduceLE, Int.reduceGT, Int.reduceGE, Int.reduceEq, Int.reduceNe]
  refine Z_is (mine_h (n := k + 6) O2) ?_
  rintro v h3 ⟨E, rfl, O3⟩
  simp only at O3
  simp (disch := first | assumption | omega | (simp only [wkD, oneCell, Option.isSome_some, *]; done) | (simp only [wkE, ne_eq]; omega)) only [wkF, X_region, X_seq, X_block, X_loop, X_cond, Y_box, Y_un, Y_store, Y_append, Y_makeMap, Y_buildSlice, ibin_shl, ibin_shr, ibin_and, ↓reduceIte, reduceCtorEq, oneCell, setAt, readN, Nat.reduceAdd, Nat.reduceLeDiff, Nat.reduceMul, layAt, Nat.reduceLT, Nat.reduceEqDiff, setParams, Int.reduceLT, Int.reduceLE, Int.reduceGT, Int.reduceGE, Int.reduceEq, Int.reduceNe]
  refine X_rangeO O3 (g := 55) (first := #[]) rfl ?_
  intro m l h4 O4
  generalize hlp : ({ state := LoopState.ready, pending := IExit.normal, tmps := _, params := _, assign := _, body := _, defers := m } : ILoop) = lp at O4
  have l1 : lp.state = .ready := by rw [← hlp]
  have l2 : lp.pending = .normal := by rw [← hlp]
  have l3 := congrArg ILoop.tmps hlp.symm
  have l4 := congrArg ILoop.params hlp.symm
  have l5 := congrArg ILoop.assign hlp.symm
  have l6 := congrArg ILoop.body hlp.symm
  simp only at l3 l4 l5 l6
  clear hlp
  refine T.Is.mono ?_ (mine_iter (ro := ro) (lb := lb) (n := k + 6) (l := l) (E := E) (S := S) z (by omega) (fun i => Ob l (.loop lp) :: Ob m (.deferred true) :: Ob E (.cells [.pointer (some ⟨lb, 0, none⟩)] 1 false) :: Ob b2 (.cells [.int .i64 r] 1 false) :: Ob b1 (.cells [.pointer (some ⟨lb, 0, none⟩)] 1 false) :: (Rs.ex fun W => Rs.and (Gn S r i W) (Lg lb { S with W := W })) :: R) ?_ ?_ ?_)
  · rintro p O5
    refine ⟨lp, _, (by rw [l1]; intro e; cases e), O5, fun h6 O6 => ?_⟩
    rw [l2]
    simp (disch := first | assumption | omega | (simp only [wkD, oneCell, Option.isSome_some, *]; done) | (simp only [wkE, ne_eq]; omega)) only [wkF, X_region, X_seq, X_block, X_loop, X_cond, Y_box, Y_un, Y_store, Y_append, Y_makeMap, Y_buildSlice, ibin_shl, ibin_shr, ibin_and, ↓reduceIte, reduceCtorEq, oneCell, setAt, readN, Nat.reduceAdd, Nat.reduceLeDiff, Nat.reduceMul, layAt, Nat.reduceLT, Nat.reduceEqDiff, setParams, Int.reduceLT, Int.reduceLE, Int.reduceGT, Int.reduceGE, Int.reduceEq, Int.reduceNe]
    refine leafMOn O6 0 rfl fun h7 O7 => ?_
    simp only [List.set_cons_zero] at O7
    obtain ⟨W, O8⟩ := Has.ex.1 (O7.drop.drop.drop.drop)
    obtain ⟨g, O9⟩ := Has.and.1 O8
    exact ⟨_, rfl, W, g, O9⟩
  · have := (Has.ex (F := fun W => Rs.and (Gn S r 0 W) (Lg lb { S with W := W }))).2 ⟨S.W, Has.and.2 ⟨Gn.zero r, (O4.at 5 rfl)⟩⟩
    exact (((((this.at 5 rfl).at 5 rfl).at 5 rfl).at 5 rfl).at 5 rfl)
  · rintro i h6 hi O6
    obtain ⟨W, O7⟩ := Has.ex.1 (O6.at 5 rfl)
    obtain ⟨g, O8⟩ := Has.and.1 O7
    obtain ⟨eb, qb, tb, O9⟩ := Has.lgOpen O8
    exact ⟨O6.get 2 rfl, eb, qb, tb, O9.get 0 rfl⟩
  · rintro i h6 hi O6
    rw [callV_yield]
    refine round_isB O6 l1 l2 l3 l4 l5 l6 rfl ?_
    simp (disch := first | assumption | omega | (simp only [wkD, oneCell, Option.isSome_some, *]; done) | (simp only [wkE, ne_eq]; omega)) only [List.nil_append, wkF, X_region, X_seq, X_block, X_loop, X_cond, Y_box, Y_un, Y_store, Y_append, Y_makeMap, Y_buildSlice, ibin_shl, ibin_shr, ibin_and, ↓reduceIte, reduceCtorEq, oneCell, setAt, readN, Nat.reduceAdd, Nat.reduceLeDiff, Nat.reduceMul, layAt, Nat.reduceLT, Nat.reduceEqDiff, setParams, Int.reduceLT, Int.reduceLE, Int.reduceGT, Int.reduceGE, Int.reduceEq, Int.reduceNe]
    refine Is_in ⟨rfl, _, O6, fun h7 lpB O7 => ?_⟩
    obtain ⟨W, O8⟩ := Has.ex.1 (O7.at 5 rfl)
    obtain ⟨g, O9⟩ := Has.and.1 O8
    replace O9 : Has ro h7 (Lg lb { S with W := W } :: Ob l (.loop lpB) :: Ob m (.deferred true) :: Ob E (.cells [.pointer (some ⟨lb, 0, none⟩)] 1 false) :: Ob b2 (.cells [.int .i64 r] 1 false) :: Ob b1 (.cells [.pointer (some ⟨lb, 0, none⟩)] 1 false) :: R) := O9
    obtain ⟨eb, qb, tb, gl, lq⟩ := Has.lgLook O9
    unfold lc at gl
    have q1 := O9.get 5 rfl
    have q2 := O9.get 4 rfl
    simp (disch := first | assumption | omega | (simp only [wkD, oneCell, Option.isSome_some, *]; done) | (simp only [wkE, ne_eq]; omega)) only [wkF, X_region, X_seq, X_block, X_loop, X_cond, Y_box, Y_un, Y_store, Y_append, Y_makeMap, Y_buildSlice, ibin_shl, ibin_shr, ibin_and, ↓reduceIte, reduceCtorEq, oneCell, setAt, readN, Nat.reduceAdd, Nat.reduceLeDiff, Nat.reduceMul, layAt, Nat.reduceLT, Nat.reduceEqDiff, setParams, Int.reduceLT, Int.reduceLE, Int.reduceGT, Int.reduceGE, Int.reduceEq, Int.reduceNe]
    refine X_drawn _ fun an => ?_
    have lq' := lq (S.at i)
    simp (disch := first | assumption | omega | (simp only [wkD, oneCell, Option.isSome_some, *]; done) | (simp only [wkE, ne_eq]; omega)) only [q1, q2, gl, vLookup_seen, lq', wkF, X_region, X_seq, X_block, X_loop, X_cond, Y_box, Y_un, Y_store, Y_append, Y_makeMap, Y_buildSlice, ibin_shl, ibin_shr, ibin_and, ↓reduceIte, reduceCtorEq, oneCell, setAt, readN, Nat.reduceAdd, Nat.reduceLeDiff, Nat.reduceMul, layAt, Nat.reduceLT, Nat.reduceEqDiff, setParams, Int.reduceLT, Int.reduceLE, Int.reduceGT, Int.reduceGE, Int.reduceEq, Int.reduceNe]
    clear gl lq lq' q1 q2
    have hWi : W (S.at i) = S.W (S.at i) := g.off _ fun j hj e => at_ne z hj e.symm
    refine DB_is (cut_l (S := { S with W := W }) (n := k) (S.at i) r (by show lk S.qs _ = none → W _ = []; rw [hWi]; exact hq _) (by show (W _).length ≤ 8; rw [hWi]; exact h8 _) (by omega) O9) ?_
    rintro v h8' ⟨a, l', hv, hc, O10⟩
    simp only at hv O10
    subst hv
    simp (disch := first | assumption | omega | (simp only [wkD, oneCell, Option.isSome_some, *]; done) | (simp only [wkE, ne_eq]; omega)) only [wkF, X_region, X_seq, X_block, X_loop, X_cond, Y_box, Y_un, Y_store, Y_append, Y_makeMap, Y_buildSlice, ibin_shl, ibin_shr, ibin_and, ↓reduceIte, reduceCtorEq, oneCell, setAt, readN, Nat.reduceAdd, Nat.reduceLeDiff, Nat.reduceMul, layAt, Nat.reduceLT, Nat.reduceEqDiff, setParams, Int.reduceLT, Int.reduceLE, Int.reduceGT, Int.reduceGE, Int.reduceEq, Int.reduceNe]
    have O11 := (Has.ex (F := fun W => Rs.and (Gn S r (i + 1) W) (Lg lb { S with W := W }))).2 ⟨updW W (S.at i) l', Has.and.2 ⟨Gn.succ z g hc, O10⟩⟩
    refine Is_in ⟨_, (O11.at 1 rfl), fun h9 lpC c1 c2 c3 O12 => ⟨rfl, ?_⟩⟩
    have c1' := c1 rfl
    subst c1'
    exact ((((((O12.at 1 rfl).at 5 rfl).at 5 rfl).at 5 rfl).at 5 rfl).at 5 rfl)
end
end Go.Proofs.Ytmpnldmdchchjaa
