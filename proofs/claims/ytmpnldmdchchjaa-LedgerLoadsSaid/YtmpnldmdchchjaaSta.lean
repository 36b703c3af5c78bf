import Derived.Test.YtmpnldmdchchjaaFk
import Derived.Test.YtmpnldmdchchjaaCon
namespace Go.Proofs.Ytmpnldmdchchjaa
open Go Go.Ideal Go.ChangeShapes Go.RowKit
set_option maxHeartbeats 0
set_option linter.unusedSimpArgs false
set_option linter.unusedVariables false
set_option maxRecDepth 100000
attribute [local irreducible] callV T.All T.Is run
theorem env14 : env 14 = some ir14 := rfl
theorem cutis_len {l l' : List It} {r : Int} {a : Bool} (h : CutIs l r a l') : l'.length ≤ l.length := by
  rcases h with ⟨_, _, rfl⟩ | ⟨_, i, _, hi, rfl⟩
  · exact Nat.le_refl _
  · rw [List.length_eraseIdx, if_pos hi]; omega
def Ls.Same (S S' : Ls) : Prop := S'.home = S.home ∧ S'.rob = S.rob ∧ S'.cells = S.cells
theorem Wf.setW {S : Ls} (w : Wf S) {W : Int → List It} (h1 : ∀ c, (W c).length ≤ (S.W c).length) : Wf { S with W := W } := by
  refine ⟨⟨w.z.r1, w.z.r2, w.z.h1, w.z.h2, w.z.c1, w.z.c2⟩, w.g, fun c hc => ?_, fun c => Nat.le_trans (h1 c) (w.w8 c)⟩
  have := w.q c hc
  have h := h1 c
  rw [this] at h
  exact List.eq_nil_of_length_eq_zero (by simpa using h)
theorem Wf.set {S : Ls} (w : Wf S) (c : Int) (e : En) (h : 0 ≤ e.g ∧ e.g ≤ 4294967295) : Wf (S.set c e) := by
  refine ⟨⟨w.z.r1, w.z.r2, w.z.h1, w.z.h2, w.z.c1, w.z.c2⟩, fun x => ?_, w.q, w.w8⟩
  rw [E_set]
  split
  · exact h
  · exact w.g x
theorem gn_wf {S : Ls} (w : Wf S) {r : Int} {W : Int → List It} (g : Gn S r S.N W) : Wf { S with W := W } := by
  refine w.setW fun c => ?_
  by_cases h : ∃ i, i < S.N ∧ c = S.at i
  · obtain ⟨i, hi, rfl⟩ := h
    obtain ⟨a, hc⟩ := g.on i hi
    exact cutis_len hc
  · rw [g.off c fun i hi e => h ⟨i, hi, e⟩]
    exact Nat.le_refl _
theorem free_wf {S S' : Ls} {o o' : Ou} {c : Int} (w : Wf S) (h : FreeTo S o c S' o') : Wf S' ∧ S.Same S' := by
  have w1 := w.set c ⟨-1, (S.E c).g⟩ (w.g c)
  obtain ⟨d, ⟨_, rfl, _⟩ | ⟨_, _, rfl, _⟩ | ⟨hg, x, rest, d2, hW, rfl, _⟩⟩ := h
  · refine ⟨w1.setW fun y => ?_, rfl, rfl, rfl⟩
    unfold updW
    split
    · exact Nat.zero_le _
    · exact Nat.le_refl _
  · exact ⟨w1, rfl, rfl, rfl⟩
  · have w2 : Wf ((S.set c ⟨-1, (S.E c).g⟩).setW c rest) := w1.setW fun y => by
      unfold updW
      split
      · rename_i e
        rw [e]
        show _ ≤ (S.W c).length
        rw [hW]
        simp
      · exact Nat.le_refl _
    have := w.g c
    exact ⟨w2.set c ⟨x.r, (S.E c).g + 1⟩ (by show 0 ≤ (S.E c).g + 1 ∧ (S.E c).g + 1 ≤ 4294967295; omega), rfl, rfl, rfl⟩
theorem free_len {S S' : Ls} {o o' : Ou} {c : Int} (w : Wf S) (h : FreeTo S o c S' o') : o'.ws.length ≤ o.ws.length + 2 ∧ o'.ps.length ≤ o.ps.length + 8 ∧ o'.bs.length ≤ o.bs.length + 8 := by
  have h8 := w.w8 c
  obtain ⟨d, ⟨_, _, rfl⟩ | ⟨_, _, _, rfl⟩ | ⟨hg, x, rest, d2, hW, _, rfl⟩⟩ := h
  · obtain ⟨e1, e2, e3⟩ := denies_len (S.W c) (o.wr c ⟨-1, (S.E c).g⟩ d) (c := c)
    rw [e1, e2, e3]
    simp only [Ou.wr, List.length_append, List.length_cons, List.length_nil]
    omega
  · simp only [Ou.wr, List.length_append, List.length_cons, List.length_nil]
    omega
  · simp only [Ou.wr, Ou.post, List.length_append, List.length_cons, List.length_nil]
    omega
def StTo (S0 : Ls) (r : Int) (L : List En) : Nat → Ls → Ou → Prop
  | 0, S', o' => S' = S0 ∧ o' = oz
  | k + 1, S', o' => ∃ S1 o1, StTo S0 r L k S1 o1 ∧ ((((S1.E (S0.at k)).o = r ∧ (⟨S0.at k, (S1.E (S0.at k)).g⟩ : En) ∉ L) ∧ FreeTo S1 o1 (S0.at k) S' o') ∨ (¬ ((S1.E (S0.at k)).o = r ∧ (⟨S0.at k, (S1.E (S0.at k)).g⟩ : En) ∉ L) ∧ S' = S1 ∧ o' = o1))
theorem stto_wf {S0 : Ls} {r : Int} {L : List En} (w : Wf S0) : ∀ {k : Nat} {S' : Ls} {o' : Ou}, StTo S0 r L k S' o' → Wf S' ∧ S0.Same S' ∧ o'.ws.length ≤ 2 * k ∧ o'.ps.length ≤ 8 * k ∧ o'.bs.length ≤ 8 * k
  | 0, S', o', ⟨h1, h2⟩ => by
    subst h1 h2
    exact ⟨w, ⟨rfl, rfl, rfl⟩, Nat.le_refl _, Nat.le_refl _, Nat.le_refl _⟩
  | k + 1, S', o', ⟨S1, o1, h, hs⟩ => by
    obtain ⟨w1, ⟨s1, s2, s3⟩, l1, l2, l3⟩ := stto_wf w h
    rcases hs with ⟨_, hf⟩ | ⟨_, rfl, rfl⟩
    · obtain ⟨w2, t1, t2, t3⟩ := free_wf w1 hf
      obtain ⟨m1, m2, m3⟩ := free_len w1 hf
      exact ⟨w2, ⟨t1.trans s1, t2.trans s2, t3.trans s3⟩, by omega, by omega, by omega⟩
    · exact ⟨w1, ⟨s1, s2, s3⟩, by omega, by omega, by omega⟩
def StatIs (S : Ls) (r : Int) (L : List En) (e : Int) (S' : Ls) (o' : Ou) : Prop :=
  (¬ S.Rob r ∧ e = 2 ∧ S' = S ∧ o' = oz) ∨ (S.Rob r ∧ e = 0 ∧ ∃ W0 Sk, Gn S r S.N W0 ∧ StTo { S with W := W0 } r L S.N Sk o' ∧ S' = { Sk with told := upd1 Sk.told r 1 })
theorem lc_same {S S' : Ls} (s : S.Same S') (eb qb tb : Nat) : lc S' eb qb tb = lc S eb qb tb := by
  unfold lc
  rw [s.1, s.2.1, s.2.2]
section
variable {ro : Nat → Option (List Value × Nat)} {h : Heap} {R : List Rs} {lb ob : Nat} {S : Ls} {o : Ou} {n : Nat}
theorem status_h (r : Int) {v : Value} {L : List En} (w : Wf S) (hn : 1200 < n) (hL : L.length < 1000) (hs : ∃ p l c, v = .slice p l c) (V : ∀ (M : List Rs) (h : Heap), Has ro h (M ++ R) → Vw 2 ec h v L) (O : Has ro h (Lg lb S :: R)) :
    (callV env (n + 20) (.func (.func 14) #[] #[]) [.pointer (some ⟨lb, 0, none⟩), .int .i64 r, v] h).Is fun p => ∃ wv pv bv e S' o', p.1 = .tuple #[.agg #[wv, pv, bv], .int .i64 e] ∧ StatIs S r L e S' o' ∧ Has ro p.2 (Lg lb S' :: Oo wv pv bv o' :: R) := by
  obtain ⟨pp, ll, cc, rfl⟩ := hs
  refine call_is env14 ?_
  simp (disch := first | assumption | omega | (simp only [wkD, oneCell, Option.isSome_some, *]; done) | (simp only [wkE, ne_eq]; omega)) only [ir14, List.append_nil, List.nil_append, List.cons_append, List.length_cons, List.length_nil, Nat.reduceAdd, Nat.reduceSub, List.replicate_succ, List.replicate_zero, wkF, X_region, X_seq, X_block, X_loop, X_cond, Y_un, Y_store, Y_append, Y_makeMap, Y_buildSlice, ibin_shl, ibin_shr, ibin_and, ↓reduceIte, reduceCtorEq, oneCell, setAt, readN, Nat.reduceAdd, Nat.reduceLeDiff, Nat.reduceMul, layAt, Nat.reduceLT, Nat.reduceEqDiff, setParams, Int.reduceLT, Int.reduceLE, Int.reduceGT, Int.reduceGE, Int.reduceEq, Int.reduceNe]
  refine Y_boxO O ?_
  intro b3 h1 O1 e1
  simp (disch := first | assumption | omega | (simp only [wkD, oneCell, Option.isSome_some, *]; done) | (simp only [wkE, ne_eq]; omega)) only [wkF, X_region, X_seq, X_block, X_loop, X_cond, Y_un, Y_store, Y_append, Y_makeMap, Y_buildSlice, ibin_shl, ibin_shr, ibin_and, ↓reduceIte, reduceCtorEq, oneCell, setAt, readN, Nat.reduceAdd, Nat.reduceLeDiff, Nat.reduceMul, layAt, Nat.reduceLT, Nat.reduceEqDiff, setParams, Int.reduceLT, Int.reduceLE, Int.reduceGT, Int.reduceGE, Int.reduceEq, Int.reduceNe]
  refine Y_boxO O1 ?_
  intro b4 h2 O2 e2
  simp (disch := first | assumption | omega | (simp only [wkD, oneCell, Option.isSome_some, *]; done) | (simp only [wkE, ne_eq]; omega)) only [wkF, X_region, X_seq, X_block, X_loop, X_cond, Y_un, Y_store, Y_append, Y_makeMap, Y_buildSlice, ibin_shl, ibin_shr, ibin_and, ↓reduceIte, reduceCtorEq, oneCell, setAt, readN, Nat.reduceAdd, Nat.reduceLeDiff, Nat.reduceMul, layAt, Nat.reduceLT, Nat.reduceEqDiff, setParams, Int.reduceLT, Int.reduceLE, Int.reduceGT, Int.reduceGE, Int.reduceEq, Int.reduceNe]
  refine Y_boxO O2 ?_
  intro b5 h3 O3 e3
  simp (disch := first | assumption | omega | (simp only [wkD, oneCell, Option.isSome_some, *]; done) | (simp only [wkE, ne_eq]; omega)) only [wkF, X_region, X_seq, X_block, X_loop, X_cond, Y_un, Y_store, Y_append, Y_makeMap, Y_buildSlice, ibin_shl, ibin_shr, ibin_and, ↓reduceIte, reduceCtorEq, oneCell, setAt, readN, Nat.reduceAdd, Nat.reduceLeDiff, Nat.reduceMul, layAt, Nat.reduceLT, Nat.reduceEqDiff, setParams, Int.reduceLT, Int.reduceLE, Int.reduceGT, Int.reduceGE, Int.reduceEq, Int.reduceNe]
  refine Y_boxO O3 ?_
  intro b6 h4 O4 e4
  simp (disch := first | assumption | omega | (simp only [wkD, oneCell, Option.isSome_some, *]; done) | (simp only [wkE, ne_eq]; omega)) only [wkF, X_region, X_seq, X_block, X_loop, X_cond, Y_un, Y_store, Y_append, Y_makeMap, Y_buildSlice, ibin_shl, ibin_shr, ibin_and, ↓reduceIte, reduceCtorEq, oneCell, setAt, readN, Nat.reduceAdd, Nat.reduceLeDiff, Nat.reduceMul, layAt, Nat.reduceLT, Nat.reduceEqDiff, setParams, Int.reduceLT, Int.reduceLE, Int.reduceGT, Int.reduceGE, Int.reduceEq, Int.reduceNe]
  refine Y_boxO O4 ?_
  intro b8 h5 O5 e5
  replace O5 : Has ro h5 (Ob b8 (.cells [.slice none 0 0, .slice none 0 0, .slice none 0 0] 1 false) :: Ob b6 (.cells [.slice none 0 0, .slice none 0 0, .slice none 0 0] 1 false) :: Ob b5 (.cells [.slice pp ll cc] 1 false) :: Ob b4 (.cells [.int .i64 r] 1 false) :: Ob b3 (.cells [.pointer (some ⟨lb, 0, none⟩)] 1 false) :: Lg lb S :: R) := O5
  clear O O1 O2 O3 O4 e1 e2 e3 e4 e5
  replace O5 := (Has.ogNew O5).at 5 rfl
  replace O5 : Has ro h5 (Lg lb S :: Og b8 oz :: Ob b6 (.cells [.slice none 0 0, .slice none 0 0, .slice none 0 0] 1 false) :: Ob b5 (.cells [.slice pp ll cc] 1 false) :: Ob b4 (.cells [.int .i64 r] 1 false) :: Ob b3 (.cells [.pointer (some ⟨lb, 0, none⟩)] 1 false) :: R) := O5
  have hr0 : ¬ S.rob = 0 := by have := w.z.r1; omega
  have g3 := O5.get 5 rfl
  have g4 := O5.get 4 rfl
  simp (disch := first | assumption | omega | (simp only [wkD, oneCell, Option.isSome_some, *]; done) | (simp only [wkE, ne_eq]; omega)) only [g3, wkF, X_region, X_seq, X_block, X_loop, X_cond, Y_box, Y_un, Y_store, Y_append, Y_makeMap, Y_buildSlice, ibin_shl, ibin_shr, ibin_and, ↓reduceIte, reduceCtorEq, oneCell, setAt, readN, Nat.reduceAdd, Nat.reduceLeDiff, Nat.reduceMul, layAt, Nat.reduceLT, Nat.reduceEqDiff, setParams, Int.reduceLT, Int.reduceLE, Int.reduceGT, Int.reduceGE, Int.reduceEq, Int.reduceNe]
  refine Z_is (none_h (n := n + 18) O5) ?_
  rintro v h6 ⟨rfl, rfl⟩
  simp (disch := first | assumption | omega | (simp only [wkD, oneCell, Option.isSome_some, *]; done) | (simp only [wkE, ne_eq]; omega)) only [hr0, g3, g4, wkF, X_region, X_seq, X_block, X_loop, X_cond, Y_box, Y_un, Y_store, Y_append, Y_makeMap, Y_buildSlice, ibin_shl, ibin_shr, ibin_and, ↓reduceIte, reduceCtorEq, oneCell, setAt, readN, Nat.reduceAdd, Nat.reduceLeDiff, Nat.reduceMul, layAt, Nat.reduceLT, Nat.reduceEqDiff, setParams, Int.reduceLT, Int.reduceLE, Int.reduceGT, Int.reduceGE, Int.reduceEq, Int.reduceNe]
  refine Z_is (robot_h (n := n + 17) r O5) ?_
  rintro v h6 ⟨rfl, rfl⟩
  by_cases hr : S.Rob r
  · simp (disch := first | assumption | omega | (simp only [wkD, oneCell, Option.isSome_some, *]; done) | (simp only [wkE, ne_eq]; omega)) only [hr, g3, g4, wkF, X_region, X_seq, X_block, X_loop, X_cond, Y_box, Y_un, Y_store, Y_append, Y_makeMap, Y_buildSlice, ibin_shl, ibin_shr, ibin_and, ↓reduceIte, reduceCtorEq, oneCell, setAt, readN, Nat.reduceAdd, Nat.reduceLeDiff, Nat.reduceMul, layAt, Nat.reduceLT, Nat.reduceEqDiff, setParams, Int.reduceLT, Int.reduceLE, Int.reduceGT, Int.reduceGE, Int.reduceEq, Int.reduceNe]
    refine Z_is (gone_h (n := n + 15) w.z r (by omega) w.q w.w8 O5) ?_
    rintro v h6 ⟨W0, hW0, O6⟩
    simp only at O6
    have g3 := O6.get 5 rfl
    simp (disch := first | assumption | omega | (simp only [wkD, oneCell, Option.isSome_some, *]; done) | (simp only [wkE, ne_eq]; omega)) only [g3, wkF, X_region, X_seq, X_block, X_loop, X_cond, Y_box, Y_un, Y_store, Y_append, Y_makeMap, Y_buildSlice, ibin_shl, ibin_shr, ibin_and, ↓reduceIte, reduceCtorEq, oneCell, setAt, readN, Nat.reduceAdd, Nat.reduceLeDiff, Nat.reduceMul, layAt, Nat.reduceLT, Nat.reduceEqDiff, setParams, Int.reduceLT, Int.reduceLE, Int.reduceGT, Int.reduceGE, Int.reduceEq, Int.reduceNe]
    refine Z_is (mine_h (n := n + 18) O6) ?_
    rintro v h7 ⟨E, rfl, O7⟩
    simp only at O7
    simp (disch := first | assumption | omega | (simp only [wkD, oneCell, Option.isSome_some, *]; done) | (simp only [wkE, ne_eq]; omega)) only [wkF, X_region, X_seq, X_block, X_loop, X_cond, Y_box, Y_un, Y_store, Y_append, Y_makeMap, Y_buildSlice, ibin_shl, ibin_shr, ibin_and, ↓reduceIte, reduceCtorEq, oneCell, setAt, readN, Nat.reduceAdd, Nat.reduceLeDiff, Nat.reduceMul, layAt, Nat.reduceLT, Nat.reduceEqDiff, setParams, Int.reduceLT, Int.reduceLE, Int.reduceGT, Int.reduceGE, Int.reduceEq, Int.reduceNe]
    refine X_rangeO O7 (g := 55) (first := #[]) rfl ?_
    intro m l h8 O8
    clear O5 O6 O7 g3 g4
    generalize hS0 : ({ S with W := W0 } : Ls) = S0 at O8
    have w0 : Wf S0 := by rw [← hS0]; exact gn_wf w hW0
    have sS : S.Same S0 := by rw [← hS0]; exact ⟨rfl, rfl, rfl⟩
    have hat : ∀ i, S0.at i = S.at i := by rw [← hS0]; exact fun _ => rfl
    have hNN : S0.N = S.N := by rw [← hS0]; rfl
    have hN := N_le w.z
    generalize hlp : ({ state := LoopState.ready, pending := IExit.normal, tmps := _, params := _, assign := _, body := _, defers := m } : ILoop) = lp at O8
    have l1 : lp.state = .ready := by rw [← hlp]
    have l2 : lp.pending = .normal := by rw [← hlp]
    have l3 := congrArg ILoop.tmps hlp.symm
    have l4 := congrArg ILoop.params hlp.symm
    have l5 := congrArg ILoop.assign hlp.symm
    have l6 := congrArg ILoop.body hlp.symm
    simp only at l3 l4 l5 l6
    clear hlp
    refine T.Is.mono ?_ (mine_iter (ro := ro) (lb := lb) (n := n + 18) (l := l) (E := E) (S := S) w.z (by omega) (fun i => Ob l (.loop lp) :: Ob m (.deferred true) :: Ob E (.cells [.pointer (some ⟨lb, 0, none⟩)] 1 false) :: Ob b6 (.cells [.slice none 0 0, .slice none 0 0, .slice none 0 0] 1 false) :: Ob b5 (.cells [.slice pp ll cc] 1 false) :: Ob b4 (.cells [.int .i64 r] 1 false) :: Ob b3 (.cells [.pointer (some ⟨lb, 0, none⟩)] 1 false) :: (Rs.ex fun x : Ls × Ou => Rs.and (StTo S0 r L i x.1 x.2) (Rs.star (Lg lb x.1) (Og b8 x.2))) :: R) ?_ ?_ ?_)
    · rintro p O5
      refine ⟨lp, _, (by rw [l1]; intro e; cases e), O5, fun h6 O6 => ?_⟩
      rw [l2]
      clear O5 O8
      obtain ⟨⟨Sk, ok⟩, O7⟩ := Has.ex.1 (O6.at 6 rfl)
      obtain ⟨g, O8⟩ := Has.and.1 O7
      replace O8 : Has ro h6 (Lg lb Sk :: Og b8 ok :: Ob m (.deferred true) :: Ob E (.cells [.pointer (some ⟨lb, 0, none⟩)] 1 false) :: Ob b6 (.cells [.slice none 0 0, .slice none 0 0, .slice none 0 0] 1 false) :: Ob b5 (.cells [.slice pp ll cc] 1 false) :: Ob b4 (.cells [.int .i64 r] 1 false) :: Ob b3 (.cells [.pointer (some ⟨lb, 0, none⟩)] 1 false) :: R) := Has.star.1 O8
      simp only at g
      obtain ⟨eb, qb, tb, O9⟩ := Has.lgOpen O8
      have g1 := O9.get 0 rfl
      unfold lc at g1
      have g3 := O9.get 11 rfl
      have g4 := O9.get 10 rfl
      obtain ⟨h10, u10, O10⟩ := O9.mpUpd 3 rfl r 1
      simp only [List.set_cons_zero, List.set_cons_succ] at O10
      have u10' : vMapUpdate h6 none (.map (some tb)) (.int .i64 r) (.int .i64 1) = some h10 := u10
      replace O10 : Has ro h10 (Lg lb { Sk with told := upd1 Sk.told r 1 } :: Og b8 ok :: Ob m (.deferred true) :: Ob E (.cells [.pointer (some ⟨lb, 0, none⟩)] 1 false) :: Ob b6 (.cells [.slice none 0 0, .slice none 0 0, .slice none 0 0] 1 false) :: Ob b5 (.cells [.slice pp ll cc] 1 false) :: Ob b4 (.cells [.int .i64 r] 1 false) :: Ob b3 (.cells [.pointer (some ⟨lb, 0, none⟩)] 1 false) :: R) := Has.lgClose (S := { Sk with told := upd1 Sk.told r 1 }) O10
      simp (disch := first | assumption | omega | (simp only [wkD, oneCell, Option.isSome_some, *]; done) | (simp only [wkE, ne_eq]; omega)) only [wkF, X_region, X_seq, X_block, X_loop, X_cond, Y_box, Y_un, Y_store, Y_append, Y_makeMap, Y_buildSlice, ibin_shl, ibin_shr, ibin_and, ↓reduceIte, reduceCtorEq, oneCell, setAt, readN, Nat.reduceAdd, Nat.reduceLeDiff, Nat.reduceMul, layAt, Nat.reduceLT, Nat.reduceEqDiff, setParams, Int.reduceLT, Int.reduceLE, Int.reduceGT, Int.reduceGE, Int.reduceEq, Int.reduceNe]
      refine X_drawn _ fun an => ?_
      obtain ⟨wv, pv, bv, ga, gb, pb, one, O11⟩ := fin3 ((O10.at 4 rfl).at 2 rfl)
      simp (disch := first | assumption | omega | (simp only [wkD, oneCell, Option.isSome_some, *]; done) | (simp only [wkE, ne_eq]; omega)) only [g1, g3, g4, D_mapUpdateB, u10', DHB_some, ga, gb, pb, one, c3, s3, wkF, X_region, X_seq, X_block, X_loop, X_cond, Y_box, Y_un, Y_store, Y_append, Y_makeMap, Y_buildSlice, ibin_shl, ibin_shr, ibin_and, ↓reduceIte, reduceCtorEq, setAt, readN, Nat.reduceAdd, Nat.reduceLeDiff, Nat.reduceMul, layAt, Nat.reduceLT, Nat.reduceEqDiff, setParams, Int.reduceLT, Int.reduceLE, Int.reduceGT, Int.reduceGE, Int.reduceEq, Int.reduceNe]
      refine leafMO O11 3 rfl fun h12 O12 => ?_
      simp only [List.set_cons_zero, List.set_cons_succ] at O12
      exact ⟨_, answer2 _ _ _ _ (cellN O12 0 rfl rfl rfl) rfl, wv, pv, bv, _, _, _, rfl, Or.inr ⟨hr, rfl, W0, Sk, hW0, by rw [hS0, ← hNN, hNN]; exact g, rfl⟩, (((((((O12.rid 7 rfl).rid 6 rfl).rid 5 rfl).rid 4 rfl).rid 3 rfl).drop).at 1 rfl)⟩
    · have := (Has.ex (F := fun x : Ls × Ou => Rs.and (StTo S0 r L 0 x.1 x.2) (Rs.star (Lg lb x.1) (Og b8 x.2)))).2 ⟨(S0, oz), Has.and.2 ⟨⟨rfl, rfl⟩, Has.star.2 ((O8.at 4 rfl).at 4 rfl)⟩⟩
      exact (((((((this.at 7 rfl).at 7 rfl).at 7 rfl).at 7 rfl).at 7 rfl).at 7 rfl).at 7 rfl)
    · rintro i h6 hi O6
      obtain ⟨x, O7⟩ := Has.ex.1 (O6.at 7 rfl)
      obtain ⟨g, O8⟩ := Has.and.1 O7
      obtain ⟨_, sx, _⟩ := stto_wf w0 g
      obtain ⟨eb, qb, tb, O9⟩ := Has.lgOpen (Has.star.1 O8)
      refine ⟨O6.get 2 rfl, eb, qb, tb, ?_⟩
      rw [← lc_same ⟨sx.1.trans sS.1, sx.2.1.trans sS.2.1, sx.2.2.trans sS.2.2⟩]
      exact O9.get 0 rfl
    · rintro i h6 hi O6
      rw [callV_yield]
      refine round_isB O6 l1 l2 l3 l4 l5 l6 rfl ?_
      simp (disch := first | assumption | omega | (simp only [wkD, oneCell, Option.isSome_some, *]; done) | (simp only [wkE, ne_eq]; omega)) only [List.nil_append, wkF, X_region, X_seq, X_block, X_loop, X_cond, Y_box, Y_un, Y_store, Y_append, Y_makeMap, Y_buildSlice, ibin_shl, ibin_shr, ibin_and, ↓reduceIte, reduceCtorEq, oneCell, setAt, readN, Nat.reduceAdd, Nat.reduceLeDiff, Nat.reduceMul, layAt, Nat.reduceLT, Nat.reduceEqDiff, setParams, Int.reduceLT, Int.reduceLE, Int.reduceGT, Int.reduceGE, Int.reduceEq, Int.reduceNe]
      refine Is_in ⟨rfl, _, O6, fun h7 lpB O7 => ?_⟩
      obtain ⟨⟨S1, o1⟩, O8⟩ := Has.ex.1 (O7.at 7 rfl)
      obtain ⟨g, O9⟩ := Has.and.1 O8
      replace O9 : Has ro h7 (Lg lb S1 :: Og b8 o1 :: Ob l (.loop lpB) :: Ob m (.deferred true) :: Ob E (.cells [.pointer (some ⟨lb, 0, none⟩)] 1 false) :: Ob b6 (.cells [.slice none 0 0, .slice none 0 0, .slice none 0 0] 1 false) :: Ob b5 (.cells [.slice pp ll cc] 1 false) :: Ob b4 (.cells [.int .i64 r] 1 false) :: Ob b3 (.cells [.pointer (some ⟨lb, 0, none⟩)] 1 false) :: R) := Has.star.1 O9
      simp only at g
      obtain ⟨w1, s1, n1, n2, n3⟩ := stto_wf w0 g
      have q3 := O9.get 8 rfl
      simp (disch := first | assumption | omega | (simp only [wkD, oneCell, Option.isSome_some, *]; done) | (simp only [wkE, ne_eq]; omega)) only [q3, wkF, X_region, X_seq, X_block, X_loop, X_cond, Y_un, Y_store, Y_append, Y_makeMap, Y_buildSlice, ibin_shl, ibin_shr, ibin_and, ↓reduceIte, reduceCtorEq, oneCell, setAt, readN, Nat.reduceAdd, Nat.reduceLeDiff, Nat.reduceMul, layAt, Nat.reduceLT, Nat.reduceEqDiff, setParams, Int.reduceLT, Int.reduceLE, Int.reduceGT, Int.reduceGE, Int.reduceEq, Int.reduceNe]
      refine Z_is (entry_h (n := n + 15) (S.at i) O9) ?_
      rintro v h10 ⟨rfl, O10⟩
      simp only at O10
      simp (disch := first | assumption | omega | (simp only [wkD, oneCell, Option.isSome_some, *]; done) | (simp only [wkE, ne_eq]; omega)) only [wkF, X_region, X_seq, X_block, X_loop, X_cond, Y_un, Y_store, Y_append, Y_makeMap, Y_buildSlice, ibin_shl, ibin_shr, ibin_and, ↓reduceIte, reduceCtorEq, oneCell, setAt, readN, Nat.reduceAdd, Nat.reduceLeDiff, Nat.reduceMul, layAt, Nat.reduceLT, Nat.reduceEqDiff, setParams, Int.reduceLT, Int.reduceLE, Int.reduceGT, Int.reduceGE, Int.reduceEq, Int.reduceNe]
      refine Y_boxO O10 ?_
      intro b10 h11 O11 e11
      replace O11 : Has ro h11 (Ob b10 (.cells [.int .i64 0, .int .u32 0] 1 false) :: Lg lb S1 :: Og b8 o1 :: Ob l (.loop lpB) :: Ob m (.deferred true) :: Ob E (.cells [.pointer (some ⟨lb, 0, none⟩)] 1 false) :: Ob b6 (.cells [.slice none 0 0, .slice none 0 0, .slice none 0 0] 1 false) :: Ob b5 (.cells [.slice pp ll cc] 1 false) :: Ob b4 (.cells [.int .i64 r] 1 false) :: Ob b3 (.cells [.pointer (some ⟨lb, 0, none⟩)] 1 false) :: R) := O11
      have g11 := O11.get 0 rfl
      have p11 := O11.can 0 rfl
      have O12 := O11.set 0 rfl (.cells (ec (S1.E (S.at i))) 1 false)
      simp only [List.set_cons_zero] at O12
      have g12 := O12.get 0 rfl
      have g13 := O12.get 8 rfl
      have g14 := O12.get 7 rfl
      by_cases ho : (S1.E (S.at i)).o = r
      · simp (disch := first | assumption | omega | (simp only [wkD, oneCell, Option.isSome_some, *]; done) | (simp only [wkE, ne_eq]; omega)) only [ec_len, tk_ec, tk_ec1, dr_ec1, agg_ec, ev_cells, set_ec, ec_one, g11, p11, g12, g13, g14, ho, wkF, X_region, X_seq, X_block, X_loop, X_cond, Y_box, Y_un, Y_store, Y_append, Y_makeMap, Y_buildSlice, ibin_shl, ibin_shr, ibin_and, ↓reduceIte, reduceCtorEq, oneCell, setAt, readN, Nat.reduceAdd, Nat.reduceLeDiff, Nat.reduceMul, layAt, Nat.reduceLT, Nat.reduceEqDiff, setParams, Int.reduceLT, Int.reduceLE, Int.reduceGT, Int.reduceGE, Int.reduceEq, Int.reduceNe]
        refine Z_is (contains_h (n := n + 15) (⟨S.at i, (S1.E (S.at i)).g⟩ : En) (by omega) (by omega) (V [_, _, _, _, _, _, _, _, _, _] _ O12) O12) ?_
        rintro v h13 ⟨rfl, O13⟩
        simp only at O13
        have g15 := O13.get 9 rfl
        by_cases hm : (⟨S.at i, (S1.E (S.at i)).g⟩ : En) ∈ L
        · have hmd : decide ((⟨S.at i, (S1.E (S.at i)).g⟩ : En) ∈ L) = true := decide_eq_true hm
          simp (disch := first | assumption | omega | (simp only [wkD, oneCell, Option.isSome_some, *]; done) | (simp only [wkE, ne_eq]; omega)) only [hmd, wkF, X_region, X_seq, X_block, X_loop, X_cond, Y_box, Y_un, Y_store, Y_append, Y_makeMap, Y_buildSlice, ibin_shl, ibin_shr, ibin_and, ↓reduceIte, reduceCtorEq, oneCell, setAt, readN, Nat.reduceAdd, Nat.reduceLeDiff, Nat.reduceMul, layAt, Nat.reduceLT, Nat.reduceEqDiff, setParams, Int.reduceLT, Int.reduceLE, Int.reduceGT, Int.reduceGE, Int.reduceEq, Int.reduceNe]
          have O20 := (Has.ex (F := fun x : Ls × Ou => Rs.and (StTo S0 r L (i + 1) x.1 x.2) (Rs.star (Lg lb x.1) (Og b8 x.2)))).2 ⟨(S1, o1), Has.and.2 ⟨⟨S1, o1, g, Or.inr ⟨by rw [hat]; exact fun x => x.2 hm, rfl, rfl⟩⟩, Has.star.2 O13.drop⟩⟩
          refine Is_in ⟨_, (O20.at 1 rfl), fun h21 lpC c1 c2 c3 O21 => ⟨rfl, ?_⟩⟩
          have c1' := c1 rfl
          subst c1'
          exact ((((((((O21.at 1 rfl).at 7 rfl).at 7 rfl).at 7 rfl).at 7 rfl).at 7 rfl).at 7 rfl).at 7 rfl)
        · have hmd : decide ((⟨S.at i, (S1.E (S.at i)).g⟩ : En) ∈ L) = false := decide_eq_false hm
          simp (disch := first | assumption | omega | (simp only [wkD, oneCell, Option.isSome_some, *]; done) | (simp only [wkE, ne_eq]; omega)) only [hmd, g15, wkF, X_region, X_seq, X_block, X_loop, X_cond, Y_box, Y_un, Y_store, Y_append, Y_makeMap, Y_buildSlice, ibin_shl, ibin_shr, ibin_and, ↓reduceIte, reduceCtorEq, oneCell, setAt, readN, Nat.reduceAdd, Nat.reduceLeDiff, Nat.reduceMul, layAt, Nat.reduceLT, Nat.reduceEqDiff, setParams, Int.reduceLT, Int.reduceLE, Int.reduceGT, Int.reduceGE, Int.reduceEq, Int.reduceNe]
          refine Z_is (free_h (n := n + 11) (o := o1) (S.at i) (by omega) (w1.g _) (w1.q _) (w1.w8 _) ⟨by omega, by omega, by omega⟩ O13.drop) ?_
          rintro v h16 ⟨S', o', hf, O16⟩
          simp only at O16
          simp (disch := first | assumption | omega | (simp only [wkD, oneCell, Option.isSome_some, *]; done) | (simp only [wkE, ne_eq]; omega)) only [wkF, X_region, X_seq, X_block, X_loop, X_cond, Y_box, Y_un, Y_store, Y_append, Y_makeMap, Y_buildSlice, ibin_shl, ibin_shr, ibin_and, ↓reduceIte, reduceCtorEq, oneCell, setAt, readN, Nat.reduceAdd, Nat.reduceLeDiff, Nat.reduceMul, layAt, Nat.reduceLT, Nat.reduceEqDiff, setParams, Int.reduceLT, Int.reduceLE, Int.reduceGT, Int.reduceGE, Int.reduceEq, Int.reduceNe]
          have O20 := (Has.ex (F := fun x : Ls × Ou => Rs.and (StTo S0 r L (i + 1) x.1 x.2) (Rs.star (Lg lb x.1) (Og b8 x.2)))).2 ⟨(S', o'), Has.and.2 ⟨⟨S1, o1, g, Or.inl ⟨by rw [hat]; exact ⟨ho, hm⟩, by rw [hat]; exact hf⟩⟩, Has.star.2 O16⟩⟩
          refine Is_in ⟨_, (O20.at 1 rfl), fun h21 lpC c1 c2 c3 O21 => ⟨rfl, ?_⟩⟩
          have c1' := c1 rfl
          subst c1'
          exact ((((((((O21.at 1 rfl).at 7 rfl).at 7 rfl).at 7 rfl).at 7 rfl).at 7 rfl).at 7 rfl).at 7 rfl)
      · simp (disch := first | assumption | omega | (simp only [wkD, oneCell, Option.isSome_some, *]; done) | (simp only [wkE, ne_eq]; omega)) only [ec_len, tk_ec, tk_ec1, dr_ec1, agg_ec, ev_cells, set_ec, ec_one, g11, p11, g12, g13, g14, ho, wkF, X_region, X_seq, X_block, X_loop, X_cond, Y_box, Y_un, Y_store, Y_append, Y_makeMap, Y_buildSlice, ibin_shl, ibin_shr, ibin_and, ↓reduceIte, reduceCtorEq, oneCell, setAt, readN, Nat.reduceAdd, Nat.reduceLeDiff, Nat.reduceMul, layAt, Nat.reduceLT, Nat.reduceEqDiff, setParams, Int.reduceLT, Int.reduceLE, Int.reduceGT, Int.reduceGE, Int.reduceEq, Int.reduceNe]
        have O20 := (Has.ex (F := fun x : Ls × Ou => Rs.and (StTo S0 r L (i + 1) x.1 x.2) (Rs.star (Lg lb x.1) (Og b8 x.2)))).2 ⟨(S1, o1), Has.and.2 ⟨⟨S1, o1, g, Or.inr ⟨by rw [hat]; exact fun x => ho x.1, rfl, rfl⟩⟩, Has.star.2 O12.drop⟩⟩
        refine Is_in ⟨_, (O20.at 1 rfl), fun h21 lpC c1 c2 c3 O21 => ⟨rfl, ?_⟩⟩
        have c1' := c1 rfl
        subst c1'
        exact ((((((((O21.at 1 rfl).at 7 rfl).at 7 rfl).at 7 rfl).at 7 rfl).at 7 rfl).at 7 rfl).at 7 rfl)
  · simp (disch := first | assumption | omega | (simp only [wkD, oneCell, Option.isSome_some, *]; done) | (simp only [wkE, ne_eq]; omega)) only [hr, wkF, X_region, X_seq, X_block, X_loop, X_cond, Y_box, Y_un, Y_store, Y_append, Y_makeMap, Y_buildSlice, ibin_shl, ibin_shr, ibin_and, ↓reduceIte, reduceCtorEq, oneCell, setAt, readN, Nat.reduceAdd, Nat.reduceLeDiff, Nat.reduceMul, layAt, Nat.reduceLT, Nat.reduceEqDiff, setParams, Int.reduceLT, Int.reduceLE, Int.reduceGT, Int.reduceGE, Int.reduceEq, Int.reduceNe]
    obtain ⟨wv, pv, bv, ga, gb, pb, one, O9⟩ := fin3 (O5.at 2 rfl |>.at 2 rfl)
    simp (disch := first | assumption | omega | (simp only [wkD, oneCell, Option.isSome_some, *]; done) | (simp only [wkE, ne_eq]; omega)) only [ga, gb, pb, one, c3, s3, wkF, X_region, X_seq, X_block, X_loop, X_cond, Y_box, Y_un, Y_store, Y_append, Y_makeMap, Y_buildSlice, ibin_shl, ibin_shr, ibin_and, ↓reduceIte, reduceCtorEq, setAt, readN, Nat.reduceAdd, Nat.reduceLeDiff, Nat.reduceMul, layAt, Nat.reduceLT, Nat.reduceEqDiff, setParams, Int.reduceLT, Int.reduceLE, Int.reduceGT, Int.reduceGE, Int.reduceEq, Int.reduceNe]
    exact leafO _ (answer2 _ _ _ _ (cellN O9 0 rfl rfl rfl) rfl) ⟨wv, pv, bv, _, _, _, rfl, Or.inl ⟨hr, rfl, rfl, rfl⟩, ((O9.drop.at 1 rfl).rid 4 rfl |>.rid 3 rfl |>.rid 2 rfl)⟩
end
end Go.Proofs.Ytmpnldmdchchjaa
