import Derived.Test.YtmpnldmdchchjaaFk
import Derived.Test.YtmpnldmdchchjaaReq
namespace Go.Proofs.Ytmpnldmdchchjaa
open Go Go.Ideal Go.ChangeShapes Go.RowKit
set_option maxHeartbeats 0
set_option linter.unusedSimpArgs false
set_option linter.unusedVariables false
set_option maxRecDepth 100000
attribute [local irreducible] callV T.All T.Is run
theorem env37 : env 37 = some ir37 := rfl
theorem env56 : env 56 = some ir56 := rfl
section
variable {ro : Nat → Option (List Value × Nat)} {h : Heap} {R : List Rs} {lb ob : Nat} {S : Ls} {o : Ou} {n : Nat}
theorem index_h {v : Value} {L : List En} (x : En) (hn : L.length + 10 < n) (hl : L.length < 1000000) (V : Vw 2 ec h v L) (O : Has ro h R) :
    (callV env (n + 1) (.func (.func 56) #[] #[]) [v, ev x] h).Is fun p => (∃ k : Int, p.1 = .int .i64 k ∧ (0 ≤ k ↔ x ∈ L)) ∧ Has ro p.2 R := by
  obtain ⟨pv, cv, rfl, _⟩ := V.len
  refine call_is env56 ?_
  simp only [ir56, Nat.reduceAdd, Nat.reduceSub, wkF, X_seq, Y_store, Y_makeMap, Y_buildSlice, ↓reduceIte, reduceCtorEq, wkO, wkS, wkN, wkG]
  refine Y_boxO O ?_
  intro b3 h1 O1 e1
  replace O1 : Has ro h1 (Ob b3 (.cells (ec x) 1 false) :: R) := O1
  have V1 := V.ext e1
  clear V O e1
  simp only [wkF, ↓reduceIte, reduceCtorEq, Nat.reduceAdd, wkG, wkH]
  refine L_is (fun q s => ∃ i : Nat, q = L.length - i ∧ i ≤ L.length ∧ s.defers = [] ∧ s.tmps.length = 19 ∧ s.tmps.getD 0 undefV = .slice pv L.length cv ∧ s.tmps.getD 3 undefV = .pointer (some ⟨b3, 0, none⟩) ∧ s.tmps.getD 7 undefV = .int .i64 (L.length : Int) ∧ s.tmps.getD 8 undefV = .int .i64 (i : Int) ∧ s.h = h1 ∧ ∀ j y, j < i → L[j]? = some y → x ≠ y) L.length ?_ (by omega) ?_
  · exact ⟨0, rfl, Nat.zero_le _, rfl, rfl, rfl, rfl, rfl, rfl, rfl, fun j y hj => by omega⟩
  rintro q tm df h2 ⟨i, hk, hi, hd, hlen_, g0, g3, g7, g8, hh, hno⟩
  simp only at hd g0 g3 g7 g8 hh
  subst hd hh
  obtain ⟨w, hg_, rfl⟩ := explode hlen_
  simp only [hg_] at g0 g3 g7 g8
  clear hlen_ hg_
  have gb := O1.get 0 rfl
  by_cases h0 : i < L.length
  · have h0' : (i : Int) < (L.length : Int) := by omega
    have h1' : (0 : Int) ≤ (i : Int) := by omega
    obtain ⟨b, off, sp, c2, hv, _, rd⟩ := V1.rd ec_len (List.getElem?_eq_getElem h0)
    have e1 : pv = some ⟨b, off, sp⟩ := by injection hv
    subst e1
    have y1 : IntKind.i64.wrap ((i : Int) + 1) = ((i + 1 : Nat) : Int) := by rw [wrap_i64 (by omega) (by omega)]; omega
    simp only [g0, g3, g7, g8, h0', wkF, ↓reduceIte, reduceCtorEq, Nat.reduceAdd, wkG, wkH]
    refine X_drawn _ fun an => ?_
    by_cases hx : x = L[i]
    · have hd : decide (x = L[i]) = true := decide_eq_true hx
      simp only [gb, ec_len, tk_ec, tk_ec1, dr_ec1, agg_ec, ev_cells, set_ec, ec_one, h0', h1', rd, Int.toNat_natCast, eq_ev, hd, wkF, ↓reduceIte, reduceCtorEq, Nat.reduceAdd, Nat.reduceLeDiff, Nat.reduceMul, Nat.reduceLT, Nat.reduceEqDiff, wkG, wkH]
      refine Is_in ?_
      simp only [wkF, ↓reduceIte, reduceCtorEq, Nat.reduceAdd, wkG, wkH]
      refine leaf1 ⟨⟨(i : Int), rfl, ?_⟩, O1.drop⟩
      exact ⟨fun _ => by rw [hx]; exact List.getElem_mem h0, fun _ => h1'⟩
    · have hd : decide (x = L[i]) = false := decide_eq_false hx
      simp only [gb, ec_len, tk_ec, tk_ec1, dr_ec1, agg_ec, ev_cells, set_ec, ec_one, h0', h1', rd, Int.toNat_natCast, eq_ev, hd, y1, wkF, ↓reduceIte, reduceCtorEq, Nat.reduceAdd, Nat.reduceLeDiff, Nat.reduceMul, Nat.reduceLT, Nat.reduceEqDiff, wkG, wkH]
      refine Is_in ⟨L.length - (i + 1), by omega, i + 1, rfl, h0, rfl, rfl, rfl, rfl, rfl, rfl, rfl, fun j y hj hy => ?_⟩
      by_cases e : j = i
      · subst e
        rw [List.getElem?_eq_getElem h0] at hy
        cases hy
        exact hx
      · exact hno j y (by omega) hy
  · have h0' : ¬ (i : Int) < (L.length : Int) := by omega
    simp only [g0, g3, g7, g8, h0', wkF, ↓reduceIte, reduceCtorEq, Nat.reduceAdd, wkG, wkH]
    refine Is_in ?_
    simp only [wkF, ↓reduceIte, reduceCtorEq, Nat.reduceAdd, wkG, wkH]
    refine leaf1 ⟨⟨-1, rfl, ⟨fun x => by omega, fun hm => ?_⟩⟩, O1.drop⟩
    obtain ⟨j, hj, e⟩ := List.getElem_of_mem hm
    exact absurd e.symm (hno j _ (by omega) (List.getElem?_eq_getElem hj))
theorem contains_h {v : Value} {L : List En} (x : En) (hn : L.length + 10 < n) (hl : L.length < 1000000) (V : Vw 2 ec h v L) (O : Has ro h R) :
    (callV env (n + 2) (.func (.func 37) #[] #[]) [v, ev x] h).Is fun p => p.1 = .bool (decide (x ∈ L)) ∧ Has ro p.2 R := by
  refine call_is env37 ?_
  simp only [ir37, Nat.reduceAdd, Nat.reduceSub, wkF, X_seq, Y_store, Y_makeMap, Y_buildSlice, ↓reduceIte, reduceCtorEq, wkO, wkS, wkN, wkG]
  refine Y_boxO O ?_
  intro b3 h1 O1 e1
  replace O1 : Has ro h1 (Ob b3 (.cells (ec x) 1 false) :: R) := O1
  have g1 := O1.get 0 rfl
  simp only [g1, ec_len, tk_ec, tk_ec1, dr_ec1, agg_ec, ev_cells, set_ec, ec_one, wkF, ↓reduceIte, reduceCtorEq, Nat.reduceAdd, Nat.reduceLeDiff, Nat.reduceMul, Nat.reduceLT, Nat.reduceEqDiff, wkG, wkH]
  refine Z_is (index_h (n := n) x hn hl (V.ext e1) O1) ?_
  rintro v2 h2 ⟨⟨k, rfl, hk⟩, O2⟩
  simp only at O2
  simp only [wkF, ↓reduceIte, reduceCtorEq, Nat.reduceAdd, wkG, wkH]
  refine leaf1 ⟨?_, O2.drop⟩
  show Value.bool (decide (0 ≤ k)) = _
  congr 1
  rw [decide_eq_decide]
  exact hk
end
theorem env14 : env 14 = some ir14 := rfl
theorem cutis_len {l l' : List It} {r : Int} {a : Bool} (h : CutIs l r a l') : l'.length ≤ l.length := by
  rcases h with ⟨_, _, rfl⟩ | ⟨_, i, _, hi, rfl⟩
  · exact Nat.le_refl _
  · rw [List.length_eraseIdx, if_pos hi]; omega
def Ls.Same (S S' : Ls) : Prop := S'.home = S.home ∧ S'.rob = S.rob ∧ S'.cells = S.cells
theorem Wf.setW {S : Ls} (w : Wf S) {W : Int → List It} (h1 : ∀ c, (W c).length ≤ (S.W c).length) : Wf { S with W := W } := by
  refine ⟨⟨w.z.r1, w.z.r2, w.z.h1, w.z.h2, w.z.c1, w.z.c2⟩, w.g, fun c hc => ?_, fun c => Nat.le_trans (h1 c) (w.w8 c)⟩
  have := w.q c hc
  have h := h1 c
  rw [this] at h
  exact List.eq_nil_of_length_eq_zero (by simpa using h)
theorem Wf.set {S : Ls} (w : Wf S) (c : Int) (e : En) (h : 0 ≤ e.g ∧ e.g ≤ 4294967295) : Wf (S.set c e) := by
  refine ⟨⟨w.z.r1, w.z.r2, w.z.h1, w.z.h2, w.z.c1, w.z.c2⟩, fun x => ?_, w.q, w.w8⟩
  rw [E_set]
  split
  · exact h
  · exact w.g x
theorem gn_wf {S : Ls} (w : Wf S) {r : Int} {W : Int → List It} (g : Gn S r S.N W) : Wf { S with W := W } := by
  refine w.setW fun c => ?_
  by_cases h : ∃ i, i < S.N ∧ c = S.at i
  · obtain ⟨i, hi, rfl⟩ := h
    obtain ⟨a, hc⟩ := g.on i hi
    exact cutis_len hc
  · rw [g.off c fun i hi e => h ⟨i, hi, e⟩]
    exact Nat.le_refl _
theorem free_wf {S S' : Ls} {o o' : Ou} {c : Int} (w : Wf S) (h : FreeTo S o c S' o') : Wf S' ∧ S.Same S' := by
  have w1 := w.set c ⟨-1, (S.E c).g⟩ (w.g c)
  obtain ⟨d, ⟨_, rfl, _⟩ | ⟨_, _, rfl, _⟩ | ⟨hg, x, rest, d2, hW, rfl, _⟩⟩ := h
  · refine ⟨w1.setW fun y => ?_, rfl, rfl, rfl⟩
    unfold updW
    split
    · exact Nat.zero_le _
    · exact Nat.le_refl _
  · exact ⟨w1, rfl, rfl, rfl⟩
  · have w2 : Wf ((S.set c ⟨-1, (S.E c).g⟩).setW c rest) := w1.setW fun y => by
      unfold updW
      split
      · rename_i e
        rw [e]
        show _ ≤ (S.W c).length
        rw [hW]
        simp
      · exact Nat.le_refl _
    have := w.g c
    exact ⟨w2.set c ⟨x.r, (S.E c).g + 1⟩ (by show 0 ≤ (S.E c).g + 1 ∧ (S.E c).g + 1 ≤ 4294967295; omega), rfl, rfl, rfl⟩
theorem free_len {S S' : Ls} {o o' : Ou} {c : Int} (w : Wf S) (h : FreeTo S o c S' o') : o'.ws.length ≤ o.ws.length + 2 ∧ o'.ps.length ≤ o.ps.length + 8 ∧ o'.bs.length ≤ o.bs.length + 8 := by
  have h8 := w.w8 c
  obtain ⟨d, ⟨_, _, rfl⟩ | ⟨_, _, _, rfl⟩ | ⟨hg, x, rest, d2, hW, _, rfl⟩⟩ := h
  · obtain ⟨e1, e2, e3⟩ := denies_len (S.W c) (o.wr c ⟨-1, (S.E c).g⟩ d) (c := c)
    rw [e1, e2, e3]
    simp only [Ou.wr, List.length_append, List.length_cons, List.length_nil]
    omega
  · simp only [Ou.wr, List.length_append, List.length_cons, List.length_nil]
    omega
  · simp only [Ou.wr, Ou.post, List.length_append, List.length_cons, List.length_nil]
    omega
def StTo (S0 : Ls) (r : Int) (L : List En) : Nat → Ls → Ou → Prop
  | 0, S', o' => S' = S0 ∧ o' = oz
  | k + 1, S', o' => ∃ S1 o1, StTo S0 r L k S1 o1 ∧ ((((S1.E (S0.at k)).o = r ∧ (⟨S0.at k, (S1.E (S0.at k)).g⟩ : En) ∉ L) ∧ FreeTo S1 o1 (S0.at k) S' o') ∨ (¬ ((S1.E (S0.at k)).o = r ∧ (⟨S0.at k, (S1.E (S0.at k)).g⟩ : En) ∉ L) ∧ S' = S1 ∧ o' = o1))
theorem stto_wf {S0 : Ls} {r : Int} {L : List En} (w : Wf S0) : ∀ {k : Nat} {S' : Ls} {o' : Ou}, StTo S0 r L k S' o' → Wf S' ∧ S0.Same S' ∧ o'.ws.length ≤ 2 * k ∧ o'.ps.length ≤ 8 * k ∧ o'.bs.length ≤ 8 * k
  | 0, S', o', ⟨h1, h2⟩ => by
    subst h1 h2
    exact ⟨w, ⟨rfl, rfl, rfl⟩, Nat.le_refl _, Nat.le_refl _, Nat.le_refl _⟩
  | k + 1, S', o', ⟨S1, o1, h, hs⟩ => by
    obtain ⟨w1, ⟨s1, s2, s3⟩, l1, l2, l3⟩ := stto_wf w h
    rcases hs with ⟨_, hf⟩ | ⟨_, rfl, rfl⟩
    · obtain ⟨w2, t1, t2, t3⟩ := free_wf w1 hf
      obtain ⟨m1, m2, m3⟩ := free_len w1 hf
      exact ⟨w2, ⟨t1.trans s1, t2.trans s2, t3.trans s3⟩, by omega, by omega, by omega⟩
    · exact ⟨w1, ⟨s1, s2, s3⟩, by omega, by omega, by omega⟩
def StatIs (S : Ls) (r : Int) (L : List En) (e : Int) (S' : Ls) (o' : Ou) : Prop :=
  (¬ S.Rob r ∧ e = 2 ∧ S' = S ∧ o' = oz) ∨ (S.Rob r ∧ e = 0 ∧ ∃ W0 Sk, Gn S r S.N W0 ∧ StTo { S with W := W0 } r L S.N Sk o' ∧ S' = { Sk with told := upd1 Sk.told r 1 })
theorem lc_same {S S' : Ls} (s : S.Same S') (eb qb tb : Nat) : lc S' eb qb tb = lc S eb qb tb := by
  unfold lc
  rw [s.1, s.2.1, s.2.2]
section
variable {ro : Nat → Option (List Value × Nat)} {h : Heap} {R : List Rs} {lb ob : Nat} {S : Ls} {o : Ou} {n : Nat}
theorem status_h (r : Int) {v : Value} {L : List En} (w : Wf S) (hn : 1200 < n) (hL : L.length < 1000) (hs : ∃ p l c, v = .slice p l c) (V : ∀ (M : List Rs) (h : Heap), Has ro h (M ++ R) → Vw 2 ec h v L) (O : Has ro h (Lg lb S :: R)) :
    (callV env (n + 20) (.func (.func 14) #[] #[]) [.pointer (some ⟨lb, 0, none⟩), .int .i64 r, v] h).Is fun p => ∃ wv pv bv e S' o', p.1 = .tuple #[.agg #[wv, pv, bv], .int .i64 e] ∧ StatIs S r L e S' o' ∧ Has ro p.2 (Lg lb S' :: Oo wv pv bv o' :: R) := by
  obtain ⟨pp, ll, cc, rfl⟩ := hs
  refine call_is env14 ?_
  simp only [ir14, Nat.reduceAdd, Nat.reduceSub, wkF, X_seq, Y_store, Y_makeMap, Y_buildSlice, ↓reduceIte, reduceCtorEq, wkO, wkS, wkN, wkG]
  refine Y_boxO O ?_
  intro b3 h1 O1 e1
  simp only [wkF, X_seq, Y_store, Y_makeMap, Y_buildSlice, ↓reduceIte, reduceCtorEq, wkO, wkS, Nat.reduceAdd, wkG]
  refine Y_boxO O1 ?_
  intro b4 h2 O2 e2
  simp only [wkF, X_seq, Y_store, Y_makeMap, Y_buildSlice, ↓reduceIte, reduceCtorEq, wkO, wkS, Nat.reduceAdd, wkG]
  refine Y_boxO O2 ?_
  intro b5 h3 O3 e3
  simp only [wkF, X_seq, Y_store, Y_makeMap, Y_buildSlice, ↓reduceIte, reduceCtorEq, wkO, wkS, Nat.reduceAdd, wkG]
  refine Y_boxO O3 ?_
  intro b6 h4 O4 e4
  simp only [wkF, X_seq, Y_store, Y_makeMap, Y_buildSlice, ↓reduceIte, reduceCtorEq, wkO, wkS, Nat.reduceAdd, wkG]
  refine Y_boxO O4 ?_
  intro b8 h5 O5 e5
  replace O5 : Has ro h5 (Ob b8 (.cells [.slice none 0 0, .slice none 0 0, .slice none 0 0] 1 false) :: Ob b6 (.cells [.slice none 0 0, .slice none 0 0, .slice none 0 0] 1 false) :: Ob b5 (.cells [.slice pp ll cc] 1 false) :: Ob b4 (.cells [.int .i64 r] 1 false) :: Ob b3 (.cells [.pointer (some ⟨lb, 0, none⟩)] 1 false) :: Lg lb S :: R) := O5
  clear O O1 O2 O3 O4 e1 e2 e3 e4 e5
  replace O5 := (Has.ogNew O5).at 5 rfl
  replace O5 : Has ro h5 (Lg lb S :: Og b8 oz :: Ob b6 (.cells [.slice none 0 0, .slice none 0 0, .slice none 0 0] 1 false) :: Ob b5 (.cells [.slice pp ll cc] 1 false) :: Ob b4 (.cells [.int .i64 r] 1 false) :: Ob b3 (.cells [.pointer (some ⟨lb, 0, none⟩)] 1 false) :: R) := O5
  have hr0 : ¬ S.rob = 0 := by have := w.z.r1; omega
  have g3 := O5.get 5 rfl
  have g4 := O5.get 4 rfl
  simp only [g3, wkF, ↓reduceIte, reduceCtorEq, Nat.reduceAdd, Nat.reduceLeDiff, Nat.reduceMul, Nat.reduceLT, Nat.reduceEqDiff, wkG, wkH]
  refine Z_is (none_h (n := n + 18) O5) ?_
  rintro v h6 ⟨rfl, rfl⟩
  simp only [hr0, g3, g4, wkF, ↓reduceIte, reduceCtorEq, Nat.reduceAdd, Nat.reduceLeDiff, Nat.reduceMul, Nat.reduceLT, Nat.reduceEqDiff, wkG, wkH]
  refine Z_is (robot_h (n := n + 17) r O5) ?_
  rintro v h6 ⟨rfl, rfl⟩
  by_cases hr : S.Rob r
  · simp only [hr, g3, g4, wkF, ↓reduceIte, reduceCtorEq, Nat.reduceAdd, Nat.reduceLeDiff, Nat.reduceMul, Nat.reduceLT, Nat.reduceEqDiff, wkG, wkH]
    refine Z_is (gone_h (n := n + 15) w.z r (by omega) w.q w.w8 O5) ?_
    rintro v h6 ⟨W0, hW0, O6⟩
    simp only at O6
    have g3 := O6.get 5 rfl
    simp only [g3, wkF, ↓reduceIte, reduceCtorEq, Nat.reduceAdd, Nat.reduceLeDiff, Nat.reduceMul, Nat.reduceLT, Nat.reduceEqDiff, wkG, wkH]
    refine Z_is (mine_h (n := n + 18) O6) ?_
    rintro v h7 ⟨E, rfl, O7⟩
    simp only at O7
    simp only [wkF, ↓reduceIte, reduceCtorEq, Nat.reduceAdd, wkG, wkH]
    refine X_rangeO O7 (g := 55) (first := #[]) rfl ?_
    intro m l h8 O8
    clear O5 O6 O7 g3 g4
    generalize hS0 : ({ S with W := W0 } : Ls) = S0 at O8
    have w0 : Wf S0 := by rw [← hS0]; exact gn_wf w hW0
    have sS : S.Same S0 := by rw [← hS0]; exact ⟨rfl, rfl, rfl⟩
    have hat : ∀ i, S0.at i = S.at i := by rw [← hS0]; exact fun _ => rfl
    have hNN : S0.N = S.N := by rw [← hS0]; rfl
    have hN := N_le w.z
    generalize hlp : ({ state := LoopState.ready, pending := IExit.normal, tmps := _, params := _, assign := _, body := _, defers := m } : ILoop) = lp at O8
    have l1 : lp.state = .ready := by rw [← hlp]
    have l2 : lp.pending = .normal := by rw [← hlp]
    have l3 := congrArg ILoop.tmps hlp.symm
    have l4 := congrArg ILoop.params hlp.symm
    have l5 := congrArg ILoop.assign hlp.symm
    have l6 := congrArg ILoop.body hlp.symm
    simp only at l3 l4 l5 l6
    clear hlp
    refine T.Is.mono ?_ (mine_iter (ro := ro) (lb := lb) (n := n + 18) (l := l) (E := E) (S := S) w.z (by omega) (fun i => Ob l (.loop lp) :: Ob m (.deferred true) :: Ob E (.cells [.pointer (some ⟨lb, 0, none⟩)] 1 false) :: Ob b6 (.cells [.slice none 0 0, .slice none 0 0, .slice none 0 0] 1 false) :: Ob b5 (.cells [.slice pp ll cc] 1 false) :: Ob b4 (.cells [.int .i64 r] 1 false) :: Ob b3 (.cells [.pointer (some ⟨lb, 0, none⟩)] 1 false) :: (Rs.ex fun x : Ls × Ou => Rs.and (StTo S0 r L i x.1 x.2) (Rs.star (Lg lb x.1) (Og b8 x.2))) :: R) ?_ ?_ ?_)
    · rintro p O5
      refine ⟨lp, _, (by rw [l1]; intro e; cases e), O5, fun h6 O6 => ?_⟩
      rw [l2]
      clear O5 O8
      obtain ⟨⟨Sk, ok⟩, O7⟩ := Has.ex.1 (O6.at 6 rfl)
      obtain ⟨g, O8⟩ := Has.and.1 O7
      replace O8 : Has ro h6 (Lg lb Sk :: Og b8 ok :: Ob m (.deferred true) :: Ob E (.cells [.pointer (some ⟨lb, 0, none⟩)] 1 false) :: Ob b6 (.cells [.slice none 0 0, .slice none 0 0, .slice none 0 0] 1 false) :: Ob b5 (.cells [.slice pp ll cc] 1 false) :: Ob b4 (.cells [.int .i64 r] 1 false) :: Ob b3 (.cells [.pointer (some ⟨lb, 0, none⟩)] 1 false) :: R) := Has.star.1 O8
      simp only at g
      obtain ⟨eb, qb, tb, O9⟩ := Has.lgOpen O8
      have g1 := O9.get 0 rfl
      unfold lc at g1
      have g3 := O9.get 11 rfl
      have g4 := O9.get 10 rfl
      obtain ⟨h10, u10, O10⟩ := O9.mpUpd 3 rfl r 1
      simp only [List.set_cons_zero, List.set_cons_succ] at O10
      have u10' : vMapUpdate h6 none (.map (some tb)) (.int .i64 r) (.int .i64 1) = some h10 := u10
      replace O10 : Has ro h10 (Lg lb { Sk with told := upd1 Sk.told r 1 } :: Og b8 ok :: Ob m (.deferred true) :: Ob E (.cells [.pointer (some ⟨lb, 0, none⟩)] 1 false) :: Ob b6 (.cells [.slice none 0 0, .slice none 0 0, .slice none 0 0] 1 false) :: Ob b5 (.cells [.slice pp ll cc] 1 false) :: Ob b4 (.cells [.int .i64 r] 1 false) :: Ob b3 (.cells [.pointer (some ⟨lb, 0, none⟩)] 1 false) :: R) := Has.lgClose (S := { Sk with told := upd1 Sk.told r 1 }) O10
      simp only [wkF, ↓reduceIte, reduceCtorEq, Nat.reduceAdd, wkG, wkH]
      refine X_drawn _ fun an => ?_
      obtain ⟨wv, pv, bv, ga, gb, pb, one, O11⟩ := fin3 ((O10.at 4 rfl).at 2 rfl)
      simp only [g1, g3, g4, D_mapUpdateB, u10', DHB_some, ga, gb, pb, one, c3, s3, wkF, X_seq, Y_box, Y_store, Y_makeMap, Y_buildSlice, ↓reduceIte, reduceCtorEq, wkS, Nat.reduceAdd, Nat.reduceLeDiff, Nat.reduceMul, Nat.reduceLT, Nat.reduceEqDiff, wkG]
      refine leafMO O11 3 rfl fun h12 O12 => ?_
      simp only [List.set_cons_zero, List.set_cons_succ] at O12
      exact ⟨_, answer2 _ _ _ _ (cellN O12 0 rfl rfl rfl) rfl, wv, pv, bv, _, _, _, rfl, Or.inr ⟨hr, rfl, W0, Sk, hW0, by rw [hS0, ← hNN, hNN]; exact g, rfl⟩, (((((((O12.rid 7 rfl).rid 6 rfl).rid 5 rfl).rid 4 rfl).rid 3 rfl).drop).at 1 rfl)⟩
    · have := (Has.ex (F := fun x : Ls × Ou => Rs.and (StTo S0 r L 0 x.1 x.2) (Rs.star (Lg lb x.1) (Og b8 x.2)))).2 ⟨(S0, oz), Has.and.2 ⟨⟨rfl, rfl⟩, Has.star.2 ((O8.at 4 rfl).at 4 rfl)⟩⟩
      exact (((((((this.at 7 rfl).at 7 rfl).at 7 rfl).at 7 rfl).at 7 rfl).at 7 rfl).at 7 rfl)
    · rintro i h6 hi O6
      obtain ⟨x, O7⟩ := Has.ex.1 (O6.at 7 rfl)
      obtain ⟨g, O8⟩ := Has.and.1 O7
      obtain ⟨_, sx, _⟩ := stto_wf w0 g
      obtain ⟨eb, qb, tb, O9⟩ := Has.lgOpen (Has.star.1 O8)
      refine ⟨O6.get 2 rfl, eb, qb, tb, ?_⟩
      rw [← lc_same ⟨sx.1.trans sS.1, sx.2.1.trans sS.2.1, sx.2.2.trans sS.2.2⟩]
      exact O9.get 0 rfl
    · rintro i h6 hi O6
      rw [callV_yield]
      refine round_isB O6 l1 l2 l3 l4 l5 l6 rfl ?_
      simp only [List.nil_append, wkF, ↓reduceIte, reduceCtorEq, Nat.reduceAdd, wkG, wkH]
      refine Is_in ⟨rfl, _, O6, fun h7 lpB O7 => ?_⟩
      obtain ⟨⟨S1, o1⟩, O8⟩ := Has.ex.1 (O7.at 7 rfl)
      obtain ⟨g, O9⟩ := Has.and.1 O8
      replace O9 : Has ro h7 (Lg lb S1 :: Og b8 o1 :: Ob l (.loop lpB) :: Ob m (.deferred true) :: Ob E (.cells [.pointer (some ⟨lb, 0, none⟩)] 1 false) :: Ob b6 (.cells [.slice none 0 0, .slice none 0 0, .slice none 0 0] 1 false) :: Ob b5 (.cells [.slice pp ll cc] 1 false) :: Ob b4 (.cells [.int .i64 r] 1 false) :: Ob b3 (.cells [.pointer (some ⟨lb, 0, none⟩)] 1 false) :: R) := Has.star.1 O9
      simp only at g
      obtain ⟨w1, s1, n1, n2, n3⟩ := stto_wf w0 g
      have q3 := O9.get 8 rfl
      simp only [q3, wkF, X_seq, Y_store, Y_makeMap, Y_buildSlice, ↓reduceIte, reduceCtorEq, wkO, wkS, Nat.reduceAdd, Nat.reduceLeDiff, Nat.reduceMul, Nat.reduceLT, Nat.reduceEqDiff, wkG]
      refine Z_is (entry_h (n := n + 15) (S.at i) O9) ?_
      rintro v h10 ⟨rfl, O10⟩
      simp only at O10
      simp only [wkF, X_seq, Y_store, Y_makeMap, Y_buildSlice, ↓reduceIte, reduceCtorEq, wkO, wkS, Nat.reduceAdd, Nat.reduceLeDiff, Nat.reduceMul, Nat.reduceLT, Nat.reduceEqDiff, wkG]
      refine Y_boxO O10 ?_
      intro b10 h11 O11 e11
      replace O11 : Has ro h11 (Ob b10 (.cells [.int .i64 0, .int .u32 0] 1 false) :: Lg lb S1 :: Og b8 o1 :: Ob l (.loop lpB) :: Ob m (.deferred true) :: Ob E (.cells [.pointer (some ⟨lb, 0, none⟩)] 1 false) :: Ob b6 (.cells [.slice none 0 0, .slice none 0 0, .slice none 0 0] 1 false) :: Ob b5 (.cells [.slice pp ll cc] 1 false) :: Ob b4 (.cells [.int .i64 r] 1 false) :: Ob b3 (.cells [.pointer (some ⟨lb, 0, none⟩)] 1 false) :: R) := O11
      have g11 := O11.get 0 rfl
      have p11 := O11.can 0 rfl
      have O12 := O11.set 0 rfl (.cells (ec (S1.E (S.at i))) 1 false)
      simp only [List.set_cons_zero] at O12
      have g12 := O12.get 0 rfl
      have g13 := O12.get 8 rfl
      have g14 := O12.get 7 rfl
      by_cases ho : (S1.E (S.at i)).o = r
      · simp only [ec_len, tk_ec, tk_ec1, dr_ec1, agg_ec, ev_cells, set_ec, ec_one, g11, p11, g12, g13, g14, ho, wkF, ↓reduceIte, reduceCtorEq, Nat.reduceAdd, Nat.reduceLeDiff, Nat.reduceMul, Nat.reduceLT, Nat.reduceEqDiff, wkG, wkH]
        refine Z_is (contains_h (n := n + 15) (⟨S.at i, (S1.E (S.at i)).g⟩ : En) (by omega) (by omega) (V [_, _, _, _, _, _, _, _, _, _] _ O12) O12) ?_
        rintro v h13 ⟨rfl, O13⟩
        simp only at O13
        have g15 := O13.get 9 rfl
        by_cases hm : (⟨S.at i, (S1.E (S.at i)).g⟩ : En) ∈ L
        · have hmd : decide ((⟨S.at i, (S1.E (S.at i)).g⟩ : En) ∈ L) = true := decide_eq_true hm
          simp only [hmd, wkF, ↓reduceIte, reduceCtorEq, Nat.reduceAdd, Nat.reduceLeDiff, Nat.reduceMul, Nat.reduceLT, Nat.reduceEqDiff, wkG, wkH]
          have O20 := (Has.ex (F := fun x : Ls × Ou => Rs.and (StTo S0 r L (i + 1) x.1 x.2) (Rs.star (Lg lb x.1) (Og b8 x.2)))).2 ⟨(S1, o1), Has.and.2 ⟨⟨S1, o1, g, Or.inr ⟨by rw [hat]; exact fun x => x.2 hm, rfl, rfl⟩⟩, Has.star.2 O13.drop⟩⟩
          refine Is_in ⟨_, (O20.at 1 rfl), fun h21 lpC c1 c2 c3 O21 => ⟨rfl, ?_⟩⟩
          have c1' := c1 rfl
          subst c1'
          exact ((((((((O21.at 1 rfl).at 7 rfl).at 7 rfl).at 7 rfl).at 7 rfl).at 7 rfl).at 7 rfl).at 7 rfl)
        · have hmd : decide ((⟨S.at i, (S1.E (S.at i)).g⟩ : En) ∈ L) = false := decide_eq_false hm
          simp only [hmd, g15, wkF, ↓reduceIte, reduceCtorEq, Nat.reduceAdd, Nat.reduceLeDiff, Nat.reduceMul, Nat.reduceLT, Nat.reduceEqDiff, wkG, wkH]
          refine Z_is (free_h (n := n + 11) (o := o1) (S.at i) (by omega) (w1.g _) (w1.q _) (w1.w8 _) ⟨by omega, by omega, by omega⟩ O13.drop) ?_
          rintro v h16 ⟨S', o', hf, O16⟩
          simp only at O16
          simp only [wkF, ↓reduceIte, reduceCtorEq, Nat.reduceAdd, wkG, wkH]
          have O20 := (Has.ex (F := fun x : Ls × Ou => Rs.and (StTo S0 r L (i + 1) x.1 x.2) (Rs.star (Lg lb x.1) (Og b8 x.2)))).2 ⟨(S', o'), Has.and.2 ⟨⟨S1, o1, g, Or.inl ⟨by rw [hat]; exact ⟨ho, hm⟩, by rw [hat]; exact hf⟩⟩, Has.star.2 O16⟩⟩
          refine Is_in ⟨_, (O20.at 1 rfl), fun h21 lpC c1 c2 c3 O21 => ⟨rfl, ?_⟩⟩
          have c1' := c1 rfl
          subst c1'
          exact ((((((((O21.at 1 rfl).at 7 rfl).at 7 rfl).at 7 rfl).at 7 rfl).at 7 rfl).at 7 rfl).at 7 rfl)
      · simp only [ec_len, tk_ec, tk_ec1, dr_ec1, agg_ec, ev_cells, set_ec, ec_one, g11, p11, g12, g13, g14, ho, wkF, ↓reduceIte, reduceCtorEq, Nat.reduceAdd, Nat.reduceLeDiff, Nat.reduceMul, Nat.reduceLT, Nat.reduceEqDiff, wkG, wkH]
        have O20 := (Has.ex (F := fun x : Ls × Ou => Rs.and (StTo S0 r L (i + 1) x.1 x.2) (Rs.star (Lg lb x.1) (Og b8 x.2)))).2 ⟨(S1, o1), Has.and.2 ⟨⟨S1, o1, g, Or.inr ⟨by rw [hat]; exact fun x => ho x.1, rfl, rfl⟩⟩, Has.star.2 O12.drop⟩⟩
        refine Is_in ⟨_, (O20.at 1 rfl), fun h21 lpC c1 c2 c3 O21 => ⟨rfl, ?_⟩⟩
        have c1' := c1 rfl
        subst c1'
        exact ((((((((O21.at 1 rfl).at 7 rfl).at 7 rfl).at 7 rfl).at 7 rfl).at 7 rfl).at 7 rfl).at 7 rfl)
  · simp only [hr, wkF, ↓reduceIte, reduceCtorEq, Nat.reduceAdd, Nat.reduceLeDiff, Nat.reduceMul, Nat.reduceLT, Nat.reduceEqDiff, wkG, wkH]
    obtain ⟨wv, pv, bv, ga, gb, pb, one, O9⟩ := fin3 (O5.at 2 rfl |>.at 2 rfl)
    simp only [ga, gb, pb, one, c3, s3, wkF, X_seq, Y_box, Y_store, Y_makeMap, Y_buildSlice, ↓reduceIte, reduceCtorEq, wkS, Nat.reduceAdd, Nat.reduceLeDiff, Nat.reduceMul, Nat.reduceLT, Nat.reduceEqDiff, wkG]
    exact leafO _ (answer2 _ _ _ _ (cellN O9 0 rfl rfl rfl) rfl) ⟨wv, pv, bv, _, _, _, rfl, Or.inl ⟨hr, rfl, rfl, rfl⟩, ((O9.drop.at 1 rfl).rid 4 rfl |>.rid 3 rfl |>.rid 2 rfl)⟩
end
theorem env11 : env 11 = some ir11 := rfl
def Szs (home rob cells : Int) : Prop := 1 ≤ rob ∧ rob ≤ 64 ∧ 0 ≤ home ∧ home < rob ∧ 1 ≤ cells ∧ cells ≤ 1024
instance (a b c : Int) : Decidable (Szs a b c) := by unfold Szs; infer_instance
def lz (home rob cells : Int) : Ls := ⟨home, rob, cells, [], [], [(home, 1)], fun _ => []⟩
theorem lz_wf {a b c : Int} (h : Szs a b c) : Wf (lz a b c) := by
  obtain ⟨h1, h2, h3, h4, h5, h6⟩ := h
  refine ⟨⟨h1, h2, h3, h4, h5, h6⟩, fun x => ?_, fun x _ => rfl, fun x => Nat.zero_le _⟩
  show 0 ≤ e0.g ∧ e0.g ≤ 4294967295
  decide
section
variable {ro : Nat → Option (List Value × Nat)} {h : Heap} {R : List Rs} {lb ob : Nat} {S : Ls} {o : Ou} {n : Nat}
theorem new_h (a b c : Int) (O : Has ro h R) : (callV env (n + 1) (.func (.func 11) #[] #[]) [.int .i64 a, .int .i64 b, .int .i64 c] h).Is fun p =>
    (¬ Szs a b c ∧ p.1 = .tuple #[.pointer none, .int .i64 2] ∧ Has ro p.2 R) ∨ (Szs a b c ∧ ∃ lb, p.1 = .tuple #[.pointer (some ⟨lb, 0, none⟩), .int .i64 0] ∧ Has ro p.2 (Lg lb (lz a b c) :: R)) := by
  refine call_is env11 ?_
  by_cases h1 : b < 1
  · simp only [ir11, Nat.reduceAdd, Nat.reduceSub, h1, wkF, ↓reduceIte, reduceCtorEq, wkN, wkG, wkH]
    exact leaf2 (Or.inl ⟨fun x => by have := x.1; omega, rfl, O⟩)
  by_cases h2 : 64 < b
  · simp only [ir11, Nat.reduceAdd, Nat.reduceSub, h1, h2, wkF, ↓reduceIte, reduceCtorEq, wkN, wkG, wkH]
    exact leaf2 (Or.inl ⟨fun x => by have := x.2.1; omega, rfl, O⟩)
  by_cases h3 : a < 0
  · simp only [ir11, Nat.reduceAdd, Nat.reduceSub, h1, h2, h3, wkF, ↓reduceIte, reduceCtorEq, wkN, wkG, wkH]
    exact leaf2 (Or.inl ⟨fun x => by have := x.2.2.1; omega, rfl, O⟩)
  by_cases h4 : b ≤ a
  · simp only [ir11, Nat.reduceAdd, Nat.reduceSub, h1, h2, h3, h4, wkF, ↓reduceIte, reduceCtorEq, wkN, wkG, wkH]
    exact leaf2 (Or.inl ⟨fun x => by have := x.2.2.2.1; omega, rfl, O⟩)
  by_cases h5 : c < 1
  · simp only [ir11, Nat.reduceAdd, Nat.reduceSub, h1, h2, h3, h4, h5, wkF, ↓reduceIte, reduceCtorEq, wkN, wkG, wkH]
    exact leaf2 (Or.inl ⟨fun x => by have := x.2.2.2.2.1; omega, rfl, O⟩)
  by_cases h6 : 1024 < c
  · simp only [ir11, Nat.reduceAdd, Nat.reduceSub, h1, h2, h3, h4, h5, h6, wkF, ↓reduceIte, reduceCtorEq, wkN, wkG, wkH]
    exact leaf2 (Or.inl ⟨fun x => by have := x.2.2.2.2.2; omega, rfl, O⟩)
  have hs : Szs a b c := ⟨by omega, by omega, by omega, by omega, by omega, by omega⟩
  simp only [ir11, Nat.reduceAdd, Nat.reduceSub, h1, h2, h3, h4, h5, h6, wkF, X_seq, Y_box, Y_store, Y_buildSlice, ↓reduceIte, reduceCtorEq, wkO, wkS, wkN, wkG]
  refine Y_makeMapO O ?_
  intro eb k1 O1 _
  simp only [wkF, X_seq, Y_box, Y_store, Y_buildSlice, ↓reduceIte, reduceCtorEq, wkO, wkS, Nat.reduceAdd, wkG]
  refine Y_makeMapO O1 ?_
  intro qb k2 O2 _
  simp only [wkF, X_seq, Y_box, Y_store, Y_buildSlice, ↓reduceIte, reduceCtorEq, wkO, wkS, Nat.reduceAdd, wkG]
  refine Y_makeMapO O2 ?_
  intro tb k3 O3 _
  have M1 := Has.mpNew (K := K64) (vv := tv) O3
  have M2 := Has.mpNew (K := K64) (vv := pq) M1.swap2
  have M3 := Has.mpNew (K := K64) (vv := ev) (M2.at 2 rfl)
  obtain ⟨k4, u4, M4⟩ := M3.mpUpd 2 rfl a 1
  have u4' : vMapUpdate k3 none (.map (some tb)) (.int .i64 a) (.int .i64 1) = some k4 := u4
  simp only [List.set_cons_zero, List.set_cons_succ] at M4
  have mapI : ∀ x : Option Nat, cellsOf (.map x) = [.map x] := fun _ => rfl
  simp only [u4', mapI, wkF, X_seq, Y_store, Y_makeMap, Y_buildSlice, ↓reduceIte, reduceCtorEq, wkO, wkS, Nat.reduceAdd, Nat.reduceLeDiff, Nat.reduceMul, Nat.reduceLT, Nat.reduceEqDiff, wkG]
  refine Y_boxO M4 ?_
  intro lb k5 M5 _
  simp only [wkF, ↓reduceIte, reduceCtorEq, Nat.reduceAdd, wkG, wkH]
  refine leaf2 (Or.inr ⟨hs, lb, rfl, ?_⟩)
  have M6 : Has ro k5 (Ob lb (.cells (lc (lz a b c) eb qb tb) 1 false) :: Mp K64 ev eb [] :: Mp K64 pq qb [] :: Mp K64 tv tb [(a, 1)] :: R) := M5
  have M7 : Has ro k5 (Qall [] (fun _ => []) :: Ob lb (.cells (lc (lz a b c) eb qb tb) 1 false) :: Mp K64 ev eb [] :: Mp K64 pq qb [] :: Mp K64 tv tb [(a, 1)] :: R) := Has.all.2 M6
  exact Has.lgClose (S := lz a b c) ((((M7.at 4 rfl).at 4 rfl).at 4 rfl).at 4 rfl)
def RenIs (S : Ls) (r : Int) (S' : Ls) : Prop :=
  (¬ S.Rob r ∧ S' = S) ∨ (S.Rob r ∧ ∃ W, Gn S r S.N W ∧ S' = { S with W := W, told := if r = S.home then S.told else upd1 S.told r 0 })
theorem renewed_h (r : Int) (w : Wf S) (hn : 1200 < n) (O : Has ro h (Lg lb S :: R)) :
    (callV env (n + 10) (.func (.func 13) #[] #[]) [.pointer (some ⟨lb, 0, none⟩), .int .i64 r] h).Is fun p => ∃ S', RenIs S r S' ∧ Has ro p.2 (Lg lb S' :: R) := by
  refine call_is env13 ?_
  simp only [ir13, Nat.reduceAdd, Nat.reduceSub, wkF, ↓reduceIte, reduceCtorEq, wkN, wkG, wkH]
  refine Z_is (robot_h (n := n + 7) r O) ?_
  rintro v h1 ⟨rfl, rfl⟩
  by_cases hr : S.Rob r
  · simp only [hr, wkF, ↓reduceIte, reduceCtorEq, Nat.reduceAdd, wkG, wkH]
    refine Z_is (gone_h (n := n + 5) w.z r (by omega) w.q w.w8 O) ?_
    rintro v h2 ⟨W, g, O2⟩
    simp only at O2
    obtain ⟨eb, qb, tb, O3⟩ := Has.lgOpen O2
    have g1 := O3.get 0 rfl
    unfold lc at g1
    simp only at g1
    by_cases hh : r = S.home
    · have hh' : (r = S.home) = True := eq_true hh
      simp only [g1, hh', wkF, ↓reduceIte, reduceCtorEq, Nat.reduceAdd, Nat.reduceLeDiff, Nat.reduceMul, Nat.reduceLT, Nat.reduceEqDiff, wkG, wkH]
      refine leaf0n ⟨_, Or.inr ⟨hr, W, g, rfl⟩, ?_⟩
      rw [if_pos hh]
      exact O2
    · obtain ⟨h4, u4, O4⟩ := O3.mpUpd 3 rfl r 0
      have u4' : vMapUpdate h2 none (.map (some tb)) (.int .i64 r) (.int .i64 0) = some h4 := u4
      simp only [List.set_cons_zero, List.set_cons_succ] at O4
      simp only [g1, hh, u4', wkF, ↓reduceIte, reduceCtorEq, Nat.reduceAdd, Nat.reduceLeDiff, Nat.reduceMul, Nat.reduceLT, Nat.reduceEqDiff, wkG, wkH]
      refine leaf0n ⟨_, Or.inr ⟨hr, W, g, rfl⟩, ?_⟩
      rw [if_neg hh]
      exact Has.lgClose (S := { S with W := W, told := upd1 S.told r 0 }) O4
  · simp only [hr, wkF, ↓reduceIte, reduceCtorEq, Nat.reduceAdd, wkG, wkH]
    exact leaf0 ⟨S, Or.inl ⟨hr, rfl⟩, O⟩
def PlaIs (S : Ls) (c r e : Int) (S' : Ls) (rv : Value) (D : Rs) : Prop :=
  (¬ (S.Is c ∧ S.Rob r) ∧ e = 2 ∧ S' = S ∧ rv = .agg #[.int .i64 0, .int .i64 0, .slice none 0 0] ∧ D = Rs.emp) ∨
    ((S.Is c ∧ S.Rob r) ∧ S.E c ≠ e0 ∧ e = 140 ∧ S' = S ∧ rv = .agg #[.int .i64 0, .int .i64 0, .slice none 0 0] ∧ D = Rs.emp) ∨
    ((S.Is c ∧ S.Rob r) ∧ S.E c = e0 ∧ e = 0 ∧ S' = S.set c ⟨r, 1⟩ ∧ ∃ d, rv = .agg (wc ⟨c, ⟨r, 1⟩, d⟩).toArray ∧ D = Dt d ⟨r, 1⟩)
theorem place_h' (c r : Int) (w : Wf S) (O : Has ro h (Lg lb S :: R)) :
    (callV env (n + 10) (.func (.func 12) #[] #[]) [.pointer (some ⟨lb, 0, none⟩), .int .i64 c, .int .i64 r] h).Is fun p => ∃ rv e S' D, p.1 = .tuple #[rv, .int .i64 e] ∧ PlaIs S c r e S' rv D ∧ Has ro p.2 (Lg lb S' :: D :: R) := by
  refine call_is env12 ?_
  simp only [ir12, Nat.reduceAdd, Nat.reduceSub, wkF, X_seq, Y_store, Y_makeMap, Y_buildSlice, ↓reduceIte, reduceCtorEq, wkO, wkS, wkN, wkG]
  refine Y_boxO O ?_
  intro b6 h1 O1 e1
  replace O1 : Has ro h1 (Ob b6 (.cells [.int .i64 0, .int .i64 0, .slice none 0 0] 1 false) :: Lg lb S :: R) := O1
  replace O1 := O1.swap2
  have hr0 : ¬ S.rob = 0 := by have := w.z.r1; omega
  simp only [wkF, ↓reduceIte, reduceCtorEq, Nat.reduceAdd, wkG, wkH]
  refine Z_is (none_h (n := n + 8) O1) ?_
  rintro v h2 ⟨rfl, rfl⟩
  simp only [hr0, wkF, ↓reduceIte, reduceCtorEq, Nat.reduceAdd, wkG, wkH]
  refine Z_is (is_h (n := n + 7) c O1) ?_
  rintro v h2 ⟨rfl, rfl⟩
  have g6 := O1.get 1 rfl
  have p6 := O1.can 1 rfl
  have zc3 : cellsOf (.agg #[.int .i64 0, .int .i64 0, .slice none 0 0]) = [.int .i64 0, .int .i64 0, .slice none 0 0] := rfl
  have zs3 : setAt [Value.int .i64 0, .int .i64 0, .slice none 0 0] 0 [.int .i64 0, .int .i64 0, .slice none 0 0] = [.int .i64 0, .int .i64 0, .slice none 0 0] := rfl
  have zo : ∀ {h : Heap} (O1 : Has ro h (Lg lb S :: Ob b6 (.cells [.int .i64 0, .int .i64 0, .slice none 0 0] 1 false) :: R)), Has ro (h.setB b6 (.cells [.int .i64 0, .int .i64 0, .slice none 0 0] 1 false)) (Ob b6 (.cells [.int .i64 0, .int .i64 0, .slice none 0 0] 1 false) :: Lg lb S :: R) := fun O1 => (O1.set 1 rfl (.cells [.int .i64 0, .int .i64 0, .slice none 0 0] 1 false)).swap2
  by_cases hi : S.Is c
  · simp only [hi, wkF, ↓reduceIte, reduceCtorEq, Nat.reduceAdd, wkG, wkH]
    refine Z_is (robot_h (n := n + 7) r O1) ?_
    rintro v h2 ⟨rfl, rfl⟩
    by_cases hr : S.Rob r
    · simp only [hr, wkF, ↓reduceIte, reduceCtorEq, Nat.reduceAdd, wkG, wkH]
      refine Z_is (entry_h (n := n + 7) c O1) ?_
      rintro v h3 ⟨rfl, O3⟩
      simp only at O3
      simp only [wkF, ↓reduceIte, reduceCtorEq, Nat.reduceAdd, Nat.reduceLeDiff, Nat.reduceMul, Nat.reduceLT, Nat.reduceEqDiff, wkG, wkH]
      refine Z_is (first_e O3.fine) ?_
      rintro v h4 ⟨rfl, e4⟩
      simp only at e4
      have O4 := O3.ext e4
      have g4 := O4.get 1 rfl
      have p4 := O4.can 1 rfl
      by_cases he : S.E c = e0
      · have hd : decide (S.E c = e0) = true := decide_eq_true he
        simp only [eq_ev, hd, wkF, X_seq, Y_store, Y_makeMap, Y_buildSlice, ↓reduceIte, reduceCtorEq, wkO, wkS, Nat.reduceAdd, Nat.reduceLeDiff, Nat.reduceMul, Nat.reduceLT, Nat.reduceEqDiff, wkG]
        refine Y_boxO O4 ?_
        intro b8 h5 O5 e5
        replace O5 : Has ro h5 (Ob b8 (.cells [.slice none 0 0, .slice none 0 0, .slice none 0 0] 1 false) :: Lg lb S :: Ob b6 (.cells [.int .i64 0, .int .i64 0, .slice none 0 0] 1 false) :: R) := O5
        replace O5 := (Has.ogNew O5).swap2
        simp (disch := first | assumption | omega | (simp only [wkX, *]; done) | (simp only [wkY]; omega)) only [wkF, ↓reduceIte, reduceCtorEq, Nat.reduceAdd, Nat.reduceLeDiff, Nat.reduceMul, Nat.reduceLT, Nat.reduceEqDiff, wkG, wkH]
        refine Z_is (set_h (n := n + 6) (o := oz) c ⟨r, 1⟩ (by decide) O5) ?_
        rintro v h6 ⟨d, O6⟩
        simp only at O6
        obtain ⟨wv, pv, bv, O7⟩ := Has.ogOpen (O6.at 1 rfl)
        have g7 := O7.get 0 rfl
        have V7 := O7.vw 1 rfl
        obtain ⟨b, off, sp, c2, rfl, _, rd⟩ := V7.rd wc_len (i := 0) rfl
        have hlen : (oz.wr c ⟨r, 1⟩ d).ws.length = 1 := rfl
        rw [Nat.zero_mul, Nat.add_zero] at rd
        have wcc : ∀ x : Wr, cellsOf (.agg (wc x).toArray) = wc x := fun _ => rfl
        have wcs : ∀ x : Wr, setAt [Value.int .i64 0, .int .i64 0, .slice none 0 0] 0 (wc x) = wc x := fun _ => rfl
        have gb := O7.get 6 rfl
        have pb := O7.can 6 rfl
        have O8 := O7.set 6 rfl (.cells (wc ⟨c, ⟨r, 1⟩, d⟩) 1 false)
        simp only [List.set_cons_zero, List.set_cons_succ] at O8
        simp (disch := first | assumption | omega | (simp only [wkX, *]; done) | (simp only [wkY]; omega)) only [g7, hlen, rd, Int.toNat_zero, Nat.zero_mul, Nat.add_zero, Int.le_refl, wcc, wcs, wc_len, wc_one, gb, pb, wkF, ↓reduceIte, reduceCtorEq, Nat.reduceAdd, Nat.reduceLeDiff, Nat.reduceMul, Nat.reduceLT, Nat.reduceEqDiff, wkG, wkH]
        have O9 : Has ro _ (Dt d ⟨r, 1⟩ :: _) := Has.all.1 (O8.at 4 rfl)
        exact leafO _ (answer2 _ _ _ _ (cellN O8 6 rfl rfl rfl) rfl) ⟨_, _, _, _, rfl, Or.inr (Or.inr ⟨⟨hi, hr⟩, he, rfl, rfl, d, rfl, rfl⟩), ((((((O9.rid 6 rfl).rid 4 rfl).rid 3 rfl).rid 2 rfl).rid 1 rfl).swap2)⟩
      · have hd : decide (S.E c = e0) = false := decide_eq_false he
        simp only [eq_ev, hd, g4, p4, zc3, zs3, wkF, ↓reduceIte, reduceCtorEq, Nat.reduceAdd, Nat.reduceLeDiff, Nat.reduceMul, Nat.reduceLT, Nat.reduceEqDiff, wkG, wkH]
        exact leafO _ (answer2 _ _ _ _ (cellN (zo O4) 0 rfl rfl rfl) rfl) ⟨_, _, S, Rs.emp, rfl, Or.inr (Or.inl ⟨⟨hi, hr⟩, he, rfl, rfl, rfl, rfl⟩), (Has.emp.2 (zo O4).drop).swap2⟩
    · simp only [hr, g6, p6, zc3, zs3, wkF, ↓reduceIte, reduceCtorEq, Nat.reduceAdd, Nat.reduceLeDiff, Nat.reduceMul, Nat.reduceLT, Nat.reduceEqDiff, wkG, wkH]
      exact leafO _ (answer2 _ _ _ _ (cellN (zo O1) 0 rfl rfl rfl) rfl) ⟨_, _, S, Rs.emp, rfl, Or.inl ⟨fun x => hr x.2, rfl, rfl, rfl, rfl⟩, (Has.emp.2 (zo O1).drop).swap2⟩
  · simp only [hi, g6, p6, zc3, zs3, wkF, ↓reduceIte, reduceCtorEq, Nat.reduceAdd, Nat.reduceLeDiff, Nat.reduceMul, Nat.reduceLT, Nat.reduceEqDiff, wkG, wkH]
    exact leafO _ (answer2 _ _ _ _ (cellN (zo O1) 0 rfl rfl rfl) rfl) ⟨_, _, S, Rs.emp, rfl, Or.inl ⟨fun x => hi x.1, rfl, rfl, rfl, rfl⟩, (Has.emp.2 (zo O1).drop).swap2⟩
end
theorem Ls.Same.refl (S : Ls) : S.Same S := ⟨rfl, rfl, rfl⟩
theorem Ls.Same.trans {S T U : Ls} (h : S.Same T) (k : T.Same U) : S.Same U := ⟨k.1.trans h.1, k.2.1.trans h.2.1, k.2.2.trans h.2.2⟩
theorem Wf.told {S : Ls} (w : Wf S) (t : List (Int × Int)) : Wf { S with told := t } := ⟨⟨w.z.r1, w.z.r2, w.z.h1, w.z.h2, w.z.c1, w.z.c2⟩, w.g, w.q, w.w8⟩
theorem rel_wf {S S' : Ls} {r c g e : Int} {o' : Ou} (w : Wf S) (h : RelIs S r c g e S' o') : Wf S' ∧ S.Same S' := by
  rcases h with ⟨_, _, rfl, _⟩ | ⟨_, _, _, h⟩ | ⟨_, _, _, rfl, _⟩
  · exact ⟨w, Ls.Same.refl _⟩
  · exact free_wf w h
  · exact ⟨w, Ls.Same.refl _⟩
theorem stat_wf {S S' : Ls} {r e : Int} {L : List En} {o' : Ou} (w : Wf S) (h : StatIs S r L e S' o') : Wf S' ∧ S.Same S' := by
  rcases h with ⟨_, _, rfl, _⟩ | ⟨_, _, W0, Sk, h1, h2, rfl⟩
  · exact ⟨w, Ls.Same.refl _⟩
  · obtain ⟨w1, s1, _⟩ := stto_wf (gn_wf w h1) h2
    exact ⟨w1.told _, s1⟩
theorem ren_wf {S S' : Ls} {r : Int} (w : Wf S) (h : RenIs S r S') : Wf S' ∧ S.Same S' := by
  rcases h with ⟨_, rfl⟩ | ⟨_, W, g, rfl⟩
  · exact ⟨w, Ls.Same.refl _⟩
  · exact ⟨(gn_wf w g).told _, rfl, rfl, rfl⟩
theorem wait_wf {S : Ls} {c : Int} {w : It} {qs' : List (Int × Nat)} {a : Bool} {er : Int} {l' : List It} (f : Wf S) (hq : ∀ x, lk qs' x = none → lk S.qs x = none ∧ x ≠ c) (hp : PutIs (S.W c) w a er l') : Wf { S with qs := qs', W := updW S.W c l' } := by
  refine ⟨⟨f.z.r1, f.z.r2, f.z.h1, f.z.h2, f.z.c1, f.z.c2⟩, f.g, fun x hx => ?_, fun x => ?_⟩
  · obtain ⟨h1, h2⟩ := hq x hx
    show updW S.W c l' x = []
    unfold updW
    rw [if_neg h2]
    exact f.q x h1
  · show (updW S.W c l' x).length ≤ 8
    unfold updW
    split
    · exact putis_len (f.w8 c) hp
    · exact f.w8 x
theorem req_wf {S S' : Ls} {w : It} {c e : Int} {o' : Ou} (f : Wf S) (h : ReqIs S w c e S' o') : Wf S' ∧ S.Same S' := by
  rcases h with ⟨_, _, rfl, _⟩ | ⟨_, _, _, rfl, _⟩ | ⟨_, _, _, ⟨_, rfl, _⟩ | ⟨_, d, rfl, _⟩ | ⟨_, _, qs', a, er, l', h1, h2, rfl, _⟩⟩
  · exact ⟨f, Ls.Same.refl _⟩
  · exact ⟨f, Ls.Same.refl _⟩
  · exact ⟨f, Ls.Same.refl _⟩
  · unfold Ls.grant
    split
    · exact ⟨f, Ls.Same.refl _⟩
    · have := f.g c
      exact ⟨f.set c ⟨w.r, (S.E c).g + 1⟩ (by show 0 ≤ (S.E c).g + 1 ∧ (S.E c).g + 1 ≤ 4294967295; omega), rfl, rfl, rfl⟩
  · exact ⟨wait_wf f h1 h2, rfl, rfl, rfl⟩
def Once (l : List It) : Prop := (l.map (·.r)).Nodup
structure Gc (e : En) (l : List It) : Prop where
  o : Once l
  x : ∀ x ∈ l, x.r ≠ e.o ∧ 0 ≤ x.r
  m : l ≠ [] → e.o = -1 → e.g = 4294967295
structure Ge (a b : En) : Prop where
  up : a.g ≤ b.g
  new : b.o ≠ a.o → b.o ≠ -1 → a.g < b.g
  old : b.o = a.o → b.o ≠ -1 → b.g = a.g
theorem Ge.refl (a : En) : Ge a a := ⟨Int.le_refl _, fun h => absurd rfl h, fun _ _ => rfl⟩
structure Gi (S : Ls) : Prop where
  w : Wf S
  c : ∀ c, Gc (S.E c) (S.W c)
theorem Gc.sub {e : En} {l l' : List It} (g : Gc e l) (h : l'.Sublist l) : Gc e l' := by
  refine ⟨g.o.sublist (h.map _), fun x hx => g.x x (h.subset hx), fun hn he => g.m (fun e => ?_) he⟩
  rw [e] at h
  exact hn (List.sublist_nil.1 h)
theorem cutis_sub {l l' : List It} {r : Int} {a : Bool} (h : CutIs l r a l') : l'.Sublist l := by
  rcases h with ⟨_, _, rfl⟩ | ⟨_, i, _, _, rfl⟩
  · exact List.Sublist.refl _
  · exact List.eraseIdx_sublist _ _
theorem gi_lz {a b c : Int} (h : Szs a b c) : Gi (lz a b c) := ⟨lz_wf h, fun x => ⟨List.nodup_nil, fun y hy => (by cases hy), fun h => absurd rfl h⟩⟩
theorem gi_gone {S : Ls} {r : Int} {W : Int → List It} (g : Gi S) (h : Gn S r S.N W) : Gi { S with W := W } := by
  refine ⟨gn_wf g.w h, fun c => ?_⟩
  show Gc (S.E c) (W c)
  by_cases h1 : ∃ i, i < S.N ∧ c = S.at i
  · obtain ⟨i, hi, rfl⟩ := h1
    obtain ⟨a, hc⟩ := h.on i hi
    exact (g.c _).sub (cutis_sub hc)
  · rw [h.off c fun i hi e => h1 ⟨i, hi, e⟩]
    exact g.c c
theorem gi_free {S S' : Ls} {o o' : Ou} {c : Int} (g : Gi S) (h : FreeTo S o c S' o') : Gi S' ∧ (∀ x, Ge (S.E x) (S'.E x)) ∧ ∀ x, x ≠ c → S'.E x = S.E x := by
  have hw := (free_wf g.w h).1
  have gc := g.c c
  obtain ⟨d, ⟨hm, rfl, _⟩ | ⟨hm, hW, rfl, _⟩ | ⟨hm, w, rest, d2, hW, rfl, _⟩⟩ := h
  · refine ⟨⟨hw, fun x => ?_⟩, fun x => ?_, fun x hx => ?_⟩
    · rw [E_setW, E_set, W_setW, W_set]
      by_cases e : x = c
      · rw [if_pos e, if_pos e]
        exact ⟨List.nodup_nil, fun y hy => (by cases hy), fun h => absurd rfl h⟩
      · rw [if_neg e, if_neg e]
        exact g.c x
    · rw [E_setW, E_set]
      by_cases e : x = c
      · subst e
        rw [if_pos rfl]
        exact ⟨Int.le_refl _, fun _ h => absurd rfl h, fun _ _ => rfl⟩
      · rw [if_neg e]
        exact Ge.refl _
    · rw [E_setW, E_set, if_neg hx]
  · refine ⟨⟨hw, fun x => ?_⟩, fun x => ?_, fun x hx => ?_⟩
    · rw [E_set, W_set]
      by_cases e : x = c
      · subst e
        rw [if_pos rfl, hW]
        exact ⟨List.nodup_nil, fun y hy => (by cases hy), fun h => absurd rfl h⟩
      · rw [if_neg e]
        exact g.c x
    · rw [E_set]
      by_cases e : x = c
      · subst e
        rw [if_pos rfl]
        exact ⟨Int.le_refl _, fun _ h => absurd rfl h, fun _ _ => rfl⟩
      · rw [if_neg e]
        exact Ge.refl _
    · rw [E_set, if_neg hx]
  · rw [hW] at gc
    have hx := gc.x w (by simp)
    have hnd : (∀ y ∈ rest, y.r ≠ w.r) ∧ Once rest := by
      have h1 := gc.o
      unfold Once at h1
      rw [List.map_cons, List.nodup_cons] at h1
      exact ⟨fun y hy e => h1.1 (List.mem_map.2 ⟨y, hy, e⟩), h1.2⟩
    refine ⟨⟨hw, fun x => ?_⟩, fun x => ?_, fun x hx => ?_⟩
    · rw [E_set, E_setW, E_set, W_set, W_setW, W_set]
      by_cases e : x = c
      · subst e
        rw [if_pos rfl, if_pos rfl]
        exact ⟨hnd.2, fun y hy => ⟨hnd.1 y hy, (gc.x y (by simp [hy])).2⟩, fun _ he => absurd he (by have := hx.2; show w.r ≠ -1; omega)⟩
      · rw [if_neg e, if_neg e, if_neg e]
        exact g.c x
    · rw [E_set, E_setW, E_set]
      by_cases e : x = c
      · subst e
        rw [if_pos rfl]
        exact ⟨by show (S.E x).g ≤ (S.E x).g + 1; omega, fun _ _ => by show (S.E x).g < (S.E x).g + 1; omega, fun h _ => absurd h hx.1⟩
      · rw [if_neg e, if_neg e]
        exact Ge.refl _
    · rw [E_set, E_setW, E_set, if_neg hx, if_neg hx]
theorem stto_gi {S0 : Ls} {r : Int} {L : List En} (g0 : Gi S0) : ∀ {k : Nat} {S' : Ls} {o' : Ou}, StTo S0 r L k S' o' → Gi S' ∧ (∀ x, Ge (S0.E x) (S'.E x)) ∧ ∀ x, (∀ i, i < k → x ≠ S0.at i) → S'.E x = S0.E x
  | 0, S', o', ⟨h1, h2⟩ => by
    subst h1
    exact ⟨g0, fun x => Ge.refl _, fun x _ => rfl⟩
  | k + 1, S', o', ⟨S1, o1, h, hs⟩ => by
    obtain ⟨g1, e1, n1⟩ := stto_gi g0 h
    rcases hs with ⟨_, hf⟩ | ⟨_, rfl, _⟩
    · obtain ⟨g2, e2, n2⟩ := gi_free g1 hf
      refine ⟨g2, fun x => ?_, fun x hx => ?_⟩
      · by_cases e : x = S0.at k
        · have := e2 x
          rw [n1 x fun i hi e3 => at_ne g0.w.z (Nat.lt_of_lt_of_le hi (Nat.le_refl k)) (e3.symm.trans e)] at this
          exact this
        · rw [n2 x e]
          exact e1 x
      · rw [n2 x (hx k (by omega)), n1 x fun i hi => hx i (by omega)]
    · exact ⟨g1, e1, fun x hx => n1 x fun i hi => hx i (by omega)⟩
theorem count_perm {l l' : List It} (h : ∀ y, l'.count y = l.count y) : l'.Perm l := List.perm_iff_count.2 h
theorem put_gc {e : En} {l l' : List It} {w : It} {a : Bool} {er : Int} (g : Gc e l) (hw : w.r ≠ e.o ∧ 0 ≤ w.r) (ho : e.o ≠ -1) (h : PutIs l w a er l') : Gc e l' := by
  rcases h with ⟨_, _, _, rfl⟩ | ⟨_, _, _, _, _, rfl⟩ | ⟨_, _, _, l2, hp, _, hc, _⟩
  · exact g
  · exact g
  · have pm := count_perm hc
    have g2 : Once l2 ∧ ∀ x ∈ l2, x.r ≠ e.o ∧ 0 ≤ x.r := by
      rcases hp with ⟨hn, _, rfl⟩ | ⟨i, hi, hlt, ⟨_, rfl⟩ | ⟨_, rfl⟩⟩
      · refine ⟨?_, fun x hx => ?_⟩
        · unfold Once
          rw [List.map_append, List.nodup_append]
          refine ⟨g.o, by simp, fun a ha b hb => ?_⟩
          rcases hn with ⟨_, hn⟩ | ⟨j, e, _⟩
          · obtain ⟨x, hx, rfl⟩ := List.mem_map.1 ha
            simp at hb
            subst hb
            obtain ⟨j, hj, e⟩ := List.getElem_of_mem hx
            have := hn j hj
            have e2 := nth_get hj
            rw [List.getElem?_eq_getElem hj, e] at e2
            rw [← Option.some.inj e2] at this
            exact this
          · omega
        · rcases List.mem_append.1 hx with hx | hx
          · exact g.x x hx
          · simp at hx
            subst hx
            exact hw
      · rcases hi with ⟨e, _⟩ | ⟨j, e, hj, hr, _⟩
        · omega
        · have : i = j := by omega
          subst this
          have hm : (l.set i w).map (·.r) = l.map (·.r) := by
            rw [List.map_set]
            refine List.ext_getElem? fun k => ?_
            rw [List.getElem?_set]
            split
            · rename_i e
              subst e
              rw [if_pos (by rw [List.length_map]; exact hlt), List.getElem?_map, nth_get hlt, Option.map_some, hr]
            · rfl
          refine ⟨by unfold Once; rw [hm]; exact g.o, fun x hx => ?_⟩
          rcases List.mem_or_eq_of_mem_set hx with h | rfl
          · exact g.x x h
          · exact hw
      · exact ⟨g.o, g.x⟩
    refine ⟨(pm.map _).nodup_iff.2 g2.1, fun x hx => g2.2 x (pm.subset hx), fun _ h => absurd h ho⟩
theorem gi_told {S : Ls} (g : Gi S) (t : List (Int × Int)) : Gi { S with told := t } := ⟨g.w.told t, g.c⟩
theorem gi_set {S : Ls} (g : Gi S) {c : Int} {e : En} (he : 0 ≤ e.g ∧ e.g ≤ 4294967295) (hW : S.W c = []) : Gi (S.set c e) := by
  refine ⟨g.w.set c e he, fun x => ?_⟩
  rw [E_set, W_set]
  by_cases h : x = c
  · subst h
    rw [if_pos rfl, hW]
    exact ⟨List.nodup_nil, fun y hy => (by cases hy), fun h => absurd rfl h⟩
  · rw [if_neg h]
    exact g.c x
def Stp (S S' : Ls) : Prop := Gi S' ∧ S.Same S' ∧ ∀ x, Ge (S.E x) (S'.E x)
theorem Stp.refl {S : Ls} (g : Gi S) : Stp S S := ⟨g, Ls.Same.refl S, fun x => Ge.refl _⟩
theorem stp_rel {S S' : Ls} {r c k e : Int} {o' : Ou} (g : Gi S) (h : RelIs S r c k e S' o') : Stp S S' := by
  have hw := rel_wf g.w h
  rcases h with ⟨_, _, rfl, _⟩ | ⟨_, _, _, h⟩ | ⟨_, _, _, rfl, _⟩
  · exact Stp.refl g
  · obtain ⟨h1, h2, _⟩ := gi_free g h
    exact ⟨h1, hw.2, h2⟩
  · exact Stp.refl g
theorem stp_stat {S S' : Ls} {r e : Int} {L : List En} {o' : Ou} (g : Gi S) (h : StatIs S r L e S' o') : Stp S S' := by
  have hw := stat_wf g.w h
  rcases h with ⟨_, _, rfl, _⟩ | ⟨_, _, W0, Sk, h1, h2, rfl⟩
  · exact Stp.refl g
  · obtain ⟨h3, h4, _⟩ := stto_gi (gi_gone g h1) h2
    exact ⟨gi_told h3 _, hw.2, h4⟩
theorem stp_ren {S S' : Ls} {r : Int} (g : Gi S) (h : RenIs S r S') : Stp S S' := by
  have hw := ren_wf g.w h
  rcases h with ⟨_, rfl⟩ | ⟨_, W, h1, rfl⟩
  · exact Stp.refl g
  · exact ⟨gi_told (gi_gone g h1) _, hw.2, fun x => Ge.refl _⟩
theorem stp_set {S : Ls} {c r k : Int} (g : Gi S) (ho : (S.E c).o = -1) (hk : (S.E c).g < k) (hk2 : k ≤ 4294967295) (hW : S.W c = []) : Stp S (S.set c ⟨r, k⟩) := by
  have := g.w.g c
  refine ⟨gi_set g ⟨by show 0 ≤ k; omega, hk2⟩ hW, ⟨rfl, rfl, rfl⟩, fun x => ?_⟩
  rw [E_set]
  by_cases e : x = c
  · subst e
    rw [if_pos rfl]
    exact ⟨by show (S.E x).g ≤ k; omega, fun _ _ => hk, fun h1 h2 => by
      have h3 : r = (S.E x).o := h1
      have h4 : r ≠ -1 := h2
      omega⟩
  · rw [if_neg e]
    exact Ge.refl _
theorem stp_pla {S S' : Ls} {c r e : Int} {rv : Value} {D : Rs} (g : Gi S) (h : PlaIs S c r e S' rv D) : Stp S S' := by
  rcases h with ⟨_, _, rfl, _⟩ | ⟨_, _, _, rfl, _⟩ | ⟨_, he, _, rfl, _⟩
  · exact Stp.refl g
  · exact Stp.refl g
  · have ho : (S.E c).o = -1 := by rw [he]; rfl
    have hg : (S.E c).g = 0 := by rw [he]; rfl
    have hW : S.W c = [] := by
      refine Classical.byContradiction fun hn => ?_
      have := (g.c c).m hn ho
      omega
    exact stp_set g ho (by omega) (by omega) hW
theorem stp_req {S S' : Ls} {w : It} {c e : Int} {o' : Ou} (g : Gi S) (h : ReqIs S w c e S' o') : Stp S S' := by
  have hw := req_wf g.w h
  rcases h with ⟨_, _, rfl, _⟩ | ⟨_, _, _, rfl, _⟩ | ⟨hf, _, _, ⟨_, rfl, _⟩ | ⟨ho, d, rfl, _⟩ | ⟨h1, h2, qs', a, er, l', h3, h4, rfl, _⟩⟩
  · exact Stp.refl g
  · exact Stp.refl g
  · exact Stp.refl g
  · unfold Ls.grant
    split
    · exact Stp.refl g
    · rename_i hm
      have hW : S.W c = [] := Classical.byContradiction fun hn => hm ((g.c c).m hn ho)
      have := g.w.g c
      exact stp_set g ho (by omega) (by omega) hW
  · refine ⟨⟨hw.1, fun x => ?_⟩, hw.2, fun x => Ge.refl _⟩
    show Gc (S.E x) (updW S.W c l' x)
    unfold updW
    by_cases e : x = c
    · subst e
      rw [if_pos rfl]
      exact put_gc (g.c x) ⟨fun e => h1 e.symm, hf.1.2.1⟩ h2 h4
    · rw [if_neg e]
      exact g.c x
theorem env10 : env 10 = some ir10 := rfl
structure Cq where
  kd : Int
  rb : Int
  cell : Int
  gen : Int
  st : Int
  pr : Int
  cv : Value
  L : List En
def cq (a : Cq) : List Value := [.int .i64 a.kd, .int .i64 a.rb, .int .i64 a.cell, .int .u32 a.gen, .int .u64 a.st, .int .i64 a.pr, a.cv]
theorem cq_len (a : Cq) : (cq a).length = 7 := rfl
structure OkQ (ro : Nat → Option (List Value × Nat)) (a : Cq) : Prop where
  s : ∃ p c, a.cv = .slice p a.L.length c
  v : ∀ (M : List Rs) (h : Heap), Has ro h M → Vw 2 ec h a.cv a.L
  g : 0 ≤ a.gen ∧ a.gen ≤ 4294967295
  t : 0 ≤ a.st ∧ a.st ≤ 18446744073709551615
  k : -9223372036854775808 ≤ a.kd ∧ a.kd ≤ 9223372036854775807
  r : -9223372036854775808 ≤ a.rb ∧ a.rb ≤ 9223372036854775807
  c : -9223372036854775808 ≤ a.cell ∧ a.cell ≤ 9223372036854775807
  p : -9223372036854775808 ≤ a.pr ∧ a.pr ≤ 9223372036854775807
theorem flat_i64 {P : Program} {d : Nat} {ro : Nat → Option (List Value × Nat)} {v : Value} (h : DFit P ro d (.flat (.int .i64)) v) : ∃ x : Int, v = .int .i64 x ∧ -9223372036854775808 ≤ x ∧ x ≤ 9223372036854775807 := by cases d <;> exact h
theorem flat_u32 {P : Program} {d : Nat} {ro : Nat → Option (List Value × Nat)} {v : Value} (h : DFit P ro d (.flat (.int .u32)) v) : ∃ x : Int, v = .int .u32 x ∧ 0 ≤ x ∧ x ≤ 4294967295 := by cases d <;> exact h
theorem flat_u64 {P : Program} {d : Nat} {ro : Nat → Option (List Value × Nat)} {v : Value} (h : DFit P ro d (.flat (.int .u64)) v) : ∃ x : Int, v = .int .u64 x ∧ 0 ≤ x ∧ x ≤ 18446744073709551615 := by cases d <;> exact h
theorem f2_cons {p : DK → Value → Prop} {k : DK} {ks : List DK} {vs : List Value} (h : Fits2 p (k :: ks) vs) : ∃ v vs', vs = v :: vs' ∧ p k v ∧ Fits2 p ks vs' := by
  cases vs with
  | nil => exact h.elim
  | cons v vs => exact ⟨v, vs, rfl, h.1, h.2⟩
theorem f2_nil {p : DK → Value → Prop} {vs : List Value} (h : Fits2 p [] vs) : vs = [] := by
  cases vs with
  | nil => rfl
  | cons v vs => exact h.elim
theorem cl_kinds : dkOf Try.prog 8 97 = some [.flat (.int .i64), .flat (.int .u32)] := by kernel_rfl
theorem cl_size : Try.prog.cellsOf 97 = 2 := by kernel_rfl
theorem cq_kinds : dkOf Try.prog 8 41 = some [.flat (.int .i64), .flat (.int .i64), .flat (.int .i64), .flat (.int .u32), .flat (.int .u64), .flat (.int .i64), .slice 97] := by kernel_rfl
theorem cq_size : Try.prog.cellsOf 41 = 7 := by kernel_rfl
theorem cl_inv {ro : Nat → Option (List Value × Nat)} (vs : List Value) (h : Fits2 (DFit Try.prog ro 0) [.flat (.int .i64), .flat (.int .u32)] vs) : ∃ a : En, vs = ec a ∧ True := by
  obtain ⟨v, w, rfl, h1, h2⟩ := f2_cons h
  obtain ⟨v2, w2, rfl, h3, h4⟩ := f2_cons h2
  have := f2_nil h4
  subst this
  obtain ⟨x, rfl, _⟩ := flat_i64 h1
  obtain ⟨y, rfl, _⟩ := flat_u32 h3
  exact ⟨⟨x, y⟩, rfl, trivial⟩
theorem cq_inv {ro : Nat → Option (List Value × Nat)} (vs : List Value) (h : Fits2 (DFit Try.prog ro 1) [.flat (.int .i64), .flat (.int .i64), .flat (.int .i64), .flat (.int .u32), .flat (.int .u64), .flat (.int .i64), .slice 97] vs) : ∃ a : Cq, vs = cq a ∧ OkQ ro a := by
  obtain ⟨v, w, rfl, h1, h⟩ := f2_cons h
  obtain ⟨v2, w2, rfl, h2, h⟩ := f2_cons h
  obtain ⟨v3, w3, rfl, h3, h⟩ := f2_cons h
  obtain ⟨v4, w4, rfl, h4, h⟩ := f2_cons h
  obtain ⟨v5, w5, rfl, h5, h⟩ := f2_cons h
  obtain ⟨v6, w6, rfl, h6, h⟩ := f2_cons h
  obtain ⟨v7, w7, rfl, h7, h⟩ := f2_cons h
  have := f2_nil h
  subst this
  obtain ⟨x1, rfl, k1⟩ := flat_i64 h1
  obtain ⟨x2, rfl, k2⟩ := flat_i64 h2
  obtain ⟨x3, rfl, k3⟩ := flat_i64 h3
  obtain ⟨x4, rfl, k4⟩ := flat_u32 h4
  obtain ⟨x5, rfl, k5⟩ := flat_u64 h5
  obtain ⟨x6, rfl, k6⟩ := flat_i64 h6
  obtain ⟨p, L, c, rfl, _, _, _, hV⟩ := dslice h7 cl_kinds cl_size (by simp) ec (fun _ => True) cl_inv
  exact ⟨⟨x1, x2, x3, x4, x5, x6, .slice p L.length c, L⟩, rfl, ⟨⟨p, c, rfl⟩, hV, k4, k5, k1, k2, k3, k6⟩⟩
section
variable {ro : Nat → Option (List Value × Nat)} {h : Heap} {R : List Rs} {n : Nat}
theorem great_h {v : Value} {l : List Cq} (hn : 400 < n) (ok : ∀ a ∈ l, OkQ ro a) (V : Vw 7 cq h v l) : (callV env (n + 1) (.func (.func 10) #[] #[]) [v] h).Is fun p => (p = (.int .i64 1, h)) ∨ (p = (.int .i64 0, h) ∧ l.length ≤ 120 ∧ ∀ a ∈ l, a.L.length ≤ 40) := by
  obtain ⟨pv, cv, rfl, _⟩ := V.len
  refine call_is env10 ?_
  by_cases h1 : 120 < l.length
  · have h1' : (120 : Int) < (l.length : Int) := by omega
    simp only [ir10, Nat.reduceAdd, Nat.reduceSub, h1', wkF, ↓reduceIte, reduceCtorEq, wkN, wkG, wkH]
    exact leaf1 (Or.inl rfl)
  have h1' : ¬ (120 : Int) < (l.length : Int) := by omega
  simp only [ir10, Nat.reduceAdd, Nat.reduceSub, h1', wkF, ↓reduceIte, reduceCtorEq, wkN, wkG, wkH]
  refine L_is (fun q s => ∃ i : Nat, q = l.length - i ∧ i ≤ l.length ∧ s.defers = [] ∧ s.tmps.length = 20 ∧ s.tmps.getD 0 undefV = .slice pv l.length cv ∧ s.tmps.getD 3 undefV = .int .i64 (i : Int) ∧ s.h = h ∧ ∀ j a, j < i → l[j]? = some a → a.L.length ≤ 40) l.length ?_ (by omega) ?_
  · exact ⟨0, rfl, Nat.zero_le _, rfl, rfl, rfl, rfl, rfl, fun j a hj => by omega⟩
  rintro q tm df h2 ⟨i, hk, hi, hd, hlen_, g0, g3, hh, hno⟩
  simp only at hd g0 g3 hh
  subst hd hh
  obtain ⟨w, hg_, rfl⟩ := explode hlen_
  simp only [hg_] at g0 g3
  clear hlen_ hg_
  by_cases h0 : i < l.length
  · have h0' : (i : Int) < (l.length : Int) := by omega
    have hi0 : (0 : Int) ≤ (i : Int) := by omega
    obtain ⟨b, off, sp, c2, hv, k, _⟩ := V.rd cq_len (List.getElem?_eq_getElem h0)
    have e1 : pv = some ⟨b, off, sp⟩ := by injection hv
    subst e1
    obtain ⟨cp, cc, hcv⟩ := (ok _ (List.getElem_mem h0)).s
    have r := k 6 1 (by decide)
    have r2 : readN (cq l[i]) 6 1 = some [l[i].cv] := rfl
    rw [r2, hcv] at r
    have y1 : IntKind.i64.wrap ((i : Int) + 1) = ((i + 1 : Nat) : Int) := by rw [wrap_i64 (by omega) (by omega)]; omega
    by_cases h4 : 40 < l[i].L.length
    · have h4' : (40 : Int) < (l[i].L.length : Int) := by omega
      simp only [g0, g3, h0', hi0, r, h4', Int.toNat_natCast, wkF, ↓reduceIte, reduceCtorEq, Nat.reduceAdd, wkG, wkH]
      refine Is_in ?_
      simp only [wkF, ↓reduceIte, reduceCtorEq, Nat.reduceAdd, wkG, wkH]
      exact leaf1 (Or.inl rfl)
    · have h4' : ¬ (40 : Int) < (l[i].L.length : Int) := by omega
      simp only [g0, g3, h0', hi0, r, h4', Int.toNat_natCast, y1, wkF, ↓reduceIte, reduceCtorEq, Nat.reduceAdd, wkG, wkH]
      refine Is_in ⟨l.length - (i + 1), by omega, i + 1, rfl, h0, rfl, rfl, rfl, rfl, rfl, fun j a hj ha => ?_⟩
      by_cases e : j = i
      · subst e
        rw [List.getElem?_eq_getElem h0] at ha
        cases ha
        omega
      · exact hno j a (by omega) ha
  · have h0' : ¬ (i : Int) < (l.length : Int) := by omega
    simp only [g0, g3, h0', wkF, ↓reduceIte, reduceCtorEq, Nat.reduceAdd, wkG, wkH]
    refine Is_in ?_
    simp only [wkF, ↓reduceIte, reduceCtorEq, Nat.reduceAdd, wkG, wkH]
    refine leaf1 (Or.inr ⟨rfl, by omega, fun a ha => ?_⟩)
    obtain ⟨j, hj, rfl⟩ := List.getElem_of_mem ha
    exact hno j _ (by omega) (List.getElem?_eq_getElem hj)
end
theorem env17 : env 17 = some ir17 := rfl
def recl (S : Ls) : Nat → List (Int × En)
  | 0 => []
  | k + 1 => recl S k ++ (match lk S.ents (S.at k) with | some e => [(S.at k, e)] | none => [])
theorem recl_len (S : Ls) : ∀ k, (recl S k).length ≤ k
  | 0 => Nat.le_refl _
  | k + 1 => by
    have := recl_len S k
    unfold recl
    rw [List.length_append]
    cases lk S.ents (S.at k) <;> simp <;> omega
section
variable {ro : Nat → Option (List Value × Nat)} {h : Heap} {R : List Rs} {lb : Nat} {S : Ls} {n : Nat}
def Rv (v : Value) (l : List (Int × En)) : Rs := Rs.ex fun ws : List Wr => Rs.and (ws.map (fun w => (w.c, w.e)) = l) (Rs.star (Sc 3 wc v ws) (Dts ws))
theorem Has.rvOpen {v : Value} {l : List (Int × En)} (O : Has ro h (Rv v l :: R)) : ∃ ws : List Wr, ws.map (fun w => (w.c, w.e)) = l ∧ Has ro h (Sc 3 wc v ws :: Dts ws :: R) := by
  obtain ⟨ws, O⟩ := Has.ex.1 O
  obtain ⟨e, O⟩ := Has.and.1 O
  exact ⟨ws, e, Has.star.1 O⟩
theorem Has.rvClose {v : Value} {l : List (Int × En)} {ws : List Wr} (e : ws.map (fun w => (w.c, w.e)) = l) (O : Has ro h (Sc 3 wc v ws :: Dts ws :: R)) : Has ro h (Rv v l :: R) :=
  Has.ex.2 ⟨ws, Has.and.2 ⟨e, Has.star.2 O⟩⟩
theorem Has.rvNil (O : Has ro h R) : Has ro h (Rv (.slice none 0 0) [] :: R) :=
  Has.rvClose (ws := []) rfl (Has.scNil (z := 3) (g := wc) (Has.all.2 O))
theorem records_h (w : Wf S) (hn : 1200 < n) (O : Has ro h (Lg lb S :: R)) :
    (callV env (n + 20) (.func (.func 17) #[] #[]) [.pointer (some ⟨lb, 0, none⟩)] h).Is fun p => Has ro p.2 (Rv p.1 (recl S S.N) :: Lg lb S :: R) := by
  refine call_is env17 ?_
  simp only [ir17, Nat.reduceAdd, Nat.reduceSub, wkF, X_seq, Y_store, Y_makeMap, Y_buildSlice, ↓reduceIte, reduceCtorEq, wkO, wkS, wkN, wkG]
  refine Y_boxO O ?_
  intro b1 h1 O1 e1
  simp only [wkF, X_seq, Y_store, Y_makeMap, Y_buildSlice, ↓reduceIte, reduceCtorEq, wkO, wkS, Nat.reduceAdd, wkG]
  refine Y_boxO O1 ?_
  intro b3 h2 O2 e2
  replace O2 : Has ro h2 (Ob b3 (.cells [.slice none 0 0] 1 false) :: Ob b1 (.cells [.pointer (some ⟨lb, 0, none⟩)] 1 false) :: Lg lb S :: R) := O2
  replace O2 : Has ro h2 (Lg lb S :: Ob b3 (.cells [.slice none 0 0] 1 false) :: Ob b1 (.cells [.pointer (some ⟨lb, 0, none⟩)] 1 false) :: R) := O2.at 2 rfl
  have hr0 : ¬ S.rob = 0 := by have := w.z.r1; omega
  have g1 := O2.get 2 rfl
  simp only [g1, wkF, ↓reduceIte, reduceCtorEq, Nat.reduceAdd, Nat.reduceLeDiff, Nat.reduceMul, Nat.reduceLT, Nat.reduceEqDiff, wkG, wkH]
  refine Z_is (none_h (n := n + 18) O2) ?_
  rintro v h3 ⟨rfl, rfl⟩
  simp only [hr0, g1, wkF, ↓reduceIte, reduceCtorEq, Nat.reduceAdd, Nat.reduceLeDiff, Nat.reduceMul, Nat.reduceLT, Nat.reduceEqDiff, wkG, wkH]
  refine Z_is (mine_h (n := n + 18) O2) ?_
  rintro v h7 ⟨E, rfl, O7⟩
  simp only at O7
  simp only [wkF, ↓reduceIte, reduceCtorEq, Nat.reduceAdd, wkG, wkH]
  refine X_rangeO O7 (g := 55) (first := #[]) rfl ?_
  intro m l h8 O8
  have hN := N_le w.z
  generalize hlp : ({ state := LoopState.ready, pending := IExit.normal, tmps := _, params := _, assign := _, body := _, defers := m } : ILoop) = lp at O8
  have l1 : lp.state = .ready := by rw [← hlp]
  have l2 : lp.pending = .normal := by rw [← hlp]
  have l3 := congrArg ILoop.tmps hlp.symm
  have l4 := congrArg ILoop.params hlp.symm
  have l5 := congrArg ILoop.assign hlp.symm
  have l6 := congrArg ILoop.body hlp.symm
  simp only at l3 l4 l5 l6
  clear hlp g1
  refine T.Is.mono ?_ (mine_iter (ro := ro) (lb := lb) (n := n + 18) (l := l) (E := E) (S := S) w.z (by omega) (fun i => Ob l (.loop lp) :: Ob m (.deferred true) :: Ob E (.cells [.pointer (some ⟨lb, 0, none⟩)] 1 false) :: Lg lb S :: Ob b1 (.cells [.pointer (some ⟨lb, 0, none⟩)] 1 false) :: (Rs.ex fun v : Value => Rs.star (Ob b3 (.cells [v] 1 false)) (Rv v (recl S i))) :: R) ?_ ?_ ?_)
  · rintro p O5
    refine ⟨lp, _, (by rw [l1]; intro e; cases e), O5, fun h6 O6 => ?_⟩
    rw [l2]
    clear O5 O8
    obtain ⟨v, O7⟩ := Has.ex.1 (O6.at 4 rfl)
    have O8 := Has.star.1 O7
    have g3 := O8.get 0 rfl
    simp only [g3, wkF, ↓reduceIte, reduceCtorEq, Nat.reduceAdd, Nat.reduceLeDiff, Nat.reduceMul, Nat.reduceLT, Nat.reduceEqDiff, wkG, wkH]
    refine leafMO O8 2 rfl fun h12 O12 => ?_
    simp only [List.set_cons_zero, List.set_cons_succ] at O12
    exact ⟨_, rfl, ((((O12.rid 5 rfl).rid 3 rfl).rid 2 rfl).rid 0 rfl)⟩
  · have := (Has.ex (F := fun v : Value => Rs.star (Ob b3 (.cells [v] 1 false)) (Rv v (recl S 0)))).2 ⟨.slice none 0 0, Has.star.2 ((Has.rvNil (O8.at 4 rfl)).swap2)⟩
    exact (((((this.at 5 rfl).at 5 rfl).at 5 rfl).at 5 rfl).at 5 rfl)
  · rintro i h6 hi O6
    obtain ⟨eb, qb, tb, O9⟩ := Has.lgOpen (O6.at 3 rfl)
    exact ⟨O6.get 2 rfl, eb, qb, tb, O9.get 0 rfl⟩
  · rintro i h6 hi O6
    rw [callV_yield]
    refine round_isB O6 l1 l2 l3 l4 l5 l6 rfl ?_
    simp only [List.nil_append, wkF, ↓reduceIte, reduceCtorEq, Nat.reduceAdd, wkG, wkH]
    refine Is_in ⟨rfl, _, O6, fun h7 lpB O7 => ?_⟩
    obtain ⟨eb, qb, tb, O9⟩ := Has.lgOpen (O7.at 3 rfl)
    have gl := O9.get 0 rfl
    unfold lc at gl
    have m1 := O9.mpLook 1 rfl (S.at i) (.agg #[.int .i64 0, .int .u32 0]) true
    simp only [if_true] at m1
    have m1' : vLookup h7 none (.agg #[.int .i64 0, .int .u32 0]) true (.map (some eb)) (.int .i64 (S.at i)) = _ := m1
    have q1 := O7.get 4 rfl
    simp only [q1, gl, m1', wkF, X_seq, Y_store, Y_makeMap, Y_buildSlice, ↓reduceIte, reduceCtorEq, wkO, wkS, Nat.reduceAdd, Nat.reduceLeDiff, Nat.reduceMul, Nat.reduceLT, Nat.reduceEqDiff, wkG]
    refine Y_boxO O7 ?_
    intro b5 h10 O10 e10
    replace O10 : Has ro h10 (Ob b5 (.cells [.int .i64 0, .int .u32 0] 1 false) :: Ob l (.loop lpB) :: Ob m (.deferred true) :: Ob E (.cells [.pointer (some ⟨lb, 0, none⟩)] 1 false) :: Lg lb S :: Ob b1 (.cells [.pointer (some ⟨lb, 0, none⟩)] 1 false) :: (Rs.ex fun v : Value => Rs.star (Ob b3 (.cells [v] 1 false)) (Rv v (recl S i))) :: R) := O10
    have g10 := O10.get 0 rfl
    have p10 := O10.can 0 rfl
    clear gl m1 m1' q1 O9
    cases hk : lk S.ents (S.at i) with
    | none =>
      simp only [hk, g10, p10, z_cells, z_set, Option.getD_none, wkF, ↓reduceIte, reduceCtorEq, Nat.reduceAdd, Nat.reduceLeDiff, Nat.reduceMul, Nat.reduceLT, Nat.reduceEqDiff, wkG, wkH]
      have er : recl S (i + 1) = recl S i := by
        show recl S i ++ (match lk S.ents (S.at i) with | some e => [(S.at i, e)] | none => []) = _
        rw [hk, List.append_nil]
      rw [er]
      have O11 := O10.set 0 rfl (.cells [.int .i64 0, .int .u32 0] 1 false)
      simp only [List.set_cons_zero] at O11
      refine Is_in ⟨_, O11.drop, fun h21 lpC c1 c2 c3 O21 => ⟨rfl, ?_⟩⟩
      have c1' := c1 rfl
      subst c1'
      exact O21
    | some e =>
      have O11 := O10.set 0 rfl (.cells (ec e) 1 false)
      simp only [List.set_cons_zero] at O11
      obtain ⟨v, O12⟩ := Has.ex.1 (O11.at 6 rfl)
      replace O12 : Has ro _ (Ob b3 (.cells [v] 1 false) :: Rv v (recl S i) :: Ob b5 (.cells (ec e) 1 false) :: Ob l (.loop lpB) :: Ob m (.deferred true) :: Ob E (.cells [.pointer (some ⟨lb, 0, none⟩)] 1 false) :: Lg lb S :: Ob b1 (.cells [.pointer (some ⟨lb, 0, none⟩)] 1 false) :: R) := Has.star.1 O12
      obtain ⟨ws, hws, O13⟩ := Has.rvOpen (O12.at 1 rfl)
      replace O13 : Has ro _ (Sc 3 wc v ws :: Dts ws :: Ob b3 (.cells [v] 1 false) :: Ob b5 (.cells (ec e) 1 false) :: Ob l (.loop lpB) :: Ob m (.deferred true) :: Ob E (.cells [.pointer (some ⟨lb, 0, none⟩)] 1 false) :: Lg lb S :: Ob b1 (.cells [.pointer (some ⟨lb, 0, none⟩)] 1 false) :: R) := O13
      simp only [hk, g10, p10, Option.getD_some, ec_len, tk_ec, tk_ec1, dr_ec1, agg_ec, ev_cells, set_ec, ec_one, wkF, ↓reduceIte, reduceCtorEq, Nat.reduceAdd, Nat.reduceLeDiff, Nat.reduceMul, Nat.reduceLT, Nat.reduceEqDiff, wkG, wkH]
      generalize h10.setB b5 _ = h11 at O13 ⊢
      have g3 := O13.get 2 rfl
      have g5 := O13.get 3 rfl
      refine X_drawn _ fun an => ?_
      simp only [g3, g5, ec_len, tk_ec, tk_ec1, dr_ec1, agg_ec, ev_cells, set_ec, ec_one, wkF, ↓reduceIte, reduceCtorEq, Nat.reduceAdd, Nat.reduceLeDiff, Nat.reduceMul, Nat.reduceLT, Nat.reduceEqDiff, wkG, wkH]
      refine DF_newO (R := fun _ => True) (p := fun v => Rs.ex fun d => Rs.and (v = .agg #[.int .i64 3, .int .i64 (S.at i), dvv d]) (Dt d e)) O13 (record_e (n := n + 15) (S.at i) e (seen0_fine (fr := []) O13.fine (by intro x hx; cases hx))) ?_
      rintro v2 h14 f _ O14 e14 hf14
      obtain ⟨d, O14⟩ := Has.ex.1 O14
      obtain ⟨hv, O15⟩ := Has.and.1 O14
      subst hv
      clear O14 O13 O12 O11 O10 O7 O6 g3 g5 e14
      have bs : pBuildSlice h14 3 1 [.int .i64 0, .int .i64 0, .slice none 0 0] [(0, 3, .agg #[.int .i64 3, .int .i64 (S.at i), dvv d])] = some (.slice (some ⟨2 * h14.next, 0, none⟩) 1 1, h14.alloc (.cells (wc ⟨S.at i, e, d⟩) 3 false)) := by cases d <;> rfl
      have O16 := O15.alloc (.cells (wc ⟨S.at i, e, d⟩) 3 false)
      have hwl : ws.length ≤ i := by
        have h1 := congrArg List.length hws
        rw [List.length_map] at h1
        have := recl_len S i
        omega
      obtain ⟨wv2, h17, ap, O17⟩ := sc_appendV (bytes := 40) (by decide) wc_len wc_one (O16.at 2 rfl) (Has.one (O16.at 2 rfl) 1 rfl) (by show (ws.length + 1) * 40 ≤ roomMost; unfold roomMost; omega) (by decide)
      simp only [List.eraseIdx_cons_succ, List.eraseIdx_cons_zero] at O17
      obtain ⟨wp, wcap, hwv, _⟩ := O17.scVal 0 rfl
      subst hwv
      have g17 := O17.get 4 rfl
      have p17 := O17.can 4 rfl
      have O18 := O17.set 4 rfl (.cells [.slice wp (ws ++ [(⟨S.at i, e, d⟩ : Wr)]).length wcap] 1 false)
      simp only [List.set_cons_zero, List.set_cons_succ] at O18
      simp only [bs, ap, g17, p17, slI, wkF, ↓reduceIte, reduceCtorEq, Nat.reduceAdd, Nat.reduceLeDiff, Nat.reduceMul, Nat.reduceLT, Nat.reduceEqDiff, wkG, wkH]
      have er : recl S (i + 1) = recl S i ++ [(S.at i, e)] := by
        show recl S i ++ (match lk S.ents (S.at i) with | some e => [(S.at i, e)] | none => []) = _
        rw [hk]
      have hws2 : (ws ++ [(⟨S.at i, e, d⟩ : Wr)]).map (fun w => (w.c, w.e)) = recl S (i + 1) := by
        rw [er, List.map_append, hws]
        rfl
      have O19 := Has.dtsAdd (w := ⟨S.at i, e, d⟩) (((O18.rid 1 rfl).at 2 rfl).at 2 rfl)
      have O20 := Has.rvClose hws2 (O19.at 1 rfl)
      have O21 := (Has.ex (F := fun v : Value => Rs.star (Ob b3 (.cells [v] 1 false)) (Rv v (recl S (i + 1))))).2 ⟨_, Has.star.2 (O20.at 1 rfl)⟩
      refine Is_in ⟨_, ((O21.rid 1 rfl).at 1 rfl), fun h21 lpC c1 c2 c3 O22 => ⟨rfl, ?_⟩⟩
      have c1' := c1 rfl
      subst c1'
      exact ((((((O22.at 1 rfl).at 5 rfl).at 5 rfl).at 5 rfl).at 5 rfl).at 5 rfl)
end
theorem env43 : env 43 = some ir43 := rfl
def bx (x : Nat) : List Value := [.int .u8 (x : Int)]
theorem bx_len (x : Nat) : (bx x).length = 1 := rfl
def at8 (l : List Nat) (i : Nat) : Nat := l.getD i 0
theorem at8_get {l : List Nat} {i : Nat} (h : i < l.length) : l[i]? = some (at8 l i) := by
  unfold at8
  rw [List.getD_eq_getElem?_getD, List.getElem?_eq_getElem h]
  rfl
def gen4 (B : List Nat) : Nat → Nat
  | 0 => 0
  | k + 1 => gen4 B k * 256 + at8 B (k + 1)
def rdE (B : List Nat) : En × Bool := if B.length = 5 then (⟨if at8 B 0 = 255 then -1 else (at8 B 0 : Int), (gen4 B 4 : Int)⟩, decide ((⟨if at8 B 0 = 255 then -1 else (at8 B 0 : Int), (gen4 B 4 : Int)⟩ : En) ≠ e0)) else (⟨0, 0⟩, false)
theorem gen4_lt {B : List Nat} (h : ∀ i, at8 B i < 256) : ∀ k, gen4 B k < 256 ^ k
  | 0 => by unfold gen4; omega
  | k + 1 => by
    have h1 := gen4_lt h k
    have h2 := h (k + 1)
    show gen4 B k * 256 + at8 B (k + 1) < 256 ^ (k + 1)
    rw [Nat.pow_succ]
    have : (gen4 B k + 1) * 256 ≤ 256 ^ k * 256 := Nat.mul_le_mul_right _ h1
    omega
theorem or_byte {a b : Nat} (ha : a < 16777216) (hb : b < 256) : ibin .or (.int .u32 ((a * 256 : Nat) : Int)) (.int .u32 (b : Int)) = some (.int .u32 ((a * 256 + b : Nat) : Int)) := by
  rw [ibin_or]
  congr 2
  have e1 : BitVec.ofInt IntKind.u32.bits ((a * 256 : Nat) : Int) = BitVec.ofNat 32 (a * 256) := rfl
  have e2 : BitVec.ofInt IntKind.u32.bits (b : Int) = BitVec.ofNat 32 b := rfl
  rw [e1, e2]
  have e3 : (BitVec.ofNat 32 (a * 256) ||| BitVec.ofNat 32 b).toNat = a * 256 + b := by
    rw [BitVec.toNat_or, BitVec.toNat_ofNat, BitVec.toNat_ofNat, Nat.mod_eq_of_lt (by omega), Nat.mod_eq_of_lt (by omega)]
    have := Nat.shiftLeft_add_eq_or_of_lt (b := b) (i := 8) hb a
    rw [Nat.shiftLeft_eq] at this
    exact this.symm
  show IntKind.u32.wrap ((BitVec.ofNat 32 (a * 256) ||| BitVec.ofNat 32 b).toNat : Int) = _
  rw [e3, wrap_u32_mod]
  omega
section
variable {ro : Nat → Option (List Value × Nat)} {h : Heap} {R : List Rs} {n : Nat}
theorem rdx_h {kd nn : Int} {p : Option Addr} {B : List Nat} {c : Nat} (hn : 40 < n) (hB : ∀ i, at8 B i < 256) (V : ∀ (M : List Rs) (h : Heap), Has ro h (M ++ R) → Vw 1 bx h (.slice p B.length c) B) (O : Has ro h R) :
    (callV env (n + 6) (.func (.func 43) #[] #[]) [.agg #[.int .i64 kd, .int .i64 nn, .slice p B.length c]] h).Is fun q => q.1 = .tuple #[ev (rdE B).1, .bool (rdE B).2] ∧ Has ro q.2 R := by
  refine call_is env43 ?_
  simp only [ir43, Nat.reduceAdd, Nat.reduceSub, wkF, X_seq, Y_store, Y_makeMap, Y_buildSlice, ↓reduceIte, reduceCtorEq, wkO, wkS, wkN, wkG]
  refine Y_boxO O ?_
  intro b1 h1 O1 _
  simp only [wkF, X_seq, Y_store, Y_makeMap, Y_buildSlice, ↓reduceIte, reduceCtorEq, wkO, wkS, Nat.reduceAdd, wkG]
  refine Y_boxO O1 ?_
  intro b2 h2 O2 _
  replace O2 : Has ro h2 (Ob b2 (.cells [.int .i64 0, .int .u32 0] 1 false) :: Ob b1 (.cells [.int .i64 kd, .int .i64 nn, .slice p B.length c] 1 false) :: R) := O2
  have g1 := O2.get 1 rfl
  by_cases h5 : B.length = 5
  · have h5' : ((B.length : Int) = 5) = True := eq_true (by omega)
    obtain ⟨p', cap', e, hcap, kk⟩ := V [_, _] _ O2
    obtain ⟨b, off, sp, A1, B1, zz, t, hp, hsp, _⟩ := kk (by omega)
    have e2 : p = some ⟨b, off, sp⟩ := by injection e with e3; exact e3.trans hp
    have e3 : c = cap' := by injection e
    subst e2 e3
    have hspot : spotOk 1 ⟨b, off, sp⟩ = true := by rcases hsp with rfl | rfl <;> rfl
    have hl5 : (B.length : Int) = 5 := by omega
    have rd : ∀ (M : List Rs) (h : Heap), Has ro h (M ++ R) → ∀ j, j < 5 → readC (h.get b) (off + j) 1 = some [.int .u8 (at8 B j : Int)] := by
      intro M h' O' j hj
      obtain ⟨b', off', sp', c', hv, _, k⟩ := (V M h' O').rd bx_len (at8_get (l := B) (i := j) (by omega))
      cases hv
      rw [Nat.mul_one] at k
      exact k
    have r0 := rd [_, _] _ O2 0 (by omega)
    rw [Nat.add_zero] at r0
    have i0 : ((0 : Int) < (B.length : Int)) = True := eq_true (by omega)
    simp only [g1, h5', r0, i0, Int.toNat_zero, Nat.zero_mul, Nat.add_zero, Int.le_refl, wkF, X_seq, Y_store, Y_makeMap, Y_buildSlice, ↓reduceIte, reduceCtorEq, wkO, wkS, Nat.reduceAdd, Nat.reduceLeDiff, Nat.reduceMul, Nat.reduceLT, Nat.reduceEqDiff, wkG]
    refine Y_boxO O2 ?_
    intro b4 h4 O4 _
    replace O4 : Has ro h4 (Ob b4 (.cells [.int .i64 0, .int .u32 0] 1 false) :: Ob b2 (.cells [.int .i64 0, .int .u32 0] 1 false) :: Ob b1 (.cells [.int .i64 kd, .int .i64 nn, .slice (some ⟨b, off, sp⟩) B.length c] 1 false) :: R) := O4
    have g4 := O4.get 0 rfl
    have p4 := O4.can 0 rfl
    have g5 := O4.get 2 rfl
    have O5 := O4.set 0 rfl (.cells (ec ⟨(at8 B 0 : Int), 0⟩) 1 false)
    simp only [List.set_cons_zero] at O5
    have b0 := hB 0
    have y0 : IntKind.i64.wrap (at8 B 0 : Int) = (at8 B 0 : Int) := wrap_i64 (by omega) (by omega)
    have ce : ∀ x y : Int, cellsOf (.agg #[.int .i64 x, .int .u32 y]) = ec ⟨x, y⟩ := fun _ _ => rfl
    simp only [g4, p4, y0, ce, ec_len, tk_ec, tk_ec1, dr_ec1, agg_ec, ev_cells, set_ec, ec_one, wkF, Y_box, Y_store, Y_makeMap, Y_buildSlice, ↓reduceIte, reduceCtorEq, wkO, wkS, Nat.reduceAdd, Nat.reduceLeDiff, Nat.reduceMul, Nat.reduceLT, Nat.reduceEqDiff, wkG]
    clear g4 p4 g5
    rw [X_seq]
    generalize ho : (if at8 B 0 = 255 then -1 else (at8 B 0 : Int)) = o
    refine X_cut0 (fun s => s.tmps.length = 44 ∧ s.tmps.getD 1 undefV = .pointer (some ⟨b1, 0, none⟩) ∧ s.tmps.getD 2 undefV = .pointer (some ⟨b2, 0, none⟩) ∧ s.tmps.getD 4 undefV = .pointer (some ⟨b4, 0, none⟩) ∧ Has ro s.h (Ob b4 (.cells (ec ⟨o, 0⟩) 1 false) :: Ob b2 (.cells [.int .i64 0, .int .u32 0] 1 false) :: Ob b1 (.cells [.int .i64 kd, .int .i64 nn, .slice (some ⟨b, off, sp⟩) B.length c] 1 false) :: R)) ?_ ?_
    · have g5 := O5.get 2 rfl
      have g4 := O5.get 0 rfl
      have p4 := O5.can 0 rfl
      have r1 := rd [_, _, _] _ O5 0 (by omega)
      rw [Nat.add_zero] at r1
      by_cases h255 : at8 B 0 = 255
      · have h255' : ((at8 B 0 : Int) = 255) = True := eq_true (by omega)
        have O6 := O5.set 0 rfl (.cells (ec ⟨-1, 0⟩) 1 false)
        simp only [List.set_cons_zero] at O6
        have so : (ec ⟨(at8 B 0 : Int), 0⟩).set 0 (.int .i64 (-1)) = ec ⟨-1, 0⟩ := rfl
        simp only [g5, r1, i0, h255', g4, p4, ec_len, tk_ec, tk_ec1, dr_ec1, agg_ec, ev_cells, set_ec, ec_one, so, Int.toNat_zero, Nat.zero_mul, Nat.add_zero, Int.le_refl, wkF, ↓reduceIte, reduceCtorEq, Nat.reduceAdd, Nat.reduceLeDiff, Nat.reduceMul, Nat.reduceLT, Nat.reduceEqDiff, wkG, wkH]
        refine mid_in ⟨rfl, rfl, rfl, rfl, ?_⟩
        rw [if_pos h255] at ho
        subst ho
        exact O6
      · have h255' : ¬ (at8 B 0 : Int) = 255 := by omega
        simp only [g5, r1, i0, h255', Int.toNat_zero, Nat.zero_mul, Nat.add_zero, Int.le_refl, wkF, ↓reduceIte, reduceCtorEq, Nat.reduceAdd, Nat.reduceLeDiff, Nat.reduceMul, Nat.reduceLT, Nat.reduceEqDiff, wkG, wkH]
        refine mid_in ⟨rfl, rfl, rfl, rfl, ?_⟩
        rw [if_neg h255] at ho
        subst ho
        exact O5
    clear O1 O2 O4 O5 g1 r0 y0 kk
    rintro tm h6 ⟨hlen_, g1, g2, g4, O6⟩
    simp only at g1 g2 g4 O6
    obtain ⟨w, hg_, rfl⟩ := explode hlen_
    simp only [hg_] at g1 g2 g4
    clear hlen_ hg_
    have g61 := O6.get 2 rfl
    have vs : vSlice 1 (.slice (some ⟨b, off, sp⟩) B.length c) (some (.int .i64 1)) none none false = some (.slice (some ⟨b, off + 1, sp⟩) 4 (c - 1)) := by
      have := vSlice_l (z := 1) (lo := 1) (len := B.length) (cap := c) (k := .i64) (b := b) (off := off) (sp := sp) (by omega) hspot
      rw [h5] at this ⊢
      exact this
    simp only [kont_code, g1, g2, g4, g61, vs, wkF, ↓reduceIte, reduceCtorEq, Nat.reduceAdd, Nat.reduceLeDiff, Nat.reduceMul, Nat.reduceLT, Nat.reduceEqDiff, wkG, wkH]
    refine L_is (fun q s => ∃ i : Nat, q = 4 - i ∧ i ≤ 4 ∧ s.defers = [] ∧ s.tmps.length = 44 ∧ s.tmps.getD 1 undefV = .pointer (some ⟨b1, 0, none⟩) ∧ s.tmps.getD 2 undefV = .pointer (some ⟨b2, 0, none⟩) ∧ s.tmps.getD 4 undefV = .pointer (some ⟨b4, 0, none⟩) ∧ s.tmps.getD 26 undefV = .slice (some ⟨b, off + 1, sp⟩) 4 (c - 1) ∧ s.tmps.getD 27 undefV = .int .i64 4 ∧ s.tmps.getD 28 undefV = .int .i64 (i : Int) ∧ Has ro s.h (Ob b4 (.cells (ec ⟨o, (gen4 B i : Int)⟩) 1 false) :: Ob b2 (.cells [.int .i64 0, .int .u32 0] 1 false) :: Ob b1 (.cells [.int .i64 kd, .int .i64 nn, .slice (some ⟨b, off, sp⟩) B.length c] 1 false) :: R)) 4 ?_ (by omega) ?_
    · exact ⟨0, rfl, by omega, rfl, rfl, rfl, rfl, rfl, rfl, rfl, rfl, O6⟩
    clear O6 g61 g1 g2 g4
    rintro q tm df h7 ⟨i, hk, hi, hd, hlen_, g1, g2, g4, g26, g27, g28, O7⟩
    simp only at hd g1 g2 g4 g26 g27 g28 O7
    subst hd
    obtain ⟨w, hg_, rfl⟩ := explode hlen_
    simp only [hg_] at g1 g2 g4 g26 g27 g28
    clear hlen_ hg_
    have mm4 := O7.get 0 rfl
    have pm4 := O7.can 0 rfl
    by_cases h0 : i < 4
    · have h0' : (i : Int) < 4 := by omega
      have hi0 : (0 : Int) ≤ (i : Int) := by omega
      have h4c : (i : Int) < ((4 : Nat) : Int) := by omega
      have r1 := rd [_, _, _] _ O7 (i + 1) (by omega)
      rw [show off + (i + 1) = off + 1 + i by omega] at r1
      have gl := gen4_lt hB i
      have gl2 : gen4 B i < 16777216 := by
        have : 256 ^ i ≤ 256 ^ 3 := Nat.pow_le_pow_right (by omega) (by omega)
        have e : (256 : Nat) ^ 3 = 16777216 := by decide
        omega
      have bl := hB (i + 1)
      have yi : IntKind.i64.wrap ((i : Int) + 1) = ((i + 1 : Nat) : Int) := by rw [wrap_i64 (by omega) (by omega)]; omega
      have yc : IntKind.u32.wrap (at8 B (i + 1) : Int) = (at8 B (i + 1) : Int) := by rw [wrap_u32_mod]; omega
      have ys : ibin .shl (.int .u32 (gen4 B i : Int)) (.int .u64 8) = some (.int .u32 ((gen4 B i * 256 : Nat) : Int)) := by
        rw [ibin_shl _ _ _ _ (by omega)]
        congr 2
        have e : (2 : Int) ^ min (Int.toNat 8) IntKind.u32.bits = 256 := by decide
        rw [e, wrap_u32_mod]
        omega
      have yo := or_byte gl2 bl
      have O8 := O7.set 0 rfl (.cells (ec ⟨o, ((gen4 B i * 256 + at8 B (i + 1) : Nat) : Int)⟩) 1 false)
      simp only [List.set_cons_zero] at O8
      have so : ∀ g' : Int, (ec ⟨o, (gen4 B i : Int)⟩).set 1 (.int .u32 g') = ec ⟨o, g'⟩ := fun _ => rfl
      simp only [g1, g2, g4, g26, g27, g28, h0', hi0, h4c, r1, mm4, pm4, ec_len, tk_ec, tk_ec1, dr_ec1, agg_ec, ev_cells, set_ec, ec_one, Int.toNat_natCast, Nat.mul_one, ys, yc, yo, so, yi, wkF, X_region, X_block, X_loop, X_cond, Y_un, Y_append, ibin_shr, ibin_and, ↓reduceIte, reduceCtorEq, readN, Nat.reduceAdd, Nat.reduceLeDiff, Nat.reduceMul, layAt, Nat.reduceLT, Nat.reduceEqDiff, setParams, wkH]
      exact Is_in ⟨4 - (i + 1), by omega, i + 1, rfl, h0, rfl, rfl, rfl, rfl, rfl, rfl, rfl, rfl, O8⟩
    have h0' : ¬ (i : Int) < 4 := by omega
    have hi4 : i = 4 := by omega
    subst hi4
    simp only [g1, g2, g4, g26, g27, g28, h0', wkF, ↓reduceIte, reduceCtorEq, Nat.reduceAdd, wkG, wkH]
    refine Is_in ?_
    simp only [g1, g2, g4, g26, g27, g28, wkF, ↓reduceIte, reduceCtorEq, Nat.reduceAdd, wkG, wkH]
    have ne := O7.ne 0 1 (by omega) rfl rfl
    have i4 := O7.info (i := 0) rfl
    have i2 := O7.info (i := 1) rfl
    have hne2 : b4 / 2 ≠ b2 / 2 := by have := i4.2.1; have := i2.2.1; omega
    refine X_plan [[], [], [], [], [b2 / 2]] O7.fine ?_
    have pl4 : ∀ k, b4 / 2 ∉ ([[], [], [], [], [b2 / 2]] : List (List Nat)).getD k [] := by
      intro k hm
      match k, hm with
      | 0, hm => cases hm
      | 1, hm => cases hm
      | 2, hm => cases hm
      | 3, hm => cases hm
      | 4, hm => exact hne2 (List.mem_singleton.1 hm)
      | _ + 5, hm => cases hm
    have er : rdE B = (⟨o, (gen4 B 4 : Int)⟩, decide ((⟨o, (gen4 B 4 : Int)⟩ : En) ≠ e0)) := by
      unfold rdE
      rw [if_pos h5, ho]
    have r4 : readC (h7.get b4) 0 2 = some (ec ⟨o, (gen4 B 4 : Int)⟩) := by rw [mm4]; rfl
    refine Dp.loadFN (b := b4) (off := 0) rfl r4 (fun k _ => pl4 k) (fun x hx => by cases hx) ?_
    simp only [putDst_some, putDst_none, List.set_cons_succ, List.set_cons_zero]
    refine Dp.loadFN (b := b4) (off := 0) rfl r4 (fun k _ => pl4 k) (fun x hx => by cases hx) ?_
    simp only [putDst_some, putDst_none, List.set_cons_succ, List.set_cons_zero]
    refine Dp.callFree (R := fun p => p.1 = ev e0 ∧ Ext h7 p.2) O7.fine (T.Is.mono (fun _ _ => trivial) (first_e (n := n + 4) (seenBy_fine O7.fine (fun x hx => by cases hx)))) (first_e (n := n + 4) O7.fine) ?_
    rintro v8 h8 ⟨rfl, e8⟩
    simp only at e8
    have O8 := O7.ext e8
    simp only [putDst_some, putDst_none, List.set_cons_succ, List.set_cons_zero]
    refine Dp.eqAgg (a := ev ⟨o, (gen4 B 4 : Int)⟩) (b := ev e0) rfl rfl (eq_ev true _ _) ?_
    simp only [putDst_some, putDst_none, List.set_cons_succ, List.set_cons_zero]
    refine Dp.storeF (b := b2) (off := 0) O8 1 rfl rfl rfl (by decide) rfl (by simp) ?_ ?_ ?_
    · intro k hu hm
      match k, hu, hm with
      | 0, _, hm => cases hm
      | 1, _, hm => cases hm
      | 2, _, hm => cases hm
      | 3, _, hm => cases hm
      | 4, hu, hm => simp [unord] at hu
      | _ + 5, _, hm => cases hm
    · intro x hx
      split at hx
      · rcases List.mem_cons.1 hx with rfl | hx
        · left
          show b2 / 2 < h7.next
          have := i2.2.2.2.1
          omega
        · cases hx
      · cases hx
    · intro h9 O9 _
      simp only [List.set_cons_succ, List.set_cons_zero, putDst_some, putDst_none] at O9 ⊢
      refine Dp.move ?_
      simp only [putDst_some, putDst_none, List.set_cons_succ, List.set_cons_zero]
      refine Dp.nil ?_
      simp only [kont_code, wkF, ↓reduceIte, reduceCtorEq, Nat.reduceAdd, Nat.reduceLeDiff, Nat.reduceMul, Nat.reduceLT, Nat.reduceEqDiff, wkG, wkH]
      have hdd : (decide ((⟨o, (gen4 B 4 : Int)⟩ : En) = e0) != true) = decide ((⟨o, (gen4 B 4 : Int)⟩ : En) ≠ e0) := by
        by_cases hx : (⟨o, (gen4 B 4 : Int)⟩ : En) = e0 <;> simp [hx]
      rw [er, hdd]
      exact leafO _ (answer2 _ _ _ _ (cellN O9 1 rfl rfl rfl) rfl) ⟨rfl, O9.drop.drop.drop⟩
  · have h5' : ¬ (B.length : Int) = 5 := by omega
    have er : rdE B = (⟨0, 0⟩, false) := by unfold rdE; rw [if_neg h5]
    have g2 := O2.get 0 rfl
    have p2 := O2.can 0 rfl
    simp only [g1, h5', g2, p2, z_cells, z_set, wkF, ↓reduceIte, reduceCtorEq, Nat.reduceAdd, Nat.reduceLeDiff, Nat.reduceMul, Nat.reduceLT, Nat.reduceEqDiff, wkG, wkH]
    rw [er]
    have O3 := O2.set 0 rfl (.cells [.int .i64 0, .int .u32 0] 1 false)
    exact leafO _ (answer2 _ _ _ _ (cellN O3 0 rfl rfl rfl) rfl) ⟨rfl, O3.drop.drop⟩
end
theorem env18 : env 18 = some ir18 := rfl
structure Rq where
  kd : Int
  nn : Int
  dv : Value
  B : List Nat
def rq (x : Rq) : List Value := [.int .i64 x.kd, .int .i64 x.nn, x.dv]
theorem rq_len (x : Rq) : (rq x).length = 3 := rfl
structure OkR (ro : Nat → Option (List Value × Nat)) (R : List Rs) (x : Rq) : Prop where
  s : ∃ p c, x.dv = .slice p x.B.length c
  v : ∀ (M : List Rs) (h : Heap), Has ro h (M ++ R) → Vw 1 bx h x.dv x.B
  b : ∀ i, at8 x.B i < 256
def Ls.May (S : Ls) (x : Rq) : Prop := (rdE x.B).2 = true ∧ lk S.ents x.nn = none ∧ S.Is x.nn ∧ (rdE x.B).1.o < S.rob
instance (S : Ls) (x : Rq) : Decidable (S.May x) := by unfold Ls.May; infer_instance
def Ls.ld (S : Ls) (x : Rq) : Ls := { S with ents := upd1 S.ents x.nn (rdE x.B).1 }
def lds (S : Ls) : List Rq → Option Ls
  | [] => some S
  | x :: l => if x.kd = 3 then (if S.May x then lds (S.ld x) l else none) else lds S l
section
variable {ro : Nat → Option (List Value × Nat)} {h : Heap} {R : List Rs} {n : Nat}
theorem load_h {a b c : Int} {v : Value} {L : List Rq} (hn : L.length + 100 < n) (hL : L.length < 1000000) (V : ∀ (M : List Rs) (h : Heap), Has ro h (M ++ R) → Vw 3 rq h v L) (ok : ∀ x ∈ L, OkR ro R x) (O : Has ro h R) :
    (callV env (n + 9) (.func (.func 18) #[] #[]) [.int .i64 a, .int .i64 b, .int .i64 c, v] h).Is fun p =>
      (¬ Szs a b c ∧ p.1 = .tuple #[.pointer none, .int .i64 2] ∧ Has ro p.2 R) ∨ (Szs a b c ∧ lds (lz a b c) L = none ∧ p.1 = .tuple #[.pointer none, .int .i64 140] ∧ Has ro p.2 R) ∨
        (Szs a b c ∧ ∃ S lb, lds (lz a b c) L = some S ∧ p.1 = .tuple #[.pointer (some ⟨lb, 0, none⟩), .int .i64 0] ∧ Has ro p.2 (Lg lb S :: R)) := by
  obtain ⟨pv, cv, rfl, _⟩ := (V [] _ O).len
  refine call_is env18 ?_
  simp only [ir18, Nat.reduceAdd, Nat.reduceSub, wkF, ↓reduceIte, reduceCtorEq, wkN, wkG, wkH]
  refine Z_is (new_h (n := n + 7) a b c O) ?_
  rintro v1 h1 hv
  rcases hv with ⟨hz, rfl, O1⟩ | ⟨hz, lb, rfl, O1⟩
  · simp only [wkF, ↓reduceIte, reduceCtorEq, Nat.reduceAdd, wkG, wkH]
    exact leaf2 (Or.inl ⟨hz, rfl, O1⟩)
  simp only at O1
  simp only [wkF, ↓reduceIte, reduceCtorEq, Nat.reduceAdd, wkG, wkH]
  have Z0 : (lz a b c).rob = b := rfl
  refine L_is (fun q s => ∃ (i : Nat) (S : Ls), q = L.length - i ∧ i ≤ L.length ∧ s.defers = [] ∧ s.tmps.length = 79 ∧ s.tmps.getD 1 undefV = .int .i64 b ∧ s.tmps.getD 10 undefV = .pointer (some ⟨lb, 0, none⟩) ∧ s.tmps.getD 28 undefV = .slice pv L.length cv ∧ s.tmps.getD 29 undefV = .int .i64 (L.length : Int) ∧ s.tmps.getD 30 undefV = .int .i64 (i : Int) ∧ lds (lz a b c) L = lds S (L.drop i) ∧ S.rob = b ∧ Has ro s.h (Lg lb S :: R)) L.length ?_ (by omega) ?_
  · exact ⟨0, _, rfl, Nat.zero_le _, rfl, rfl, rfl, rfl, rfl, rfl, rfl, rfl, Z0, O1⟩
  clear O1
  rintro q tm df h2 ⟨i, S, hk, hi, hd, hlen_, g1, g10, g28, g29, g30, hf, hb, O2⟩
  simp only at hd g1 g10 g28 g29 g30 O2
  subst hd
  obtain ⟨w, hg_, rfl⟩ := explode hlen_
  simp only [hg_] at g1 g10 g28 g29 g30
  clear hlen_ hg_
  by_cases h0 : i < L.length
  · have h0' : (i : Int) < (L.length : Int) := by omega
    have hi0 : (0 : Int) ≤ (i : Int) := by omega
    have hget : L[i]? = some L[i] := List.getElem?_eq_getElem h0
    have hdr : L.drop i = L[i] :: L.drop (i + 1) := List.drop_eq_getElem_cons h0
    have okx := ok _ (List.getElem_mem h0)
    generalize L[i] = x at hget hdr okx
    rw [hdr] at hf
    obtain ⟨b1, off1, sp1, c1, hv1, _, rd1⟩ := (V [_] _ O2).rd rq_len hget
    have e1 : pv = some ⟨b1, off1, sp1⟩ := by injection hv1
    subst e1
    obtain ⟨xp, xc, hxv⟩ := okx.s
    have xone : (rq x).all oneCell = true := by unfold rq; rw [hxv]; rfl
    have xcell : cellsOf (.agg (rq x).toArray) = rq x := rfl
    have xset : setAt [Value.int .i64 0, .int .i64 0, .slice none 0 0] 0 (rq x) = rq x := rfl
    have yi : IntKind.i64.wrap ((i : Int) + 1) = ((i + 1 : Nat) : Int) := by rw [wrap_i64 (by omega) (by omega)]; omega
    simp only [g1, g10, g28, g29, g30, h0', hi0, Int.toNat_natCast, rd1, wkF, X_seq, Y_store, Y_makeMap, Y_buildSlice, ↓reduceIte, reduceCtorEq, wkO, wkS, Nat.reduceAdd, wkG]
    refine Y_boxO O2 ?_
    intro b13 h3 O3 _
    replace O3 : Has ro h3 (Ob b13 (.cells [.int .i64 0, .int .i64 0, .slice none 0 0] 1 false) :: Lg lb S :: R) := O3
    have m3 := O3.get 0 rfl
    have pm3 := O3.can 0 rfl
    have O4 := O3.set 0 rfl (.cells (rq x) 1 false)
    simp only [List.set_cons_zero] at O4
    have m4 := O4.get 0 rfl
    have tk3 : List.take 3 (rq x) = rq x := rfl
    have tk1 : List.take 1 (rq x) = [.int .i64 x.kd] := rfl
    have dr1 : List.drop 1 (rq x) = [.int .i64 x.nn, x.dv] := rfl
    by_cases hkd : x.kd = 3
    · have hkd' := eq_true hkd
      simp only [m3, pm3, xcell, xset, xone, rq_len, m4, hkd', tk3, tk1, wkF, X_seq, Y_store, Y_makeMap, Y_buildSlice, ↓reduceIte, reduceCtorEq, wkO, wkS, Nat.reduceAdd, Nat.reduceLeDiff, Nat.reduceMul, Nat.reduceLT, Nat.reduceEqDiff, wkG]
      have hnone : ¬ S.May x → lds (lz a b c) L = none := fun hm => hf.trans (by rw [lds, if_pos hkd, if_neg hm])
      have hc := rdx_h (n := n + 2) (kd := x.kd) (nn := x.nn) (p := xp) (B := x.B) (c := xc) (by omega) okx.b (fun M h O => by
        have := okx.v (M ++ [_, _]) h (by rw [List.append_assoc]; exact O)
        rw [hxv] at this
        exact this) O4
      have hag : Value.agg (rq x).toArray = .agg #[.int .i64 x.kd, .int .i64 x.nn, .slice xp x.B.length xc] := by unfold rq; rw [hxv]
      rw [← hag] at hc
      refine Z_is hc ?_
      rintro v5 h5 ⟨rfl, O5⟩
      simp only at O5
      clear hc m3 pm3 m4 O3 O2 rd1
      simp only [wkF, X_seq, Y_store, Y_makeMap, Y_buildSlice, ↓reduceIte, reduceCtorEq, wkO, wkS, Nat.reduceAdd, wkG]
      refine Y_boxO O5 ?_
      intro b14 h6 O6 _
      replace O6 : Has ro h6 (Ob b14 (.cells [.int .i64 0, .int .u32 0] 1 false) :: Ob b13 (.cells (rq x) 1 false) :: Lg lb S :: R) := O6
      have m6 := O6.get 0 rfl
      have pm6 := O6.can 0 rfl
      have O7 := O6.set 0 rfl (.cells (ec (rdE x.B).1) 1 false)
      simp only [List.set_cons_zero] at O7
      simp only [m6, pm6, ec_len, tk_ec, tk_ec1, dr_ec1, agg_ec, ev_cells, set_ec, ec_one, wkF, ↓reduceIte, reduceCtorEq, Nat.reduceAdd, Nat.reduceLeDiff, Nat.reduceMul, Nat.reduceLT, Nat.reduceEqDiff, wkG, wkH]
      clear m6 pm6 O6 O5 O4
      generalize h6.setB b14 _ = h7 at O7 ⊢
      refine X_drawn _ fun an => ?_
      obtain ⟨eb, qb, tb, O8⟩ := Has.lgOpen (O7.at 2 rfl)
      have ml := O8.get 0 rfl
      unfold lc at ml
      have mb := O7.get 1 rfl
      have m1 := O8.mpLook 1 rfl x.nn (.agg #[.int .i64 0, .int .u32 0]) true
      simp only [if_true] at m1
      have m1' : vLookup h7 none (.agg #[.int .i64 0, .int .u32 0]) true (.map (some eb)) (.int .i64 x.nn) = _ := m1
      have O9 := O7.alloc (.cells [.int .i64 0, .int .u32 0] 1 false)
      have m9 := O9.get 0 rfl
      have pm9 := O9.can 0 rfl
      generalize hlk : lk S.ents x.nn = lo at m1'
      cases lo with
      | none =>
        have O10 := O9.set 0 rfl (.cells [.int .i64 0, .int .u32 0] 1 false)
        simp only [List.set_cons_zero] at O10
        have mA := O10.get 2 rfl
        have mB := O10.get 1 rfl
        by_cases hfi : (rdE x.B).2 = true
        · simp (maxSteps := 4000000) only [ml, mb, rq_len, dr1, vLookup_seen, m1', m9, pm9, z_cells, z_set, Option.getD_none, hfi, mA, wkF, ↓reduceIte, reduceCtorEq, Nat.reduceAdd, Nat.reduceLeDiff, Nat.reduceMul, Nat.reduceLT, Nat.reduceEqDiff, wkG, wkH]
          clear ml mb m1' m9 pm9
          refine Z_is (is_h (n := n + 6) x.nn (O10.at 3 rfl)) ?_
          rintro v11 h11 ⟨rfl, rfl⟩
          by_cases hi : S.Is x.nn
          · by_cases ho : b ≤ (rdE x.B).1.o
            · simp (maxSteps := 4000000) only [hi, mB, ec_len, tk_ec, tk_ec1, dr_ec1, agg_ec, ev_cells, set_ec, ec_one, ho, wkF, ↓reduceIte, reduceCtorEq, Nat.reduceAdd, Nat.reduceLeDiff, Nat.reduceMul, Nat.reduceLT, Nat.reduceEqDiff, wkG, wkH]
              have hm : ¬ S.May x := fun m => by have := m.2.2.2; rw [hb] at this; omega
              refine Is_in ?_
              simp only [wkF, ↓reduceIte, reduceCtorEq, Nat.reduceAdd, wkG, wkH]
              exact leaf2 (Or.inr (Or.inl ⟨hz, hnone hm, rfl, O10.drop.drop.drop.drop⟩))
            · have hm : S.May x := ⟨hfi, hlk, hi, by rw [hb]; omega⟩
              obtain ⟨eb, qb, tb, O11⟩ := Has.lgOpen (O10.at 3 rfl)
              have ml := O11.get 0 rfl
              unfold lc at ml
              obtain ⟨h12, u12, O12⟩ := O11.mpUpd 1 rfl x.nn (rdE x.B).1
              simp only [List.set_cons_zero, List.set_cons_succ] at O12
              have u12' : vMapUpdate _ none (.map (some eb)) (.int .i64 x.nn) (ev (rdE x.B).1) = some h12 := u12
              simp only [hi, mB, ec_len, tk_ec, tk_ec1, dr_ec1, agg_ec, ev_cells, set_ec, ec_one, ho, wkF, ↓reduceIte, reduceCtorEq, Nat.reduceAdd, Nat.reduceLeDiff, Nat.reduceMul, Nat.reduceLT, Nat.reduceEqDiff, wkG, wkH]
              refine X_drawn _ fun an => ?_
              simp (maxSteps := 4000000) only [ml, mA, mB, ec_len, tk_ec, tk_ec1, dr_ec1, agg_ec, ev_cells, set_ec, ec_one, rq_len, dr1, D_mapUpdateB, u12', DHB_some, yi, wkF, ↓reduceIte, reduceCtorEq, Nat.reduceAdd, Nat.reduceLeDiff, Nat.reduceMul, Nat.reduceLT, Nat.reduceEqDiff, wkG, wkH]
              have hf2 : lds (lz a b c) L = lds (S.ld x) (L.drop (i + 1)) := hf.trans (by rw [lds, if_pos hkd, if_pos hm])
              have O13 := Has.lgClose (S := S.ld x) O12
              exact Is_in ⟨L.length - (i + 1), by omega, i + 1, S.ld x, rfl, h0, rfl, rfl, rfl, rfl, rfl, rfl, rfl, hf2, hb, ((O13.rid 3 rfl).rid 2 rfl).rid 1 rfl⟩
          · simp (maxSteps := 4000000) only [hi, wkF, ↓reduceIte, reduceCtorEq, Nat.reduceAdd, wkG, wkH]
            have hm : ¬ S.May x := fun m => hi m.2.2.1
            refine Is_in ?_
            simp only [wkF, ↓reduceIte, reduceCtorEq, Nat.reduceAdd, wkG, wkH]
            exact leaf2 (Or.inr (Or.inl ⟨hz, hnone hm, rfl, O10.drop.drop.drop.drop⟩))
        · have hfi' : (rdE x.B).2 = false := by simpa using hfi
          simp (maxSteps := 4000000) only [ml, mb, rq_len, dr1, vLookup_seen, m1', m9, pm9, z_cells, z_set, Option.getD_none, hfi', wkF, ↓reduceIte, reduceCtorEq, Nat.reduceAdd, Nat.reduceLeDiff, Nat.reduceMul, Nat.reduceLT, Nat.reduceEqDiff, wkG, wkH]
          have hm : ¬ S.May x := fun m => hfi m.1
          refine Is_in ?_
          simp only [wkF, ↓reduceIte, reduceCtorEq, Nat.reduceAdd, wkG, wkH]
          exact leaf2 (Or.inr (Or.inl ⟨hz, hnone hm, rfl, O10.drop.drop.drop.drop⟩))
      | some e =>
        simp (maxSteps := 4000000) only [ml, mb, rq_len, dr1, vLookup_seen, m1', m9, pm9, Option.getD_some, ec_len, tk_ec, tk_ec1, dr_ec1, agg_ec, ev_cells, set_ec, ec_one, wkF, ↓reduceIte, reduceCtorEq, Nat.reduceAdd, Nat.reduceLeDiff, Nat.reduceMul, Nat.reduceLT, Nat.reduceEqDiff, wkG, wkH]
        have hm : ¬ S.May x := fun m => by have := m.2.1; rw [hlk] at this; cases this
        refine Is_ite (fun _ => ?_) (fun _ => ?_)
        · refine Is_in ?_
          simp only [wkF, ↓reduceIte, reduceCtorEq, Nat.reduceAdd, wkG, wkH]
          exact leaf2 (Or.inr (Or.inl ⟨hz, hnone hm, rfl, (O9.set 0 rfl (.cells (ec e) 1 false)).drop.drop.drop.drop⟩))
        · refine Is_in ?_
          simp only [wkF, ↓reduceIte, reduceCtorEq, Nat.reduceAdd, wkG, wkH]
          exact leaf2 (Or.inr (Or.inl ⟨hz, hnone hm, rfl, (O9.set 0 rfl (.cells (ec e) 1 false)).drop.drop.drop.drop⟩))
    · simp only [m3, pm3, xcell, xset, xone, rq_len, m4, hkd, tk3, tk1, yi, wkF, X_seq, Y_store, Y_makeMap, Y_buildSlice, ↓reduceIte, reduceCtorEq, wkO, wkS, Nat.reduceAdd, Nat.reduceLeDiff, Nat.reduceMul, Nat.reduceLT, Nat.reduceEqDiff, wkG]
      have hf2 : lds (lz a b c) L = lds S (L.drop (i + 1)) := hf.trans (by rw [lds, if_neg hkd])
      exact Is_in ⟨L.length - (i + 1), by omega, i + 1, S, rfl, h0, rfl, rfl, rfl, rfl, rfl, rfl, rfl, hf2, hb, O4.drop⟩
  · have h0' : ¬ (i : Int) < (L.length : Int) := by omega
    simp only [g1, g10, g28, g29, g30, h0', wkF, ↓reduceIte, reduceCtorEq, Nat.reduceAdd, wkG, wkH]
    refine Is_in ?_
    simp only [g1, g10, g28, g29, g30, wkF, ↓reduceIte, reduceCtorEq, Nat.reduceAdd, wkG, wkH]
    rw [List.drop_eq_nil_of_le (by omega)] at hf
    exact leaf2 (Or.inr (Or.inr ⟨hz, S, lb, hf, rfl, O2⟩))
end
theorem env19 : env 19 = some ir19 := rfl
theorem map_flat1 : ∀ B : List Nat, B.map UInt8.ofNat = B.flatMap (fun x => [UInt8.ofNat x])
  | [] => rfl
  | x :: B => by rw [List.map_cons, List.flatMap_cons, map_flat1 B]; rfl
def strB (B : List Nat) : ByteArray := ⟨(B.map UInt8.ofNat).toArray⟩
noncomputable def vBS (h : Heap) (v : Value) : Option Value := match v with
  | .slice none _ _ => some (.string .empty)
  | .slice (some a) len _ => if len = 0 then some (.string .empty) else match readC (h.get a.block) a.off len with
    | some cs => if cs.all (fun c => match c with | .int .u8 _ => true | _ => false) then some (.string ⟨(cs.map fun c => match c with | .int _ n => UInt8.ofNat n.toNat | _ => 0).toArray⟩) else none
    | none => none
  | _ => none
section
variable {call : Caller} {fuel : Nat} {ar : Option Nat} {tm : List Value} {df : List Nat} {h : Heap} {K : List Fr} {r : List IOper} {d : Option Nat} {anc : List Nat} {bar : Bool} {an : List (List Nat)} {ix : Nat} {fr : List (Nat × Nat × Nat)}
theorem E_bytesStr (x : Opd) : (.bytesStr x : IOp).run tm h = T.ofOpt ((vBS h (x.eval tm)).map fun v => (v, h)) := by
  simp only [IOp.run, vBS]
  generalize Opd.eval tm x = v
  cases v <;> try rfl
  rename_i p n c
  cases p with
  | none => rfl
  | some a =>
    simp only [read_eq]
    by_cases h0 : n = 0
    · rw [if_pos h0, if_pos h0]; rfl
    · rw [if_neg h0, if_neg h0]
      cases readC (h.get a.block) a.off n with
      | none => rfl
      | some cs =>
        by_cases hh : (cs.all fun c => match c with | .int .u8 _ => true | _ => false) = true
        · simp only [if_pos hh]; exact if_pos hh
        · simp only [if_neg hh]; exact if_neg hh
theorem D_bytesStrF (x : Opd) : D call fuel ar an (⟨d, .bytesStr x, none, anc, false⟩ :: r) ix fr tm df h K = DO call fuel ar an (vBS (seen0 an ix fr h) (x.eval tm)) d r ix fr tm df h K := D_readF rfl (by intro f b h; cases h) (E_bytesStr x)
theorem vBS_seen (an : List (List Nat)) (i : Nat) (h : Heap) (v : Value) : vBS (seen0 an i [] h) v = vBS h v := by
  unfold vBS
  simp only [seen0_nil_get]
theorem vBS_vw {v : Value} {B : List Nat} (V : Vw 1 bx h v B) : vBS h v = some (.string (strB B)) := by
  have hf := V.firstN bx_len
  obtain ⟨p, c, e, hc⟩ := V.len
  rw [e] at hf ⊢
  unfold vBS
  cases p with
  | none =>
    have : B = [] := by
      rcases Nat.eq_zero_or_pos B.length with h0 | h0
      · exact List.eq_nil_of_length_eq_zero h0
      · obtain ⟨p', c', e', _, k⟩ := V
        rw [e] at e'
        cases e'
        obtain ⟨b, off, sp, A, B', zz, t, k1, _⟩ := k h0
        cases k1
    subst this
    rfl
  | some a =>
    rcases Nat.eq_zero_or_pos B.length with h0 | h0
    · have : B = [] := List.eq_nil_of_length_eq_zero h0
      subst this
      simp only [List.length_nil, if_true]
      rfl
    · simp only
      rw [if_neg (by omega)]
      rw [firstN_slice, if_neg (by omega), Nat.mul_one] at hf
      have hf2 : readC (h.get a.block) a.off B.length = some (B.flatMap bx) := by
        have := hf
        rw [read_eq] at this
        exact this
      rw [hf2]
      simp only
      have hall : ((B.flatMap bx).all fun c => match c with | .int .u8 _ => true | _ => false) = true := by
        rw [List.all_eq_true]
        intro c hc
        obtain ⟨x, _, hx⟩ := List.mem_flatMap.1 hc
        unfold bx at hx
        rw [List.mem_singleton] at hx
        subst hx
        rfl
      rw [if_pos hall]
      unfold strB
      simp only [List.map_flatMap, bx, List.map_cons, List.map_nil, Int.toNat_natCast]
      have e3 : B.map UInt8.ofNat = B.flatMap (fun x => [UInt8.ofNat x]) := map_flat1 B
      rw [e3]
end
theorem str_ne (s : ByteArray) : ibin .neq (.string s) (.string s) = some (.bool false) := by simp [ibin]
def rkey (x : Rq) : Int × Int × List Nat := (x.kd, x.nn, x.B)
section
variable {ro : Nat → Option (List Value × Nat)} {h : Heap} {R : List Rs} {n : Nat}
theorem samerec_h {va vb : Value} {A B : List Rq} (hn : A.length + 10 < n) (hl : A.length < 1000000) (hk : A.map rkey = B.map rkey) (Va : Vw 3 rq h va A) (Vb : Vw 3 rq h vb B) (da : ∀ x ∈ A, Vw 1 bx h x.dv x.B) (db : ∀ x ∈ B, Vw 1 bx h x.dv x.B) :
    (callV env (n + 1) (.func (.func 19) #[] #[]) [va, vb] h).Is fun p => p = (.bool true, h) := by
  have hlen : A.length = B.length := by have := congrArg List.length hk; simpa using this
  obtain ⟨pa, ca, rfl, _⟩ := Va.len
  obtain ⟨pb, cb, rfl, _⟩ := Vb.len
  refine call_is env19 ?_
  have hlen' : ((A.length : Int) = (B.length : Int)) = True := eq_true (by omega)
  simp only [ir19, Nat.reduceAdd, Nat.reduceSub, hlen', wkF, ↓reduceIte, reduceCtorEq, wkN, wkG, wkH]
  refine L_is (fun q s => ∃ i : Nat, q = A.length - i ∧ i ≤ A.length ∧ s.defers = [] ∧ s.tmps.length = 56 ∧ s.tmps.getD 0 undefV = .slice pa A.length ca ∧ s.tmps.getD 1 undefV = .slice pb B.length cb ∧ s.tmps.getD 5 undefV = .int .i64 (i : Int) ∧ s.h = h) A.length ?_ (by omega) ?_
  · exact ⟨0, rfl, Nat.zero_le _, rfl, rfl, rfl, rfl, rfl, rfl⟩
  rintro q tm df h2 ⟨i, hk', hi, hd, hlen_, g0, g1, g5, hh⟩
  simp only at hd g0 g1 g5 hh
  subst hd hh
  obtain ⟨w, hg_, rfl⟩ := explode hlen_
  simp only [hg_] at g0 g1 g5
  clear hlen_ hg_
  by_cases h0 : i < A.length
  · have h0' : (i : Int) < (A.length : Int) := by omega
    have h0b : (i : Int) < (B.length : Int) := by omega
    have hi0 : (0 : Int) ≤ (i : Int) := by omega
    have ga : A[i]? = some A[i] := List.getElem?_eq_getElem h0
    have gb : B[i]? = some B[i] := List.getElem?_eq_getElem (by omega)
    have hkk : rkey A[i] = rkey B[i] := by
      have e := congrArg (fun l : List (Int × Int × List Nat) => l[i]?) hk
      simp only [List.getElem?_map, ga, gb, Option.map_some] at e
      exact Option.some.inj e
    have va1 := vBS_vw (da _ (List.getElem_mem h0))
    have vb1 := vBS_vw (db _ (List.getElem_mem (l := B) (n := i) (by omega)))
    generalize A[i] = x at ga hkk va1
    generalize B[i] = y at gb hkk vb1
    obtain ⟨kd, nn, xd, xB⟩ := x
    obtain ⟨kd2, nn2, yd, yB⟩ := y
    simp only [rkey, Prod.mk.injEq] at hkk
    obtain ⟨rfl, rfl, rfl⟩ := hkk
    simp only at va1 vb1
    obtain ⟨b1, off1, sp1, c1, hv1, k1, _⟩ := Va.rd rq_len ga
    obtain ⟨b2, off2, sp2, c2, hv2, k2, _⟩ := Vb.rd rq_len gb
    have e1 : pa = some ⟨b1, off1, sp1⟩ := by injection hv1
    have e2 : pb = some ⟨b2, off2, sp2⟩ := by injection hv2
    subst e1 e2
    have r10 := k1 0 1 (by decide)
    have r11 := k1 1 1 (by decide)
    have r12 := k1 2 1 (by decide)
    have r20 := k2 0 1 (by decide)
    have r21 := k2 1 1 (by decide)
    have r22 := k2 2 1 (by decide)
    rw [Nat.add_zero] at r10 r20
    have q0 : ∀ (a b : Int) (v : Value) (B : List Nat), readN (rq ⟨a, b, v, B⟩) 0 1 = some [.int .i64 a] := fun _ _ _ _ => rfl
    have q1 : ∀ (a b : Int) (v : Value) (B : List Nat), readN (rq ⟨a, b, v, B⟩) 1 1 = some [.int .i64 b] := fun _ _ _ _ => rfl
    have q2 : ∀ (a b : Int) (v : Value) (B : List Nat), readN (rq ⟨a, b, v, B⟩) 2 1 = some [v] := fun _ _ _ _ => rfl
    rw [q0] at r10 r20
    rw [q1] at r11 r21
    rw [q2] at r12 r22
    have yi : IntKind.i64.wrap ((i : Int) + 1) = ((i + 1 : Nat) : Int) := by rw [wrap_i64 (by omega) (by omega)]; omega
    simp only [g0, g1, g5, h0', wkF, ↓reduceIte, reduceCtorEq, Nat.reduceAdd, wkG, wkH]
    refine X_drawn _ fun an => ?_
    simp (maxSteps := 4000000) only [g0, g1, g5, h0', h0b, hi0, Int.toNat_natCast, r10, r11, r12, r20, r21, r22, D_bytesStrF, vBS_seen, va1, vb1, str_ne, yi, wkF, ↓reduceIte, reduceCtorEq, Nat.reduceAdd, wkG, wkH]
    exact Is_in ⟨A.length - (i + 1), by omega, i + 1, rfl, h0, rfl, rfl, rfl, rfl, rfl, rfl⟩
  · have h0' : ¬ (i : Int) < (A.length : Int) := by omega
    simp only [g0, g1, g5, h0', wkF, ↓reduceIte, reduceCtorEq, Nat.reduceAdd, wkG, wkH]
    refine Is_in ?_
    simp only [g0, g1, g5, wkF, ↓reduceIte, reduceCtorEq, Nat.reduceAdd, wkG, wkH]
    exact leaf1 rfl
end
def apw (f : Int → En) : List Wr → Int → En
  | [] => f
  | w :: l => apw (fun x => if x = w.c then w.e else f x) l
structure Nv (S : Ls) : Prop where
  w : Wf S
  e : ∀ c e, lk S.ents c = some e → e ≠ e0 ∧ S.Is c ∧ -1 ≤ e.o ∧ e.o < S.rob
  q : ∀ c, ∀ x ∈ S.W c, 0 ≤ x.r ∧ x.r < S.rob
theorem nv_lz {a b c : Int} (h : Szs a b c) : Nv (lz a b c) := ⟨lz_wf h, fun c e h => (by cases h), fun c x hx => (by cases hx)⟩
theorem nv_set {S : Ls} (v : Nv S) {c : Int} {e : En} (hi : S.Is c) (hg : 0 ≤ e.g ∧ e.g ≤ 4294967295) (ho : -1 ≤ e.o ∧ e.o < S.rob) : Nv (S.set c e) := by
  refine ⟨v.w.set c e hg, fun x e' h => ?_, v.q⟩
  have h' : lk (setE S.ents c e) x = some e' := h
  unfold setE at h'
  by_cases he : e = e0
  · rw [if_pos he, lk_del] at h'
    by_cases hx : x = c
    · rw [if_pos hx] at h'; cases h'
    · rw [if_neg hx, lk_upd, if_neg hx] at h'
      exact v.e x e' h'
  · rw [if_neg he, lk_upd] at h'
    by_cases hx : x = c
    · rw [if_pos hx] at h'
      cases h'
      rw [hx]
      exact ⟨he, hi, ho⟩
    · rw [if_neg hx] at h'
      exact v.e x e' h'
theorem nv_W {S : Ls} (v : Nv S) {W : Int → List It} (hw : Wf { S with W := W }) (h : ∀ c, ∀ x ∈ W c, x ∈ S.W c) : Nv { S with W := W } := ⟨hw, v.e, fun c x hx => v.q c x (h c x hx)⟩
theorem nv_told {S : Ls} (v : Nv S) (t : List (Int × Int)) : Nv { S with told := t } := ⟨v.w.told t, v.e, v.q⟩
theorem nv_gone {S : Ls} {r : Int} {W : Int → List It} (v : Nv S) (g : Gn S r S.N W) : Nv { S with W := W } := by
  refine nv_W v (gn_wf v.w g) fun c x hx => ?_
  by_cases h1 : ∃ i, i < S.N ∧ c = S.at i
  · obtain ⟨i, hi, rfl⟩ := h1
    obtain ⟨a, hc⟩ := g.on i hi
    rcases hc with ⟨_, _, e⟩ | ⟨_, j, _, _, e⟩
    · rw [e] at hx; exact hx
    · rw [e] at hx; exact List.mem_of_mem_eraseIdx hx
  · rw [g.off c fun i hi e => h1 ⟨i, hi, e⟩] at hx
    exact hx
theorem nv_free {S S' : Ls} {o o' : Ou} {c : Int} (v : Nv S) (hi : S.Is c) (h : FreeTo S o c S' o') : Nv S' ∧ S.Same S' ∧ ∃ ws, o'.ws = o.ws ++ ws ∧ (∀ x, S'.E x = apw S.E ws x) ∧ ∀ w ∈ ws, w.c = c := by
  obtain ⟨hw, hs⟩ := free_wf v.w h
  have hg := v.w.g c
  have hr : -1 ≤ (-1 : Int) ∧ (-1 : Int) < S.rob := ⟨by omega, by have := v.w.z.r1; omega⟩
  have v1 := nv_set v (e := ⟨-1, (S.E c).g⟩) hi hg hr
  obtain ⟨d, ⟨hm, rfl, rfl⟩ | ⟨hm, hW, rfl, rfl⟩ | ⟨hm, w, rest, d2, hW, rfl, rfl⟩⟩ := h
  · refine ⟨⟨hw, v1.e, fun x y hy => ?_⟩, hs, [⟨c, ⟨-1, (S.E c).g⟩, d⟩], ?_, fun x => ?_, fun w hw => by simp at hw; rw [hw]⟩
    · have hy' : y ∈ updW S.W c [] x := hy
      unfold updW at hy'
      split at hy'
      · cases hy'
      · exact v.q x y hy'
    · rw [(denies_len _ _).1]; rfl
    · rw [E_setW, E_set]; rfl
  · exact ⟨v1, hs, [⟨c, ⟨-1, (S.E c).g⟩, d⟩], rfl, fun x => by rw [E_set]; rfl, fun w hw => by simp at hw; rw [hw]⟩
  · have hq := v.q c w (by rw [hW]; simp)
    have v2 : Nv ((S.set c ⟨-1, (S.E c).g⟩).setW c rest) := by
      refine ⟨v1.w.setW fun y => ?_, v1.e, fun x y hy => ?_⟩
      · unfold updW
        split
        · rename_i e
          rw [e]
          show _ ≤ (S.W c).length
          rw [hW]
          simp
        · exact Nat.le_refl _
      · have hy' : y ∈ updW S.W c rest x := hy
        unfold updW at hy'
        split at hy'
        · exact v.q c y (by rw [hW]; simp [hy'])
        · exact v.q x y hy'
    have v3 := nv_set v2 (c := c) (e := ⟨w.r, (S.E c).g + 1⟩) hi (by show 0 ≤ (S.E c).g + 1 ∧ (S.E c).g + 1 ≤ 4294967295; omega) ⟨by show -1 ≤ w.r; omega, hq.2⟩
    refine ⟨v3, hs, [⟨c, ⟨-1, (S.E c).g⟩, d⟩, ⟨c, ⟨w.r, (S.E c).g + 1⟩, d2⟩], ?_, fun x => ?_, fun w hw => ?_⟩
    · show (o.ws ++ [_]) ++ [_] = _
      rw [List.append_assoc]
      rfl
    · rw [E_set, E_setW, E_set]; rfl
    · simp at hw
      rcases hw with rfl | rfl <;> rfl
def Stw (S S' : Ls) (ws : List Wr) : Prop := Nv S' ∧ S.Same S' ∧ (∀ x, S'.E x = apw S.E ws x) ∧ ∀ w ∈ ws, S.Is w.c
theorem Stw.refl {S : Ls} (v : Nv S) : Stw S S [] := ⟨v, Ls.Same.refl _, fun _ => rfl, fun w hw => by cases hw⟩
theorem is_eq {S S' : Ls} (s : S.Same S') (x : Int) : S'.Is x ↔ S.Is x := by unfold Ls.Is; rw [s.1, s.2.1, s.2.2]
theorem at_is {S : Ls} (z : Sz S) {i : Nat} (hi : i < S.N) : S.Is (S.at i) := by
  refine ⟨by have := z.r1; omega, (at_pos z i).1, (lt_N z i).1 hi, ?_⟩
  rw [Int.tmod_eq_emod_of_nonneg (at_pos z i).1]
  unfold Ls.at
  rw [Int.add_mul_emod_self_right]
  exact Int.emod_eq_of_lt z.h1 z.h2
theorem stw_req {S S' : Ls} {w : It} {c e : Int} {o' : Ou} (v : Nv S) (h : ReqIs S w c e S' o') : Stw S S' o'.ws := by
  have hw := req_wf v.w h
  rcases h with ⟨_, _, rfl, rfl⟩ | ⟨_, _, _, rfl, rfl⟩ | ⟨hf, _, _, ⟨_, rfl, rfl⟩ | ⟨ho, d, rfl, rfl⟩ | ⟨h1, h2, qs', a, er, l', h3, h4, rfl, rfl⟩⟩
  · exact Stw.refl v
  · exact Stw.refl v
  · exact Stw.refl v
  · unfold Ls.grant Ou.grant
    split
    · exact Stw.refl v
    · rename_i hm
      have hg := v.w.g c
      have hr := hf.1
      refine ⟨nv_set v hf.2.1 (by show 0 ≤ (S.E c).g + 1 ∧ (S.E c).g + 1 ≤ 4294967295; omega) ⟨by show -1 ≤ w.r; have := hr.2.1; omega, hr.2.2⟩, ⟨rfl, rfl, rfl⟩, fun x => ?_, fun y hy => ?_⟩
      · rw [E_set]; rfl
      · have hy' : y ∈ [(⟨c, ⟨w.r, (S.E c).g + 1⟩, d⟩ : Wr)] := hy
        simp at hy'
        rw [hy']
        exact hf.2.1
  · have hws : (oz.waits w c (S.E c) a l').ws = [] := by unfold Ou.waits; split <;> rfl
    rw [hws]
    refine ⟨⟨hw.1, v.e, fun x y hy => ?_⟩, hw.2, fun _ => rfl, fun w hw => by cases hw⟩
    have hy' : y ∈ updW S.W c l' x := hy
    unfold updW at hy'
    split at hy'
    · have hmem : y ∈ S.W c ∨ y = w := by
        rcases h4 with ⟨_, _, _, rfl⟩ | ⟨_, _, _, _, _, rfl⟩ | ⟨_, _, _, l2, hp, _, hc, _⟩
        · exact Or.inl hy'
        · exact Or.inl hy'
        · have h1 : 0 < l'.count y := List.count_pos_iff.2 hy'
          rw [hc] at h1
          have h5 := List.count_pos_iff.1 h1
          rcases hp with ⟨_, _, rfl⟩ | ⟨i, _, _, ⟨_, rfl⟩ | ⟨_, rfl⟩⟩
          · simpa using h5
          · exact List.mem_or_eq_of_mem_set h5
          · exact Or.inl h5
      rcases hmem with hm | rfl
      · exact v.q c y hm
      · exact ⟨hf.1.2.1, hf.1.2.2⟩
    · exact v.q x y hy'
theorem stw_pla {S S' : Ls} {c r e : Int} {rv : Value} {D : Rs} (v : Nv S) (h : PlaIs S c r e S' rv D) :
    (e ≠ 0 ∧ D = Rs.emp ∧ Stw S S' []) ∨ (e = 0 ∧ ∃ d, rv = .agg (wc ⟨c, ⟨r, 1⟩, d⟩).toArray ∧ D = Dt d ⟨r, 1⟩ ∧ Stw S S' [⟨c, ⟨r, 1⟩, d⟩]) := by
  rcases h with ⟨_, rfl, rfl, _, hD⟩ | ⟨_, _, rfl, rfl, _, hD⟩ | ⟨hi, he, rfl, rfl, d, hr, hD⟩
  · exact Or.inl ⟨by omega, hD, Stw.refl v⟩
  · exact Or.inl ⟨by omega, hD, Stw.refl v⟩
  · refine Or.inr ⟨rfl, d, hr, hD, nv_set v hi.1 (by show (0 : Int) ≤ 1 ∧ (1 : Int) ≤ 4294967295; omega) ⟨by show -1 ≤ r; have := hi.2.2.1; omega, hi.2.2.2⟩, ⟨rfl, rfl, rfl⟩, fun x => by rw [E_set]; rfl, fun w hw => ?_⟩
    simp at hw
    rw [hw]
    exact hi.1
def b5 (e : En) : List Nat := [(e.o % 256).toNat, (e.g / 16777216 % 256).toNat, (e.g / 65536 % 256).toNat, (e.g / 256 % 256).toNat, (e.g % 256).toNat]
theorem fdiv_sh (g : Int) (k : Nat) : g.fdiv ((2 : Int) ^ k) = g / (2 : Int) ^ k := Int.fdiv_eq_ediv_of_nonneg _ (by exact Int.le_of_lt (Int.pow_pos (by omega)))
theorem e5_eq (e : En) : e5 e = (b5 e).flatMap bx := by
  have h1 : min (Int.toNat 24) IntKind.u32.bits = 24 := rfl
  have h2 : min (Int.toNat 16) IntKind.u32.bits = 16 := rfl
  have h3 : min (Int.toNat 8) IntKind.u32.bits = 8 := rfl
  have p1 : (2 : Int) ^ 24 = 16777216 := by decide
  have p2 : (2 : Int) ^ 16 = 65536 := by decide
  have p3 : (2 : Int) ^ 8 = 256 := by decide
  have k : ∀ x : Int, u8v x = .int .u8 ((x % 256).toNat : Int) := fun x => by
    unfold u8v
    rw [wrap_u8_mod, Int.toNat_of_nonneg (Int.emod_nonneg _ (by decide))]
  unfold e5 b5
  rw [h1, h2, h3, fdiv_sh, fdiv_sh, fdiv_sh, p1, p2, p3, k, k, k, k, k]
  rfl
theorem is_at {S : Ls} (z : Sz S) {c : Int} (h : S.Is c) : ∃ i, c = S.at i := by
  obtain ⟨h1, h2, h3, h4⟩ := h
  rw [Int.tmod_eq_emod_of_nonneg h2] at h4
  refine ⟨(c / S.rob).toNat, ?_⟩
  unfold Ls.at
  have hr := z.r1
  rw [Int.toNat_of_nonneg (Int.ediv_nonneg h2 (by omega))]
  have := Int.mul_ediv_add_emod c S.rob
  rw [Int.mul_comm] at this
  omega
end Go.Proofs.Ytmpnldmdchchjaa
