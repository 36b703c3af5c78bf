import Derived.Test.YtmpnldmdchchjaaFk
import Derived.Test.YtmpnldmdchchjaaNil
namespace Go.Proofs.Ytmpnldmdchchjaa
open Go Go.Ideal Go.ChangeShapes Go.RowKit
set_option maxHeartbeats 0
set_option linter.unusedSimpArgs false
set_option linter.unusedVariables false
set_option maxRecDepth 100000
attribute [local irreducible] callV T.All T.Is run
section
variable {S : Ls}
theorem E_set (S : Ls) (c x : Int) (e : En) : (S.set c e).E x = if x = c then e else S.E x := by
  unfold Ls.set Ls.E setE
  by_cases he : e = e0
  · simp only [he, if_true, lk_del]
    by_cases hx : x = c
    · simp [hx]
    · simp [hx, lk_upd]
  · simp only [he, if_false, lk_upd]
    by_cases hx : x = c
    · simp [hx]
    · simp [hx]
theorem E_setW (S : Ls) (c x : Int) (l : List It) : (S.setW c l).E x = S.E x := rfl
theorem W_setW (S : Ls) (c x : Int) (l : List It) : (S.setW c l).W x = if x = c then l else S.W x := rfl
theorem setW_setW (S : Ls) (c : Int) (l m : List It) : (S.setW c l).setW c m = S.setW c m := by
  unfold Ls.setW
  have : updW (updW S.W c l) c m = updW S.W c m := by
    funext x
    unfold updW
    split <;> rfl
  rw [this]
theorem setW_self (S : Ls) (c : Int) : S.setW c (S.W c) = S := by unfold Ls.setW; rw [updW_self]
theorem cut_first {l l' : List It} {a : Bool} (h0 : 0 < l.length) (hc : CutIs l (nth l 0).r a l') : l' = l.drop 1 := by
  rcases hc with ⟨_, hp, _⟩ | ⟨_, i, hp, hi, e⟩
  · rcases hp with ⟨_, hp⟩ | ⟨i, e, _⟩
    · exact absurd rfl (hp 0 h0)
    · omega
  · rcases hp with ⟨e2, _⟩ | ⟨j, e2, hj, _, hno⟩
    · omega
    · have : i = j := by omega
      subst this
      rcases Nat.eq_zero_or_pos i with hz | hz
      · subst hz
        rw [e]
        cases l with
        | nil => simp at h0
        | cons x l => rfl
      · exact absurd rfl (hno 0 hz)
end
def Ou.denies (o : Ou) (c : Int) (l : List It) : Ou := l.foldl (fun o w => o.post (dny w c (-1))) o
def FreeTo (S : Ls) (o : Ou) (c : Int) (S' : Ls) (o' : Ou) : Prop :=
  ∃ d, ((S.E c).g = 4294967295 ∧ S' = (S.set c ⟨-1, (S.E c).g⟩).setW c [] ∧ o' = (o.wr c ⟨-1, (S.E c).g⟩ d).denies c (S.W c)) ∨
    ((S.E c).g ≠ 4294967295 ∧ S.W c = [] ∧ S' = S.set c ⟨-1, (S.E c).g⟩ ∧ o' = o.wr c ⟨-1, (S.E c).g⟩ d) ∨
    ((S.E c).g ≠ 4294967295 ∧ ∃ w rest d2, S.W c = w :: rest ∧ S' = ((S.set c ⟨-1, (S.E c).g⟩).setW c rest).set c ⟨w.r, (S.E c).g + 1⟩ ∧ o' = ((o.wr c ⟨-1, (S.E c).g⟩ d).wr c ⟨w.r, (S.E c).g + 1⟩ d2).post (grt w c ((S.E c).g + 1)))
section
variable {ro : Nat → Option (List Value × Nat)} {h : Heap} {R : List Rs} {lb ob : Nat} {S : Ls} {o : Ou} {n : Nat} {c : Int}
theorem Has.lgLook (O : Has ro h (Lg lb S :: R)) : ∃ eb qb tb, h.get lb = some (.cells (lc S eb qb tb) 1 false) ∧ ∀ c : Int, vLookup h none (.pointer none) false (.map (some qb)) (.int .i64 c) = some (S.q c) := by
  obtain ⟨eb, qb, tb, O1⟩ := Has.lgOpen O
  refine ⟨eb, qb, tb, O1.get 0 rfl, fun c => ?_⟩
  have m := O1.mpLook 2 rfl c (.pointer none) false
  refine Eq.trans m ?_
  unfold Ls.q
  cases lk S.qs c <;> rfl
theorem denies_len : ∀ (l : List It) (o : Ou), (o.denies c l).ws = o.ws ∧ (o.denies c l).ps.length = o.ps.length + l.length ∧ (o.denies c l).bs.length = o.bs.length + l.length
  | [], o => ⟨rfl, rfl, rfl⟩
  | w :: l, o => by
    obtain ⟨h1, h2, h3⟩ := denies_len l (o.post (dny w c (-1)))
    refine ⟨h1, ?_, ?_⟩
    · refine h2.trans ?_
      simp [Ou.post]; omega
    · refine h3.trans ?_
      simp [Ou.post]; omega
theorem drop1_append {done l : List It} (h0 : 0 < l.length) : done ++ l = (done ++ [nth l 0]) ++ l.drop 1 := by
  cases l with
  | nil => simp at h0
  | cons x l => simp [nth]
theorem free_h (c : Int) (hn : 40 < n) (hg : 0 ≤ (S.E c).g ∧ (S.E c).g ≤ 4294967295) (hq : lk S.qs c = none → S.W c = []) (h8 : (S.W c).length ≤ 8) (ho : Sm o 900000) (O : Has ro h (Lg lb S :: Og ob o :: R)) :
    (callV env (n + 6) (.func (.func 38) #[] #[]) [.pointer (some ⟨lb, 0, none⟩), .int .i64 c, .pointer (some ⟨ob, 0, none⟩)] h).Is fun p => ∃ S' o', FreeTo S o c S' o' ∧ Has ro p.2 (Lg lb S' :: Og ob o' :: R) := by
  obtain ⟨ho1, ho2, ho3⟩ := ho
  refine call_is env38 ?_
  simp (disch := first | assumption | omega | (simp only [wkD, oneCell, Option.isSome_some, *]; done) | (simp only [wkE, ne_eq]; omega)) only [ir38, List.append_nil, List.nil_append, List.cons_append, List.length_cons, List.length_nil, Nat.reduceAdd, Nat.reduceSub, List.replicate_succ, List.replicate_zero, wkF, X_region, X_seq, X_block, X_loop, X_cond, Y_un, Y_store, Y_append, Y_makeMap, Y_buildSlice, ibin_shl, ibin_shr, ibin_and, ↓reduceIte, reduceCtorEq, oneCell, setAt, readN, Nat.reduceAdd, Nat.reduceLeDiff, Nat.reduceMul, layAt, Nat.reduceLT, Nat.reduceEqDiff, setParams, Int.reduceLT, Int.reduceLE, Int.reduceGT, Int.reduceGE, Int.reduceEq, Int.reduceNe]
  refine Z_is (entry_h (n := n + 3) c O) ?_
  rintro v h1 ⟨rfl, O1⟩
  simp only at O1
  simp (disch := first | assumption | omega | (simp only [wkD, oneCell, Option.isSome_some, *]; done) | (simp only [wkE, ne_eq]; omega)) only [ev, wkF, X_region, X_seq, X_block, X_loop, X_cond, Y_un, Y_store, Y_append, Y_makeMap, Y_buildSlice, ibin_shl, ibin_shr, ibin_and, ↓reduceIte, reduceCtorEq, oneCell, setAt, readN, Nat.reduceAdd, Nat.reduceLeDiff, Nat.reduceMul, layAt, Nat.reduceLT, Nat.reduceEqDiff, setParams, Int.reduceLT, Int.reduceLE, Int.reduceGT, Int.reduceGE, Int.reduceEq, Int.reduceNe]
  refine Z_is (set_h (n := n + 2) c ⟨-1, (S.E c).g⟩ (by omega) O1) ?_
  rintro v h2 ⟨d, O2⟩
  simp only at O2
  generalize hS1 : S.set c ⟨-1, (S.E c).g⟩ = S1 at O2
  generalize ho1' : o.wr c ⟨-1, (S.E c).g⟩ d = o1 at O2
  have hW : S1.W = S.W := by rw [← hS1]; rfl
  have hq1 : S1.qs = S.qs := by rw [← hS1]; rfl
  have hE1 : (S1.E c).g = (S.E c).g := by rw [← hS1, E_set, if_pos rfl]
  obtain ⟨eb, qb, tb, gl, lq⟩ := Has.lgLook O2
  unfold lc at gl
  simp (disch := first | assumption | omega | (simp only [wkD, oneCell, Option.isSome_some, *]; done) | (simp only [wkE, ne_eq]; omega)) only [gl, lq, wkF, X_region, X_seq, X_block, X_loop, X_cond, Y_un, Y_store, Y_append, Y_makeMap, Y_buildSlice, ibin_shl, ibin_shr, ibin_and, ↓reduceIte, reduceCtorEq, oneCell, setAt, readN, Nat.reduceAdd, Nat.reduceLeDiff, Nat.reduceMul, layAt, Nat.reduceLT, Nat.reduceEqDiff, setParams, Int.reduceLT, Int.reduceLE, Int.reduceGT, Int.reduceGE, Int.reduceEq, Int.reduceNe]
  clear gl lq
  refine Z_is (first_l (n := n + 2) c (by rw [hW, hq1]; exact hq) (by rw [hW]; exact h8) (by omega) O2) ?_
  rintro v h3 ⟨rfl, O3⟩
  simp only at O3
  simp (disch := first | assumption | omega | (simp only [wkD, oneCell, Option.isSome_some, *]; done) | (simp only [wkE, ne_eq]; omega)) only [wkF, X_region, X_seq, X_block, X_loop, X_cond, Y_un, Y_store, Y_append, Y_makeMap, Y_buildSlice, ibin_shl, ibin_shr, ibin_and, ↓reduceIte, reduceCtorEq, oneCell, setAt, readN, Nat.reduceAdd, Nat.reduceLeDiff, Nat.reduceMul, layAt, Nat.reduceLT, Nat.reduceEqDiff, setParams, Int.reduceLT, Int.reduceLE, Int.reduceGT, Int.reduceGE, Int.reduceEq, Int.reduceNe]
  refine Y_boxO O3 ?_
  intro b7 h4 O4 e4
  replace O4 : Has ro h4 (Ob b7 (.cells (ic it0) 1 false) :: Lg lb S1 :: Og ob o1 :: R) := O4
  have g4 := O4.get 0 rfl
  have p4 := O4.can 0 rfl
  have O5 := O4.set 0 rfl (.cells (ic (nth (S1.W c) 0)) 1 false)
  simp only [List.set_cons_zero] at O5
  have si : ∀ x y : It, setAt (ic x) 0 (ic y) = ic y := fun _ _ => rfl
  simp (disch := first | assumption | omega | (simp only [wkD, oneCell, Option.isSome_some, *]; done) | (simp only [wkE, ne_eq]; omega)) only [g4, p4, ic_len, tk_ic, tk_ic1, dr_ic1, dr_ic2, agg_ic, iv_cells, set_ic, ic_one, si, wkF, X_region, X_seq, X_block, X_loop, X_cond, Y_box, Y_un, Y_store, Y_append, Y_makeMap, Y_buildSlice, ibin_shl, ibin_shr, ibin_and, ↓reduceIte, reduceCtorEq, oneCell, setAt, readN, Nat.reduceAdd, Nat.reduceLeDiff, Nat.reduceMul, layAt, Nat.reduceLT, Nat.reduceEqDiff, setParams, Int.reduceLT, Int.reduceLE, Int.reduceGT, Int.reduceGE, Int.reduceEq, Int.reduceNe]
  clear g4 p4
  generalize h4.setB b7 _ = h5 at O5 ⊢
  have ho1'' : o1.ws.length < 900001 ∧ o1.ps.length < 900000 ∧ o1.bs.length < 900000 := by
    rw [← ho1']
    refine ⟨?_, ho2, ho3⟩
    show (o.ws ++ [_]).length < _
    rw [List.length_append]
    show o.ws.length + 1 < _
    omega
  refine L_is (fun q s => ∃ l bb o2, q = l.length ∧ s.defers = [] ∧ s.tmps.length = 45 ∧ s.tmps.getD 0 undefV = .pointer (some ⟨lb, 0, none⟩) ∧ s.tmps.getD 1 undefV = .int .i64 c ∧ s.tmps.getD 2 undefV = .pointer (some ⟨ob, 0, none⟩) ∧ s.tmps.getD 6 undefV = S1.q c ∧ s.tmps.getD 7 undefV = .pointer (some ⟨bb, 0, none⟩) ∧ s.tmps.getD 8 undefV = .bool (decide (0 < l.length)) ∧ Has ro s.h (Ob bb (.cells (ic (nth l 0)) 1 false) :: Lg lb (S1.setW c l) :: Og ob o2 :: R) ∧ ((S.E c).g ≠ 4294967295 → l = S.W c ∧ o2 = o1) ∧ ((S.E c).g = 4294967295 → ∃ done, S.W c = done ++ l ∧ o2 = o1.denies c done)) (S.W c).length ?_ (by omega) ?_
  · refine ⟨S1.W c, b7, o1, by rw [hW], rfl, rfl, rfl, rfl, rfl, rfl, rfl, rfl, ?_, fun _ => ⟨by rw [hW], rfl⟩, fun _ => ⟨[], by rw [hW]; rfl, rfl⟩⟩
    rw [setW_self]
    exact O5
  clear O O1 O2 O3 O4 O5 e4
  rintro q tm df h6 ⟨l, bb, o2, hk, hd, hlen_, g0, g1, g2, g6, g7, g8, O6, r1, r2⟩
  simp only at hd g0 g1 g2 g6 g7 g8 O6
  subst hd
  obtain ⟨w, hg_, rfl⟩ := explode hlen_
  simp only [hg_] at g0 g1 g2 g6 g7 g8
  clear hlen_ hg_
  have hsuf : ∃ done, S.W c = done ++ l := by
    by_cases hm : (S.E c).g = 4294967295
    · obtain ⟨done, e, _⟩ := r2 hm
      exact ⟨done, e⟩
    · exact ⟨[], (r1 hm).1.symm⟩
  have hl8 : l.length ≤ 8 := by
    obtain ⟨done, e⟩ := hsuf
    rw [e, List.length_append] at h8
    omega
  have hql : ∀ m : List It, m.length ≤ l.length → lk S1.qs c = none → m = [] := by
    intro m hm e
    obtain ⟨done, e2⟩ := hsuf
    rw [hq1] at e
    have e3 := hq e
    rw [e3] at e2
    have : l = [] := (List.append_eq_nil_iff.1 e2.symm).2
    subst this
    exact List.eq_nil_of_length_eq_zero (by simpa using hm)
  have hso : Sm o2 999998 := by
    by_cases hm : (S.E c).g = 4294967295
    · obtain ⟨done, e, rfl⟩ := r2 hm
      obtain ⟨d1, d2, d3⟩ := denies_len done o1 (c := c)
      have : done.length ≤ 8 := by rw [e, List.length_append] at h8; omega
      exact ⟨by rw [d1]; omega, by rw [d2]; omega, by rw [d3]; omega⟩
    · rw [(r1 hm).2]
      exact ⟨by omega, by omega, by omega⟩
  by_cases h0 : 0 < l.length
  · have h0d : decide (0 < l.length) = true := decide_eq_true h0
    have gb := O6.get 0 rfl
    simp (disch := first | assumption | omega | (simp only [wkD, oneCell, Option.isSome_some, *]; done) | (simp only [wkE, ne_eq]; omega)) only [g0, g1, g2, g6, g7, g8, h0d, gb, ic_len, tk_ic, tk_ic1, dr_ic1, dr_ic2, agg_ic, iv_cells, set_ic, ic_one, wkF, X_region, X_seq, X_block, X_loop, X_cond, Y_box, Y_un, Y_store, Y_append, Y_makeMap, Y_buildSlice, ibin_shl, ibin_shr, ibin_and, ↓reduceIte, reduceCtorEq, oneCell, setAt, readN, Nat.reduceAdd, Nat.reduceLeDiff, Nat.reduceMul, layAt, Nat.reduceLT, Nat.reduceEqDiff, setParams, Int.reduceLT, Int.reduceLE, Int.reduceGT, Int.reduceGE, Int.reduceEq, Int.reduceNe]
    have hw : (S1.setW c l).W c = l := by rw [W_setW, if_pos rfl]
    refine Z_is (cut_l (S := S1.setW c l) (n := n) c (nth l 0).r (by rw [hw]; exact hql l (Nat.le_refl _)) (by rw [hw]; exact hl8) hn (O6.at 1 rfl)) ?_
    rintro v h7 ⟨a, l', hv, hc, O7⟩
    simp only at hv O7
    subst hv
    rw [hw] at hc
    have hl' := cut_first h0 hc
    subst hl'
    rw [setW_setW] at O7
    have gb2 := O7.get 1 rfl
    simp (disch := first | assumption | omega | (simp only [wkD, oneCell, Option.isSome_some, *]; done) | (simp only [wkE, ne_eq]; omega)) only [gb2, ic_len, tk_ic, tk_ic1, dr_ic1, dr_ic2, agg_ic, iv_cells, set_ic, ic_one, wkF, X_region, X_seq, X_block, X_loop, X_cond, Y_box, Y_un, Y_store, Y_append, Y_makeMap, Y_buildSlice, ibin_shl, ibin_shr, ibin_and, ↓reduceIte, reduceCtorEq, oneCell, setAt, readN, Nat.reduceAdd, Nat.reduceLeDiff, Nat.reduceMul, layAt, Nat.reduceLT, Nat.reduceEqDiff, setParams, Int.reduceLT, Int.reduceLE, Int.reduceGT, Int.reduceGE, Int.reduceEq, Int.reduceNe]
    clear gb gb2 hc
    refine Z_is (grant_h (n := n) (S := S1.setW c (l.drop 1)) (o := o2) (nth l 0) c (by rw [E_setW, hE1]; exact hg) hso (O7.at 2 rfl |>.at 1 rfl)) ?_
    rintro v h8' ⟨d2, hv, O8⟩
    simp only at hv O8
    subst hv
    have hgE : ((S1.setW c (l.drop 1)).E c).g = (S.E c).g := by rw [E_setW, hE1]
    by_cases hm : (S.E c).g = 4294967295
    · have hmd : decide (((S1.setW c (l.drop 1)).E c).g ≠ 4294967295) = false := decide_eq_false (by rw [hgE]; simpa using hm)
      have e1 : (S1.setW c (l.drop 1)).grant (nth l 0) c = S1.setW c (l.drop 1) := by unfold Ls.grant; rw [if_pos (by rw [hgE]; exact hm)]
      have e2 : o2.grant (S1.setW c (l.drop 1)) (nth l 0) c d2 = o2.post (dny (nth l 0) c (-1)) := by unfold Ou.grant; rw [if_pos (by rw [hgE]; exact hm)]
      rw [e1, e2] at O8
      have g8' := O8.get 2 rfl
      simp only [ne_eq] at hmd
      simp (disch := first | assumption | omega | (simp only [wkD, oneCell, Option.isSome_some, *]; done) | (simp only [wkE, ne_eq]; omega)) only [hmd, g8', ic_len, tk_ic, tk_ic1, dr_ic1, dr_ic2, agg_ic, iv_cells, set_ic, ic_one, wkF, X_region, X_seq, X_block, X_loop, X_cond, Y_un, Y_store, Y_append, Y_makeMap, Y_buildSlice, ibin_shl, ibin_shr, ibin_and, ↓reduceIte, reduceCtorEq, oneCell, setAt, readN, Nat.reduceAdd, Nat.reduceLeDiff, Nat.reduceMul, layAt, Nat.reduceLT, Nat.reduceEqDiff, setParams, Int.reduceLT, Int.reduceLE, Int.reduceGT, Int.reduceGE, Int.reduceEq, Int.reduceNe]
      refine Y_boxO O8 ?_
      intro b9 h9 O9 e9
      replace O9 : Has ro h9 (Ob b9 (.cells (ic it0) 1 false) :: Lg lb (S1.setW c (l.drop 1)) :: Og ob (o2.post (dny (nth l 0) c (-1))) :: Ob bb (.cells (ic (nth l 0)) 1 false) :: R) := O9
      have g9 := O9.get 0 rfl
      have p9 := O9.can 0 rfl
      have O10 := O9.set 0 rfl (.cells (ic (nth l 0)) 1 false)
      simp only [List.set_cons_zero] at O10
      simp (disch := first | assumption | omega | (simp only [wkD, oneCell, Option.isSome_some, *]; done) | (simp only [wkE, ne_eq]; omega)) only [g9, p9, ic_len, tk_ic, tk_ic1, dr_ic1, dr_ic2, agg_ic, iv_cells, set_ic, ic_one, si, wkF, X_region, X_seq, X_block, X_loop, X_cond, Y_box, Y_un, Y_store, Y_append, Y_makeMap, Y_buildSlice, ibin_shl, ibin_shr, ibin_and, ↓reduceIte, reduceCtorEq, oneCell, setAt, readN, Nat.reduceAdd, Nat.reduceLeDiff, Nat.reduceMul, layAt, Nat.reduceLT, Nat.reduceEqDiff, setParams, Int.reduceLT, Int.reduceLE, Int.reduceGT, Int.reduceGE, Int.reduceEq, Int.reduceNe]
      clear g9 p9 g8'
      have hw2 : (S1.setW c (l.drop 1)).W c = l.drop 1 := by rw [W_setW, if_pos rfl]
      have hdl : (l.drop 1).length ≤ l.length := by rw [List.length_drop]; omega
      refine Z_is (first_l (S := S1.setW c (l.drop 1)) (n := n + 2) c (by rw [hw2]; exact hql _ hdl) (by rw [hw2]; omega) (by omega) (O10.at 1 rfl)) ?_
      rintro v h11 ⟨rfl, O11⟩
      simp only at O11
      rw [hw2]
      have g11 := O11.get 1 rfl
      have p11 := O11.can 1 rfl
      have O12 := O11.set 1 rfl (.cells (ic (nth (l.drop 1) 0)) 1 false)
      simp only [List.set_cons_zero, List.set_cons_succ] at O12
      simp (disch := first | assumption | omega | (simp only [wkD, oneCell, Option.isSome_some, *]; done) | (simp only [wkE, ne_eq]; omega)) only [g11, p11, ic_len, tk_ic, tk_ic1, dr_ic1, dr_ic2, agg_ic, iv_cells, set_ic, ic_one, si, wkF, X_region, X_seq, X_block, X_loop, X_cond, Y_box, Y_un, Y_store, Y_append, Y_makeMap, Y_buildSlice, ibin_shl, ibin_shr, ibin_and, ↓reduceIte, reduceCtorEq, oneCell, setAt, readN, Nat.reduceAdd, Nat.reduceLeDiff, Nat.reduceMul, layAt, Nat.reduceLT, Nat.reduceEqDiff, setParams, Int.reduceLT, Int.reduceLE, Int.reduceGT, Int.reduceGE, Int.reduceEq, Int.reduceNe]
      refine Is_in ?_
      obtain ⟨done, e, ed⟩ := r2 hm
      refine ⟨(l.drop 1).length, by rw [hk, List.length_drop]; omega, l.drop 1, b9, o2.post (dny (nth l 0) c (-1)), rfl, rfl, rfl, rfl, rfl, rfl, rfl, rfl, rfl, (O12.rid 3 rfl).swap2, fun x => absurd hm x, fun _ => ⟨done ++ [nth l 0], ?_, ?_⟩⟩
      · rw [e]
        exact drop1_append h0
      · rw [ed]
        unfold Ou.denies
        rw [List.foldl_append]
        rfl
    · have hmd : decide (((S1.setW c (l.drop 1)).E c).g ≠ 4294967295) = true := decide_eq_true (by rw [hgE]; exact hm)
      have e1 : (S1.setW c (l.drop 1)).grant (nth l 0) c = (S1.setW c (l.drop 1)).set c ⟨(nth l 0).r, (S.E c).g + 1⟩ := by unfold Ls.grant; rw [if_neg (by rw [hgE]; exact hm), hgE]
      have e2 : o2.grant (S1.setW c (l.drop 1)) (nth l 0) c d2 = (o2.wr c ⟨(nth l 0).r, (S.E c).g + 1⟩ d2).post (grt (nth l 0) c ((S.E c).g + 1)) := by unfold Ou.grant; rw [if_neg (by rw [hgE]; exact hm), hgE]
      rw [e1, e2] at O8
      simp only [ne_eq] at hmd
      simp (disch := first | assumption | omega | (simp only [wkD, oneCell, Option.isSome_some, *]; done) | (simp only [wkE, ne_eq]; omega)) only [hmd, wkF, X_region, X_seq, X_block, X_loop, X_cond, Y_box, Y_un, Y_store, Y_append, Y_makeMap, Y_buildSlice, ibin_shl, ibin_shr, ibin_and, ↓reduceIte, reduceCtorEq, oneCell, setAt, readN, Nat.reduceAdd, Nat.reduceLeDiff, Nat.reduceMul, layAt, Nat.reduceLT, Nat.reduceEqDiff, setParams, Int.reduceLT, Int.reduceLE, Int.reduceGT, Int.reduceGE, Int.reduceEq, Int.reduceNe]
      refine Is_in ?_
      simp (disch := first | assumption | omega | (simp only [wkD, oneCell, Option.isSome_some, *]; done) | (simp only [wkE, ne_eq]; omega)) only [wkF, X_region, X_seq, X_block, X_loop, X_cond, Y_box, Y_un, Y_store, Y_append, Y_makeMap, Y_buildSlice, ibin_shl, ibin_shr, ibin_and, ↓reduceIte, reduceCtorEq, oneCell, setAt, readN, Nat.reduceAdd, Nat.reduceLeDiff, Nat.reduceMul, layAt, Nat.reduceLT, Nat.reduceEqDiff, setParams, Int.reduceLT, Int.reduceLE, Int.reduceGT, Int.reduceGE, Int.reduceEq, Int.reduceNe]
      refine leaf0 ⟨_, _, ⟨d, Or.inr (Or.inr ⟨hm, nth l 0, l.drop 1, d2, ?_, ?_, ?_⟩)⟩, (O8.rid 2 rfl)⟩
      · rw [← (r1 hm).1]
        cases l with
        | nil => simp at h0
        | cons x l => rfl
      · rw [hS1]
      · rw [(r1 hm).2, ho1']
  · have h0d : decide (0 < l.length) = false := decide_eq_false h0
    simp (disch := first | assumption | omega | (simp only [wkD, oneCell, Option.isSome_some, *]; done) | (simp only [wkE, ne_eq]; omega)) only [g0, g1, g2, g6, g7, g8, h0d, wkF, X_region, X_seq, X_block, X_loop, X_cond, Y_box, Y_un, Y_store, Y_append, Y_makeMap, Y_buildSlice, ibin_shl, ibin_shr, ibin_and, ↓reduceIte, reduceCtorEq, oneCell, setAt, readN, Nat.reduceAdd, Nat.reduceLeDiff, Nat.reduceMul, layAt, Nat.reduceLT, Nat.reduceEqDiff, setParams, Int.reduceLT, Int.reduceLE, Int.reduceGT, Int.reduceGE, Int.reduceEq, Int.reduceNe]
    refine Is_in ?_
    simp (disch := first | assumption | omega | (simp only [wkD, oneCell, Option.isSome_some, *]; done) | (simp only [wkE, ne_eq]; omega)) only [wkF, X_region, X_seq, X_block, X_loop, X_cond, Y_box, Y_un, Y_store, Y_append, Y_makeMap, Y_buildSlice, ibin_shl, ibin_shr, ibin_and, ↓reduceIte, reduceCtorEq, oneCell, setAt, readN, Nat.reduceAdd, Nat.reduceLeDiff, Nat.reduceMul, layAt, Nat.reduceLT, Nat.reduceEqDiff, setParams, Int.reduceLT, Int.reduceLE, Int.reduceGT, Int.reduceGE, Int.reduceEq, Int.reduceNe]
    have hl0 : l = [] := List.eq_nil_of_length_eq_zero (by omega)
    subst hl0
    by_cases hm : (S.E c).g = 4294967295
    · obtain ⟨done, e, ed⟩ := r2 hm
      rw [List.append_nil] at e
      refine leaf0n ⟨_, _, ⟨d, Or.inl ⟨hm, rfl, rfl⟩⟩, ?_⟩
      rw [hS1, ho1', e, ← ed]
      exact O6.drop
    · refine leaf0n ⟨_, _, ⟨d, Or.inr (Or.inl ⟨hm, (r1 hm).1.symm, rfl, rfl⟩)⟩, ?_⟩
      rw [hS1, ho1', ← (r1 hm).2]
      have e3 : S1.setW c [] = S1 := by
        have := setW_self S1 c
        rw [hW, ← (r1 hm).1] at this
        exact this
      have := O6.drop
      rw [e3] at this
      exact this
end
end Go.Proofs.Ytmpnldmdchchjaa
