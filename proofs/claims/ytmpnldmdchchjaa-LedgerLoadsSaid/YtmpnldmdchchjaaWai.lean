import Derived.Test.YtmpnldmdchchjaaFk
import Derived.Test.YtmpnldmdchchjaaRel
namespace Go.Proofs.Ytmpnldmdchchjaa
open Go Go.Ideal Go.ChangeShapes Go.RowKit
set_option maxHeartbeats 0
set_option linter.unusedSimpArgs false
set_option linter.unusedVariables false
set_option maxRecDepth 100000
attribute [local irreducible] callV T.All T.Is run
theorem env41 : env 41 = some ir41 := rfl
def inh (c : Int) (e : En) (p : Int) : Po := ⟨e.o, 8, c, 0, 0, p, 0, 0, 0⟩
def rcl (c : Int) (e : En) : Po := ⟨e.o, 10, c, e.g, 0, 0, 0, 0, 0⟩
def Ou.waits (o : Ou) (w : It) (c : Int) (e : En) (a : Bool) (l' : List It) : Ou :=
  if a then ((o.post (dny w c e.o)).post (inh c e (nth l' 0).p)).post (rcl c e) else o.post (dny w c (-1))
section
variable {ro : Nat → Option (List Value × Nat)} {h : Heap} {R : List Rs} {lb ob : Nat} {S : Ls} {o : Ou} {n : Nat}
theorem Has.qrNew {b : Nat} (O : Has ro h (Ob b (.cells [.slice none 0 0] 1 false) :: R)) : Has ro h (Qr b [] :: R) :=
  Has.ex.2 ⟨.slice none 0 0, Has.star.2 (Has.slrNil (z := 3) (g := ic) O).swap2⟩
theorem Has.lgNew {c : Int} {b : Nat} {eb qb tb : Nat} (hk : lk S.qs c = none) (hw : S.W c = []) (O : Has ro h (Qr b [] :: Ob lb (.cells (lc S eb qb tb) 1 false) :: Mp K64 ev eb S.ents :: Mp K64 pq qb (upd1 S.qs c b) :: Mp K64 tv tb S.told :: Qall S.qs S.W :: R)) :
    Has ro h (Lg lb { S with qs := upd1 S.qs c b } :: R) := by
  have e : upd1 S.qs c b = S.qs ++ [(c, b)] := by unfold upd1; rw [hk]; rfl
  have O1 := Has.all.1 ((O.at 5 rfl))
  have O2 : Has ro h (Qall (S.qs ++ [(c, b)]) S.W :: Ob lb (.cells (lc S eb qb tb) 1 false) :: Mp K64 ev eb S.ents :: Mp K64 pq qb (upd1 S.qs c b) :: Mp K64 tv tb S.told :: R) := by
    refine Has.all.2 ?_
    rw [List.map_append, List.append_assoc]
    show Has ro h (_ ++ (Qr b (S.W c) :: _))
    rw [hw]
    exact O1
  rw [← e] at O2
  exact Has.lgClose (S := { S with qs := upd1 S.qs c b }) ((((O2.at 4 rfl).at 4 rfl).at 4 rfl).at 4 rfl)
theorem putis_len {l l' : List It} {x : It} {a : Bool} {e : Int} (h8 : l.length ≤ 8) (h : PutIs l x a e l') : l'.length ≤ 8 := by
  rcases h with ⟨_, _, _, rfl⟩ | ⟨_, _, _, _, _, rfl⟩ | ⟨_, _, _, l2, hp, hl, _, _⟩
  · exact h8
  · exact h8
  · rw [hl]
    rcases hp with ⟨_, h, rfl⟩ | ⟨i, _, _, ⟨_, rfl⟩ | ⟨_, rfl⟩⟩
    · rw [List.length_append]; exact h
    · rw [List.length_set]; exact h8
    · exact h8
theorem wait_h (w : It) (c : Int) (e : En) (hb : ¬ BadW w) (hn : 60 < n) (hq : lk S.qs c = none → S.W c = []) (h8 : (S.W c).length ≤ 8) (ho : Sm o 900000) (O : Has ro h (Lg lb S :: Og ob o :: R)) :
    (callV env (n + 10) (.func (.func 41) #[] #[]) [.pointer (some ⟨lb, 0, none⟩), iv w, .int .i64 c, ev e, .pointer (some ⟨ob, 0, none⟩)] h).Is fun p => ∃ qs' a er l', (∀ x, lk qs' x = none → lk S.qs x = none ∧ x ≠ c) ∧ PutIs (S.W c) w a er l' ∧ Has ro p.2 (Lg lb { S with qs := qs', W := updW S.W c l' } :: Og ob (o.waits w c e a l') :: R) := by
  obtain ⟨ho1, ho2, ho3⟩ := ho
  refine call_is env41 ?_
  simp (disch := first | assumption | omega | (simp only [wkD, oneCell, Option.isSome_some, *]; done) | (simp only [wkE, ne_eq]; omega)) only [ir41, List.append_nil, List.nil_append, List.cons_append, List.length_cons, List.length_nil, Nat.reduceAdd, Nat.reduceSub, List.replicate_succ, List.replicate_zero, wkF, X_region, X_seq, X_block, X_loop, X_cond, Y_un, Y_store, Y_append, Y_makeMap, Y_buildSlice, ibin_shl, ibin_shr, ibin_and, ↓reduceIte, reduceCtorEq, oneCell, setAt, readN, Nat.reduceAdd, Nat.reduceLeDiff, Nat.reduceMul, layAt, Nat.reduceLT, Nat.reduceEqDiff, setParams, Int.reduceLT, Int.reduceLE, Int.reduceGT, Int.reduceGE, Int.reduceEq, Int.reduceNe]
  refine Y_boxO O ?_
  intro b6 h1 O1 e1
  simp (disch := first | assumption | omega | (simp only [wkD, oneCell, Option.isSome_some, *]; done) | (simp only [wkE, ne_eq]; omega)) only [wkF, X_region, X_seq, X_block, X_loop, X_cond, Y_un, Y_store, Y_append, Y_makeMap, Y_buildSlice, ibin_shl, ibin_shr, ibin_and, ↓reduceIte, reduceCtorEq, oneCell, setAt, readN, Nat.reduceAdd, Nat.reduceLeDiff, Nat.reduceMul, layAt, Nat.reduceLT, Nat.reduceEqDiff, setParams, Int.reduceLT, Int.reduceLE, Int.reduceGT, Int.reduceGE, Int.reduceEq, Int.reduceNe]
  refine Y_boxO O1 ?_
  intro b8 h2 O2 e2
  replace O2 : Has ro h2 (Ob b8 (.cells (ec e) 1 false) :: Ob b6 (.cells (ic w) 1 false) :: Lg lb S :: Og ob o :: R) := O2
  replace O2 : Has ro h2 (Lg lb S :: Ob b8 (.cells (ec e) 1 false) :: Ob b6 (.cells (ic w) 1 false) :: Og ob o :: R) := O2.at 2 rfl
  clear O O1 e1 e2
  obtain ⟨eb, qb, tb, gl, lq⟩ := Has.lgLook O2
  unfold lc at gl
  have lq' := lq c
  simp (disch := first | assumption | omega | (simp only [wkD, oneCell, Option.isSome_some, *]; done) | (simp only [wkE, ne_eq]; omega)) only [wkF, X_region, X_block, X_loop, X_cond, Y_un, Y_store, Y_append, Y_makeMap, Y_buildSlice, ibin_shl, ibin_shr, ibin_and, ↓reduceIte, reduceCtorEq, oneCell, setAt, readN, Nat.reduceAdd, Nat.reduceLeDiff, Nat.reduceMul, layAt, Nat.reduceLT, Nat.reduceEqDiff, setParams, Int.reduceLT, Int.reduceLE, Int.reduceGT, Int.reduceGE, Int.reduceEq, Int.reduceNe]
  rw [X_seq]
  simp (disch := first | assumption | omega | (simp only [wkD, oneCell, Option.isSome_some, *]; done) | (simp only [wkE, ne_eq]; omega)) only [gl, lq', wkF, X_region, X_block, X_loop, X_cond, Y_un, Y_store, Y_append, Y_makeMap, Y_buildSlice, ibin_shl, ibin_shr, ibin_and, ↓reduceIte, reduceCtorEq, oneCell, setAt, readN, Nat.reduceAdd, Nat.reduceLeDiff, Nat.reduceMul, layAt, Nat.reduceLT, Nat.reduceEqDiff, setParams, Int.reduceLT, Int.reduceLE, Int.reduceGT, Int.reduceGE, Int.reduceEq, Int.reduceNe]
  rw [X_seq]
  refine X_cut0 (fun s => ∃ b qs', s.tmps.length = 78 ∧ s.tmps.getD 0 undefV = .pointer (some ⟨lb, 0, none⟩) ∧ s.tmps.getD 2 undefV = .int .i64 c ∧ s.tmps.getD 4 undefV = .pointer (some ⟨ob, 0, none⟩) ∧ s.tmps.getD 6 undefV = .pointer (some ⟨b6, 0, none⟩) ∧ s.tmps.getD 8 undefV = .pointer (some ⟨b8, 0, none⟩) ∧ s.tmps.getD 10 undefV = pq b ∧ lk qs' c = some b ∧ (∀ x, lk qs' x = none → lk S.qs x = none ∧ x ≠ c) ∧ Has ro s.h (Lg lb { S with qs := qs' } :: Ob b8 (.cells (ec e) 1 false) :: Ob b6 (.cells (ic w) 1 false) :: Og ob o :: R)) ?_ ?_
  · clear lq'
    cases hk : lk S.qs c with
    | some b =>
      have hs : S.q c = pq b := by unfold Ls.q; rw [hk]
      have hp : vEqPtr false (pq b) (.pointer none) = some (.bool false) := rfl
      simp (disch := first | assumption | omega | (simp only [wkD, oneCell, Option.isSome_some, *]; done) | (simp only [wkE, ne_eq]; omega)) only [hs, hp, wkF, X_region, X_seq, X_block, X_loop, X_cond, Y_box, Y_un, Y_store, Y_append, Y_makeMap, Y_buildSlice, ibin_shl, ibin_shr, ibin_and, ↓reduceIte, reduceCtorEq, oneCell, setAt, readN, Nat.reduceAdd, Nat.reduceLeDiff, Nat.reduceMul, layAt, Nat.reduceLT, Nat.reduceEqDiff, setParams, Int.reduceLT, Int.reduceLE, Int.reduceGT, Int.reduceGE, Int.reduceEq, Int.reduceNe]
      refine mid_in ⟨b, S.qs, rfl, rfl, rfl, rfl, rfl, rfl, rfl, hk, fun x hx => ⟨hx, ?_⟩, O2⟩
      rintro rfl
      rw [hk] at hx
      cases hx
    | none =>
      have hs : S.q c = .pointer none := by unfold Ls.q; rw [hk]
      simp (disch := first | assumption | omega | (simp only [wkD, oneCell, Option.isSome_some, *]; done) | (simp only [wkE, ne_eq]; omega)) only [hs, vEqPtr_none, Bool.not_false, wkF, X_region, X_seq, X_block, X_loop, X_cond, Y_un, Y_store, Y_append, Y_makeMap, Y_buildSlice, ibin_shl, ibin_shr, ibin_and, ↓reduceIte, reduceCtorEq, oneCell, setAt, readN, Nat.reduceAdd, Nat.reduceLeDiff, Nat.reduceMul, layAt, Nat.reduceLT, Nat.reduceEqDiff, setParams, Int.reduceLT, Int.reduceLE, Int.reduceGT, Int.reduceGE, Int.reduceEq, Int.reduceNe]
      refine Y_boxO O2 ?_
      intro b h3 O3 e3
      replace O3 : Has ro h3 (Ob b (.cells [.slice none 0 0] 1 false) :: Lg lb S :: Ob b8 (.cells (ec e) 1 false) :: Ob b6 (.cells (ic w) 1 false) :: Og ob o :: R) := O3
      have O4 := (Has.qrNew O3).swap2
      clear gl lq
      obtain ⟨eb, qb, tb, O5⟩ := Has.lgOpen O4
      have g5 := O5.get 0 rfl
      unfold lc at g5
      obtain ⟨h6, u6, O6⟩ := O5.mpUpd 2 rfl c b
      simp only [List.set_cons_zero, List.set_cons_succ] at O6
      have u6' : vMapUpdate h3 none (.map (some qb)) (.int .i64 c) (.pointer (some ⟨b, 0, none⟩)) = some h6 := u6
      simp (disch := first | assumption | omega | (simp only [wkD, oneCell, Option.isSome_some, *]; done) | (simp only [wkE, ne_eq]; omega)) only [g5, u6', wkF, X_region, X_seq, X_block, X_loop, X_cond, Y_box, Y_un, Y_store, Y_append, Y_makeMap, Y_buildSlice, ibin_shl, ibin_shr, ibin_and, ↓reduceIte, reduceCtorEq, oneCell, setAt, readN, Nat.reduceAdd, Nat.reduceLeDiff, Nat.reduceMul, layAt, Nat.reduceLT, Nat.reduceEqDiff, setParams, Int.reduceLT, Int.reduceLE, Int.reduceGT, Int.reduceGE, Int.reduceEq, Int.reduceNe]
      refine mid_in ⟨b, upd1 S.qs c b, rfl, rfl, rfl, rfl, rfl, rfl, rfl, by rw [lk_upd, if_pos rfl], fun x hx => ?_, Has.lgNew hk (hq hk) (O6.at 5 rfl)⟩
      rw [lk_upd] at hx
      by_cases e : x = c
      · rw [if_pos e] at hx
        cases hx
      · rw [if_neg e] at hx
        exact ⟨hx, e⟩
  clear gl lq lq' O2 h2 eb qb tb
  rintro tm h2 ⟨b, qs', hlen_, g0, g2, g4, g6, g8, g10, hk, hqs, O2⟩
  simp only at g0 g2 g4 g6 g8 g10 O2
  obtain ⟨w', hg_, rfl⟩ := explode hlen_
  simp only [hg_] at g0 g2 g4 g6 g8 g10
  clear hlen_ hg_
  generalize hS1 : ({ S with qs := qs' } : Ls) = S1 at O2
  have hk1 : lk S1.qs c = some b := by rw [← hS1]; exact hk
  have hW1 : S1.W = S.W := by rw [← hS1]
  have q2 := O2.get 2 rfl
  simp (disch := first | assumption | omega | (simp only [wkD, oneCell, Option.isSome_some, *]; done) | (simp only [wkE, ne_eq]; omega)) only [kont_code, wkF, X_region, X_block, X_loop, X_cond, Y_un, Y_store, Y_append, Y_makeMap, Y_buildSlice, ibin_shl, ibin_shr, ibin_and, ↓reduceIte, reduceCtorEq, oneCell, setAt, readN, Nat.reduceAdd, Nat.reduceLeDiff, Nat.reduceMul, layAt, Nat.reduceLT, Nat.reduceEqDiff, setParams, Int.reduceLT, Int.reduceLE, Int.reduceGT, Int.reduceGE, Int.reduceEq, Int.reduceNe]
  rw [X_seq]
  simp (disch := first | assumption | omega | (simp only [wkD, oneCell, Option.isSome_some, *]; done) | (simp only [wkE, ne_eq]; omega)) only [g0, g2, g4, g6, g8, g10, q2, ic_len, tk_ic, tk_ic1, dr_ic1, dr_ic2, agg_ic, iv_cells, set_ic, ic_one, wkF, X_region, X_block, X_loop, X_cond, Y_un, Y_store, Y_append, Y_makeMap, Y_buildSlice, ibin_shl, ibin_shr, ibin_and, ↓reduceIte, reduceCtorEq, oneCell, setAt, readN, Nat.reduceAdd, Nat.reduceLeDiff, Nat.reduceMul, layAt, Nat.reduceLT, Nat.reduceEqDiff, setParams, Int.reduceLT, Int.reduceLE, Int.reduceGT, Int.reduceGE, Int.reduceEq, Int.reduceNe]
  refine Y_boxO O2 ?_
  intro b11 h3 O3 e3
  replace O3 : Has ro h3 (Ob b11 (.cells [.int .i64 0, .int .i64 0, .int .u32 0, .int .u64 0, .int .i64 0, .int .i64 0, .int .i64 0, .int .i64 0, .slice none 0 0] 1 false) :: Lg lb S1 :: Ob b8 (.cells (ec e) 1 false) :: Ob b6 (.cells (ic w) 1 false) :: Og ob o :: R) := O3
  have g3 := O3.get 0 rfl
  have p3 := O3.can 0 rfl
  have O4 := O3.set 0 rfl (.cells [.int .i64 5, .int .i64 c, .int .u32 0, .int .u64 w.s, .int .i64 0, .int .i64 0, .int .i64 0, .int .i64 (-1), .slice none 0 0] 1 false)
  simp only [List.set_cons_zero] at O4
  have g4 := O4.get 3 rfl
  simp (disch := first | assumption | omega | (simp only [wkD, oneCell, Option.isSome_some, *]; done) | (simp only [wkE, ne_eq]; omega)) only [g3, p3, g4, ic_len, tk_ic, tk_ic1, dr_ic1, dr_ic2, agg_ic, iv_cells, set_ic, ic_one, wkF, X_region, X_seq, X_block, X_loop, X_cond, Y_box, Y_un, Y_store, Y_append, Y_makeMap, Y_buildSlice, ibin_shl, ibin_shr, ibin_and, ↓reduceIte, reduceCtorEq, oneCell, setAt, readN, Nat.reduceAdd, Nat.reduceLeDiff, Nat.reduceMul, layAt, Nat.reduceLT, Nat.reduceEqDiff, setParams, Int.reduceLT, Int.reduceLE, Int.reduceGT, Int.reduceGE, Int.reduceEq, Int.reduceNe]
  clear g3 p3 g4 q2
  obtain ⟨L, O5, k⟩ := Has.lgQ hk1 (O4.at 1 rfl)
  rw [hW1] at O5
  refine Z_is (put_h (n := n) (by omega) h8 O5 w) ?_
  rintro v h6 ⟨a, er, l', rfl, hpt, O6⟩
  simp only at O6
  replace O6 := k _ _ _ O6
  replace O6 : Has ro h6 (Lg lb (S1.setW c l') :: Ob b11 (.cells [.int .i64 5, .int .i64 c, .int .u32 0, .int .u64 w.s, .int .i64 0, .int .i64 0, .int .i64 0, .int .i64 (-1), .slice none 0 0] 1 false) :: Ob b8 (.cells (ec e) 1 false) :: Ob b6 (.cells (ic w) 1 false) :: Og ob o :: R) := O6
  clear k O5 O4 O3 e3 O2 L
  have hS2 : S1.setW c l' = { S with qs := qs', W := updW S.W c l' } := by rw [← hS1]; rfl
  have g6 := O6.get 1 rfl
  have g7 := O6.get 3 rfl
  have g8 := O6.get 2 rfl
  cases a with
  | false =>
    simp (disch := first | assumption | omega | (simp only [wkD, oneCell, Option.isSome_some, *]; done) | (simp only [wkE, ne_eq]; omega)) only [g6, g7, ic_len, tk_ic, tk_ic1, dr_ic1, dr_ic2, agg_ic, iv_cells, set_ic, ic_one, wkF, X_region, X_seq, X_block, X_loop, X_cond, Y_box, Y_un, Y_store, Y_append, Y_makeMap, Y_buildSlice, ibin_shl, ibin_shr, ibin_and, ↓reduceIte, reduceCtorEq, oneCell, setAt, readN, Nat.reduceAdd, Nat.reduceLeDiff, Nat.reduceMul, layAt, Nat.reduceLT, Nat.reduceEqDiff, setParams, Int.reduceLT, Int.reduceLE, Int.reduceGT, Int.reduceGE, Int.reduceEq, Int.reduceNe]
    refine Z_is (post_h (n := n + 8) (o := o) (dny w c (-1)) (by omega) (by omega) (O6.at 4 rfl)) ?_
    rintro v h9 O9
    simp (disch := first | assumption | omega | (simp only [wkD, oneCell, Option.isSome_some, *]; done) | (simp only [wkE, ne_eq]; omega)) only [wkF, X_region, X_seq, X_block, X_loop, X_cond, Y_box, Y_un, Y_store, Y_append, Y_makeMap, Y_buildSlice, ibin_shl, ibin_shr, ibin_and, ↓reduceIte, reduceCtorEq, oneCell, setAt, readN, Nat.reduceAdd, Nat.reduceLeDiff, Nat.reduceMul, layAt, Nat.reduceLT, Nat.reduceEqDiff, setParams, Int.reduceLT, Int.reduceLE, Int.reduceGT, Int.reduceGE, Int.reduceEq, Int.reduceNe]
    refine leaf0 ⟨qs', false, er, l', hqs, hpt, ?_⟩
    rw [← hS2]
    exact ((((O9.rid 4 rfl).rid 3 rfl).rid 2 rfl).swap2)
  | true =>
    have p6 := O6.can 1 rfl
    have O7 := O6.set 1 rfl (.cells [.int .i64 5, .int .i64 c, .int .u32 0, .int .u64 w.s, .int .i64 0, .int .i64 0, .int .i64 0, .int .i64 e.o, .slice none 0 0] 1 false)
    simp only [List.set_cons_zero, List.set_cons_succ] at O7
    have g9 := O7.get 1 rfl
    have g10 := O7.get 3 rfl
    simp (disch := first | assumption | omega | (simp only [wkD, oneCell, Option.isSome_some, *]; done) | (simp only [wkE, ne_eq]; omega)) only [g6, g7, g8, p6, ic_len, tk_ic, tk_ic1, dr_ic1, dr_ic2, agg_ic, iv_cells, set_ic, ic_one, ec_len, tk_ec, tk_ec1, dr_ec1, agg_ec, ev_cells, set_ec, ec_one, g9, g10, wkF, X_region, X_seq, X_block, X_loop, X_cond, Y_box, Y_un, Y_store, Y_append, Y_makeMap, Y_buildSlice, ibin_shl, ibin_shr, ibin_and, ↓reduceIte, reduceCtorEq, oneCell, setAt, readN, Nat.reduceAdd, Nat.reduceLeDiff, Nat.reduceMul, layAt, Nat.reduceLT, Nat.reduceEqDiff, setParams, Int.reduceLT, Int.reduceLE, Int.reduceGT, Int.reduceGE, Int.reduceEq, Int.reduceNe]
    refine Z_is (post_h (n := n + 8) (o := o) (dny w c e.o) (by omega) (by omega) (O7.at 4 rfl)) ?_
    rintro v h11 O11
    simp only at O11
    have hl8 := putis_len h8 hpt
    have hw2 : (S1.setW c l').W c = l' := by rw [W_setW, if_pos rfl]
    have hq2 : (S1.setW c l').q c = pq b := by unfold Ls.q; show (match lk S1.qs c with | some b => pq b | none => .pointer none) = _; rw [hk1]
    have hno : lk (S1.setW c l').qs c = none → (S1.setW c l').W c = [] := by
      intro x
      have : lk S1.qs c = none := x
      rw [hk1] at this
      cases this
    have hf := first_l (S := S1.setW c l') (n := n + 6) c hno (by rw [hw2]; exact hl8) (by omega) (O11.at 1 rfl)
    rw [hq2, hw2] at hf
    clear g6 g7 g8 p6 g9 g10
    simp (disch := first | assumption | omega | (simp only [wkD, oneCell, Option.isSome_some, *]; done) | (simp only [wkE, ne_eq]; omega)) only [wkF, X_region, X_seq, X_block, X_loop, X_cond, Y_un, Y_store, Y_append, Y_makeMap, Y_buildSlice, ibin_shl, ibin_shr, ibin_and, ↓reduceIte, reduceCtorEq, oneCell, setAt, readN, Nat.reduceAdd, Nat.reduceLeDiff, Nat.reduceMul, layAt, Nat.reduceLT, Nat.reduceEqDiff, setParams, Int.reduceLT, Int.reduceLE, Int.reduceGT, Int.reduceGE, Int.reduceEq, Int.reduceNe]
    refine Z_is hf ?_
    rintro v h12 ⟨rfl, O12⟩
    simp only at O12
    simp (disch := first | assumption | omega | (simp only [wkD, oneCell, Option.isSome_some, *]; done) | (simp only [wkE, ne_eq]; omega)) only [wkF, X_region, X_seq, X_block, X_loop, X_cond, Y_un, Y_store, Y_append, Y_makeMap, Y_buildSlice, ibin_shl, ibin_shr, ibin_and, ↓reduceIte, reduceCtorEq, oneCell, setAt, readN, Nat.reduceAdd, Nat.reduceLeDiff, Nat.reduceMul, layAt, Nat.reduceLT, Nat.reduceEqDiff, setParams, Int.reduceLT, Int.reduceLE, Int.reduceGT, Int.reduceGE, Int.reduceEq, Int.reduceNe]
    refine Y_boxO O12 ?_
    intro b14 h13 O13 e13
    replace O13 : Has ro h13 (Ob b14 (.cells (ic it0) 1 false) :: Lg lb (S1.setW c l') :: Og ob (o.post (dny w c e.o)) :: Ob b11 (.cells [.int .i64 5, .int .i64 c, .int .u32 0, .int .u64 w.s, .int .i64 0, .int .i64 0, .int .i64 0, .int .i64 e.o, .slice none 0 0] 1 false) :: Ob b8 (.cells (ec e) 1 false) :: Ob b6 (.cells (ic w) 1 false) :: R) := O13
    have g13 := O13.get 0 rfl
    have p13 := O13.can 0 rfl
    have O14 := O13.set 0 rfl (.cells (ic (nth l' 0)) 1 false)
    simp only [List.set_cons_zero] at O14
    have g14 := O14.get 4 rfl
    have g15 := O14.get 0 rfl
    have si : ∀ x y : It, setAt (ic x) 0 (ic y) = ic y := fun _ _ => rfl
    simp (disch := first | assumption | omega | (simp only [wkD, oneCell, Option.isSome_some, *]; done) | (simp only [wkE, ne_eq]; omega)) only [g13, p13, ic_len, tk_ic, tk_ic1, dr_ic1, dr_ic2, agg_ic, iv_cells, set_ic, ic_one, si, ec_len, tk_ec, tk_ec1, dr_ec1, agg_ec, ev_cells, set_ec, ec_one, g14, g15, wkF, X_region, X_seq, X_block, X_loop, X_cond, Y_box, Y_un, Y_store, Y_append, Y_makeMap, Y_buildSlice, ibin_shl, ibin_shr, ibin_and, ↓reduceIte, reduceCtorEq, oneCell, setAt, readN, Nat.reduceAdd, Nat.reduceLeDiff, Nat.reduceMul, layAt, Nat.reduceLT, Nat.reduceEqDiff, setParams, Int.reduceLT, Int.reduceLE, Int.reduceGT, Int.reduceGE, Int.reduceEq, Int.reduceNe]
    refine Z_is (post_h (n := n + 8) (o := o.post (dny w c e.o)) (inh c e (nth l' 0).p) (by simp only [Ou.post, List.length_append, List.length_cons, List.length_nil]; omega) (by simp only [Ou.post, List.length_append, List.length_cons, List.length_nil]; omega) (O14.at 2 rfl)) ?_
    rintro v h16 O16
    simp only at O16
    have g16 := O16.get 4 rfl
    simp (disch := first | assumption | omega | (simp only [wkD, oneCell, Option.isSome_some, *]; done) | (simp only [wkE, ne_eq]; omega)) only [ec_len, tk_ec, tk_ec1, dr_ec1, agg_ec, ev_cells, set_ec, ec_one, g16, wkF, X_region, X_seq, X_block, X_loop, X_cond, Y_box, Y_un, Y_store, Y_append, Y_makeMap, Y_buildSlice, ibin_shl, ibin_shr, ibin_and, ↓reduceIte, reduceCtorEq, oneCell, setAt, readN, Nat.reduceAdd, Nat.reduceLeDiff, Nat.reduceMul, layAt, Nat.reduceLT, Nat.reduceEqDiff, setParams, Int.reduceLT, Int.reduceLE, Int.reduceGT, Int.reduceGE, Int.reduceEq, Int.reduceNe]
    refine Z_is (post_h (n := n + 8) (o := (o.post (dny w c e.o)).post (inh c e (nth l' 0).p)) (rcl c e) (by simp only [Ou.post, List.length_append, List.length_cons, List.length_nil]; omega) (by simp only [Ou.post, List.length_append, List.length_cons, List.length_nil]; omega) O16) ?_
    rintro v h17 O17
    simp only at O17
    simp (disch := first | assumption | omega | (simp only [wkD, oneCell, Option.isSome_some, *]; done) | (simp only [wkE, ne_eq]; omega)) only [wkF, X_region, X_seq, X_block, X_loop, X_cond, Y_box, Y_un, Y_store, Y_append, Y_makeMap, Y_buildSlice, ibin_shl, ibin_shr, ibin_and, ↓reduceIte, reduceCtorEq, oneCell, setAt, readN, Nat.reduceAdd, Nat.reduceLeDiff, Nat.reduceMul, layAt, Nat.reduceLT, Nat.reduceEqDiff, setParams, Int.reduceLT, Int.reduceLE, Int.reduceGT, Int.reduceGE, Int.reduceEq, Int.reduceNe]
    refine leaf0n ⟨qs', true, er, l', hqs, hpt, ?_⟩
    rw [← hS2]
    exact (((((O17.rid 5 rfl).rid 4 rfl).rid 3 rfl).rid 1 rfl).swap2)
end
end Go.Proofs.Ytmpnldmdchchjaa
