/-
  The pile's least items, popped one after another by a loop over a function.
-/
import Derived.Test.YtafaefeekilclaaFk
import Derived.Test.YtafaefeekilclaaPb
namespace Go.Proofs.Ytafaefeekilclaa
open Go Go.Ideal Go.ChangeShapes Go.RowKit
set_option maxHeartbeats 0
set_option linter.unusedSimpArgs false
set_option linter.unusedVariables false
set_option maxRecDepth 100000
attribute [local irreducible] callV T.All T.Is run
theorem set_ic' (a b c : Value) (x : It) : setAt [a, b, c] 0 (ic x) = ic x := rfl

theorem slI' (p : Option Addr) (a b : Nat) : cellsOf (.slice p a b) = [.slice p a b] := rfl
/-- The loop's body. -/
def lAsg : ICode := .region [
     ⟨(some 6), .box (.const (.agg #[(.int .i64 0), (.int .i64 0), (.int .i64 0)])), none, [], true⟩,
     ⟨none, .store 3 (.tmp 6) (.tmp 11), none, [], true⟩]
def lBody : ICode := .block 1 (.seq (.region [
     ⟨(some 12), .load none (.tmp 5), none, [], true⟩,
     ⟨(some 13), .load (some 3) (.tmp 6), none, [], true⟩,
     ⟨(some 14), .buildSlice 3 1 [(.int .i64 0), (.int .i64 0), (.int .i64 0)] [(0, (.tmp 13))], none, [], true⟩,
     ⟨(some 15), .append 3 24 (.tmp 12) (.tmp 14), none, [], true⟩,
     ⟨none, .store 1 (.tmp 5) (.tmp 15), none, [], true⟩])
   (.seq (.region [
     ⟨(some 16), .load none (.tmp 5), none, [], true⟩,
     ⟨(some 17), .lenSlice (.tmp 16), none, [], true⟩,
     ⟨(some 18), .load none (.tmp 3), none, [], true⟩,
     ⟨(some 19), .bin .eql (.tmp 17) (.tmp 18), none, [], true⟩])
   (.cond (.tmp 19)
    (.exit 0)
    .skip)))
def lLoop (D : Nat) (tm : List Value) : ILoop := { state := .ready, pending := .normal, tmps := tm, params := [11], assign := lAsg, body := lBody, defers := D }
section
variable {ro : Nat → Option (List Value × Nat)} {h : Heap} {R : List Rs} {pb : Nat} {S l : List It}

theorem yieldL {k D lb nb ab : Nat} {v : Value} {n : Int} {x : It} {t : List It} {tl : List Value} (htl : tl.length = 21) (ht3 : tl.getD 3 undefV = .pointer (some ⟨nb, 0, none⟩)) (ht5 : tl.getD 5 undefV = .pointer (some ⟨ab, 0, none⟩)) (hT : t.length < 70000)
    (O : Has ro h (Ob lb (.loop (lLoop D tl)) :: Sc 3 ic v t :: Ob nb (.cells [.int .i64 n] 1 false) :: Ob ab (.cells [v] 1 false) :: R)) :
    (callV env (k + 1) (.func (.yield lb) #[] #[]) [iv x] h).Is fun p => ∃ lp v', p.1 = .bool (decide (((t.length + 1 : Nat) : Int) ≠ n)) ∧ lp.state ≠ .busy ∧ (((t.length + 1 : Nat) : Int) ≠ n → lp = lLoop D tl) ∧ (lp.pending = .normal ∨ lp.pending = .exit 0) ∧
      Has ro p.2 (Ob lb (.loop lp) :: Sc 3 ic v' (t ++ [x]) :: Ob nb (.cells [.int .i64 n] 1 false) :: Ob ab (.cells [v'] 1 false) :: R) := by
  rw [callV_yield]
  obtain ⟨g, hg_, rfl⟩ := explode htl
  rw [hg_] at ht5 ht3
  clear htl hg_
  refine round_isO O rfl rfl ?_
  simp (disch := first | assumption | omega | (simp only [wkD, oneCell, Option.isSome_some, *]; done) | (simp only [wkE, ne_eq]; omega)) only [lLoop, lAsg, List.nil_append, wk0, wk1, wk2, wk3, wk4, wk5, X_region, X_seq, X_block, X_loop, X_cond, Y_un, Y_store, Y_append, Y_makeMap, Y_buildSlice, ibin_shl, ibin_shr, ibin_and, List.set_cons_zero, List.set_cons_succ, List.getD_cons_zero, List.getD_cons_succ, List.map_cons, List.map_nil, ↓reduceIte, reduceCtorEq, oneCell, List.length_cons, List.length_nil, setAt, readN, bne_iff_ne, ne_eq, Nat.reduceAdd, Nat.reduceLeDiff, List.getElem?_cons_zero, List.getElem?_cons_succ, Nat.reduceMul, Option.isSome_some, layAt, Nat.reduceLT, Option.isNone_some, Option.isNone_none, beq_self_eq_true, Nat.reduceEqDiff, setParams, Int.reduceLT, Int.reduceLE, Int.reduceGT, Int.reduceGE, Int.reduceEq, Int.reduceNe, Option.map_some, Option.map_none, Option.isSome_none]
  refine Y_boxO O ?_
  intro b1 h1 O1 e1
  have g1 := O1.get 0 rfl
  have p1 := O1.can 0 rfl
  have O2 := (O1.set 0 rfl (.cells (ic x) 1 false)).swap2
  simp (disch := first | assumption | omega | (simp only [wkD, oneCell, Option.isSome_some, *]; done) | (simp only [wkE, ne_eq]; omega)) only [List.nil_append, g1, p1, set_ic', iv_cells, ic_len, ic_one, wk0, wk1, wk2, wk3, wk4, wk5, X_region, X_seq, X_block, X_loop, X_cond, Y_box, Y_un, Y_store, Y_append, Y_makeMap, Y_buildSlice, ibin_shl, ibin_shr, ibin_and, List.set_cons_zero, List.set_cons_succ, List.getD_cons_zero, List.getD_cons_succ, List.map_cons, List.map_nil, ↓reduceIte, reduceCtorEq, oneCell, List.length_cons, List.length_nil, setAt, readN, bne_iff_ne, ne_eq, Nat.reduceAdd, Nat.reduceLeDiff, List.getElem?_cons_zero, List.getElem?_cons_succ, Nat.reduceMul, Option.isSome_some, layAt, Nat.reduceLT, Option.isNone_some, Option.isNone_none, beq_self_eq_true, Nat.reduceEqDiff, setParams, Int.reduceLT, Int.reduceLE, Int.reduceGT, Int.reduceGE, Int.reduceEq, Int.reduceNe, Option.map_some, Option.map_none, Option.isSome_none]
  refine Is_in ⟨rfl, _, O2, fun h3 O3 => ?_⟩
  have gX := O3.get 1 rfl
  have gA := O3.get 4 rfl
  simp (disch := first | assumption | omega | (simp only [wkD, oneCell, Option.isSome_some, *]; done) | (simp only [wkE, ne_eq]; omega)) only [lBody, ht3, ht5, gX, gA, ic_len, tk_ic, rd_full, agg_ic, wk0, wk1, wk2, wk3, wk4, wk5, X_region, X_seq, X_block, X_loop, X_cond, Y_box, Y_un, Y_store, Y_append, Y_makeMap, ibin_shl, ibin_shr, ibin_and, List.set_cons_zero, List.set_cons_succ, List.getD_cons_zero, List.getD_cons_succ, List.map_cons, List.map_nil, ↓reduceIte, reduceCtorEq, oneCell, List.length_cons, List.length_nil, setAt, readN, bne_iff_ne, ne_eq, Nat.reduceAdd, Nat.reduceLeDiff, List.getElem?_cons_zero, List.getElem?_cons_succ, Nat.reduceMul, Option.isSome_some, layAt, Nat.reduceLT, Option.isNone_some, Option.isNone_none, beq_self_eq_true, Nat.reduceEqDiff, setParams, Int.reduceLT, Int.reduceLE, Int.reduceGT, Int.reduceGE, Int.reduceEq, Int.reduceNe, Option.map_some, Option.map_none, Option.isSome_none]
  refine Y_buildSliceO O3 (cs := ic x) rfl ?_
  intro b4 h4 O4 e4
  have V4 : Vw 3 ic h4 (.slice (some ⟨b4, 0, none⟩) 1 1) [x] := O4.one 0 rfl
  obtain ⟨v', h5, ap, O5⟩ := sc_appendV (bytes := 24) (by omega) ic_len ic_one (O4.at 3 rfl) V4 (by simp only [List.length_cons, List.length_nil]; unfold roomMost; omega) (by omega)
  simp only [List.eraseIdx_cons_succ, List.eraseIdx_cons_zero] at O5
  have gA5 := O5.get 5 rfl
  have pA5 := O5.can 5 rfl
  have O6 := O5.set 5 rfl (.cells [v'] 1 false)
  simp only [List.set_cons_succ, List.set_cons_zero] at O6
  have gN := O6.get 4 rfl
  have gA6 := O6.get 5 rfl
  obtain ⟨wp, wc, rfl, hz⟩ := O6.scVal 0 rfl
  clear hz
  have hlen : ((t ++ [x]).length : Int) = ((t.length + 1 : Nat) : Int) := by simp
  have hlen2 : (t ++ [x]).length = t.length + 1 := by simp
  simp only [hlen2] at gA6 gN O6 ap
  by_cases hx : ((t.length + 1 : Nat) : Int) = n
  · have d1 : decide (((t.length + 1 : Nat) : Int) = n) = true := decide_eq_true hx
    simp (disch := first | assumption | omega | (simp only [wkD, oneCell, Option.isSome_some, *]; done) | (simp only [wkE, ne_eq]; omega)) only [ap, slI', ht3, ht5, gA5, pA5, gN, gA6, hlen2, d1, wk0, wk1, wk2, wk3, wk4, wk5, X_region, X_seq, X_block, X_loop, X_cond, Y_box, Y_un, Y_store, Y_append, Y_makeMap, Y_buildSlice, ibin_shl, ibin_shr, ibin_and, List.set_cons_zero, List.set_cons_succ, List.getD_cons_zero, List.getD_cons_succ, List.map_cons, List.map_nil, ↓reduceIte, reduceCtorEq, oneCell, List.length_cons, List.length_nil, setAt, readN, bne_iff_ne, ne_eq, Nat.reduceAdd, Nat.reduceLeDiff, List.getElem?_cons_zero, List.getElem?_cons_succ, Nat.reduceMul, Option.isSome_some, layAt, Nat.reduceLT, Option.isNone_some, Option.isNone_none, beq_self_eq_true, Nat.reduceEqDiff, setParams, Int.reduceLT, Int.reduceLE, Int.reduceGT, Int.reduceGE, Int.reduceEq, Int.reduceNe, Option.map_some, Option.map_none, Option.isSome_none]
    have O7 := (O6.rid 1 rfl).swap2
    refine Is_in ⟨_, _, O7, fun h8 O8 => ?_⟩
    refine ⟨_, _, ?_, ?_, fun e => absurd hx e, Or.inr rfl, O8.rid 2 rfl⟩
    · rw [decide_eq_false (by simpa using hx)]; rfl
    · intro e; cases e
  · have d1 : decide (((t.length + 1 : Nat) : Int) = n) = false := decide_eq_false hx
    simp (disch := first | assumption | omega | (simp only [wkD, oneCell, Option.isSome_some, *]; done) | (simp only [wkE, ne_eq]; omega)) only [ap, slI', ht3, ht5, gA5, pA5, gN, gA6, hlen2, d1, wk0, wk1, wk2, wk3, wk4, wk5, X_region, X_seq, X_block, X_loop, X_cond, Y_box, Y_un, Y_store, Y_append, Y_makeMap, Y_buildSlice, ibin_shl, ibin_shr, ibin_and, List.set_cons_zero, List.set_cons_succ, List.getD_cons_zero, List.getD_cons_succ, List.map_cons, List.map_nil, ↓reduceIte, reduceCtorEq, oneCell, List.length_cons, List.length_nil, setAt, readN, bne_iff_ne, ne_eq, Nat.reduceAdd, Nat.reduceLeDiff, List.getElem?_cons_zero, List.getElem?_cons_succ, Nat.reduceMul, Option.isSome_some, layAt, Nat.reduceLT, Option.isNone_some, Option.isNone_none, beq_self_eq_true, Nat.reduceEqDiff, setParams, Int.reduceLT, Int.reduceLE, Int.reduceGT, Int.reduceGE, Int.reduceEq, Int.reduceNe, Option.map_some, Option.map_none, Option.isSome_none]
    have O7 := (O6.rid 1 rfl).swap2
    refine Is_in ⟨_, _, O7, fun h8 O8 => ?_⟩
    refine ⟨_, _, ?_, ?_, ?_, ?_, O8.rid 2 rfl⟩
    · rw [decide_eq_true (by simpa using hx)]; rfl
    · intro e; cases e
    · intro _
      simp only [ht3, ht5]
      rfl
    · exact Or.inl rfl

theorem least_h {N : Nat} {n : Int} (hN : S.length + 40 < N) (hl : S.length < 65536) (O : Has ro h (Pq pb S :: R)) :
    (callV env N (.func (.func 18) #[] #[]) [.pointer (some ⟨pb, 0, none⟩), .int .i64 n] h).Is fun p => Has ro p.2 (Sc 3 ic p.1 (S.take n.toNat) :: Pq pb (S.drop n.toNat) :: R) := by
  obtain ⟨N, rfl⟩ : ∃ k, N = k + 10 := ⟨N - 10, by omega⟩
  refine call_is env18 ?_
  simp (disch := first | assumption | omega | (simp only [wkD, oneCell, Option.isSome_some, *]; done) | (simp only [wkE, ne_eq]; omega)) only [ir18, List.append_nil, List.nil_append, List.cons_append, List.length_cons, List.length_nil, Nat.reduceAdd, Nat.reduceSub, List.replicate_succ, List.replicate_zero, wk0, wk1, wk2, wk3, wk4, wk5, X_region, X_seq, X_block, X_loop, X_cond, Y_un, Y_store, Y_append, Y_makeMap, Y_buildSlice, ibin_shl, ibin_shr, ibin_and, List.set_cons_zero, List.set_cons_succ, List.getD_cons_zero, List.getD_cons_succ, List.map_cons, List.map_nil, ↓reduceIte, reduceCtorEq, oneCell, List.length_cons, List.length_nil, setAt, readN, bne_iff_ne, ne_eq, Nat.reduceAdd, Nat.reduceLeDiff, List.getElem?_cons_zero, List.getElem?_cons_succ, Nat.reduceMul, Option.isSome_some, layAt, Nat.reduceLT, Option.isNone_some, Option.isNone_none, beq_self_eq_true, Nat.reduceEqDiff, setParams, Int.reduceLT, Int.reduceLE, Int.reduceGT, Int.reduceGE, Int.reduceEq, Int.reduceNe, Option.map_some, Option.map_none, Option.isSome_none]
  refine Y_boxO O ?_
  intro nb h1 O1 e1
  simp (disch := first | assumption | omega | (simp only [wkD, oneCell, Option.isSome_some, *]; done) | (simp only [wkE, ne_eq]; omega)) only [wk0, wk1, wk2, wk3, wk4, wk5, X_region, X_seq, X_block, X_loop, X_cond, Y_un, Y_store, Y_append, Y_makeMap, Y_buildSlice, ibin_shl, ibin_shr, ibin_and, List.set_cons_zero, List.set_cons_succ, List.getD_cons_zero, List.getD_cons_succ, List.map_cons, List.map_nil, ↓reduceIte, reduceCtorEq, oneCell, List.length_cons, List.length_nil, setAt, readN, bne_iff_ne, ne_eq, Nat.reduceAdd, Nat.reduceLeDiff, List.getElem?_cons_zero, List.getElem?_cons_succ, Nat.reduceMul, Option.isSome_some, layAt, Nat.reduceLT, Option.isNone_some, Option.isNone_none, beq_self_eq_true, Nat.reduceEqDiff, setParams, Int.reduceLT, Int.reduceLE, Int.reduceGT, Int.reduceGE, Int.reduceEq, Int.reduceNe, Option.map_some, Option.map_none, Option.isSome_none]
  refine Y_boxO O1 ?_
  intro ab h2 O2 e2
  have gn := O2.get 1 rfl
  by_cases hn : n < 1
  · have e0 : n.toNat = 0 := by omega
    simp (disch := first | assumption | omega | (simp only [wkD, oneCell, Option.isSome_some, *]; done) | (simp only [wkE, ne_eq]; omega)) only [gn, hn, wk0, wk1, wk2, wk3, wk4, wk5, X_region, X_seq, X_block, X_loop, X_cond, Y_box, Y_un, Y_store, Y_append, Y_makeMap, Y_buildSlice, ibin_shl, ibin_shr, ibin_and, List.set_cons_zero, List.set_cons_succ, List.getD_cons_zero, List.getD_cons_succ, List.map_cons, List.map_nil, ↓reduceIte, reduceCtorEq, oneCell, List.length_cons, List.length_nil, setAt, readN, bne_iff_ne, ne_eq, Nat.reduceAdd, Nat.reduceLeDiff, List.getElem?_cons_zero, List.getElem?_cons_succ, Nat.reduceMul, Option.isSome_some, layAt, Nat.reduceLT, Option.isNone_some, Option.isNone_none, beq_self_eq_true, Nat.reduceEqDiff, setParams, Int.reduceLT, Int.reduceLE, Int.reduceGT, Int.reduceGE, Int.reduceEq, Int.reduceNe, Option.map_some, Option.map_none, Option.isSome_none]
    refine leaf1 ?_
    rw [e0]
    exact O2.drop.drop.scNil
  simp (disch := first | assumption | omega | (simp only [wkD, oneCell, Option.isSome_some, *]; done) | (simp only [wkE, ne_eq]; omega)) only [gn, hn, wk0, wk1, wk2, wk3, wk4, wk5, X_region, X_seq, X_block, X_loop, X_cond, Y_box, Y_un, Y_store, Y_append, Y_makeMap, Y_buildSlice, ibin_shl, ibin_shr, ibin_and, List.set_cons_zero, List.set_cons_succ, List.getD_cons_zero, List.getD_cons_succ, List.map_cons, List.map_nil, ↓reduceIte, reduceCtorEq, oneCell, List.length_cons, List.length_nil, setAt, readN, bne_iff_ne, ne_eq, Nat.reduceAdd, Nat.reduceLeDiff, List.getElem?_cons_zero, List.getElem?_cons_succ, Nat.reduceMul, Option.isSome_some, layAt, Nat.reduceLT, Option.isNone_some, Option.isNone_none, beq_self_eq_true, Nat.reduceEqDiff, setParams, Int.reduceLT, Int.reduceLE, Int.reduceGT, Int.reduceGE, Int.reduceEq, Int.reduceNe, Option.map_some, Option.map_none, Option.isSome_none]
  refine Z_is (R := fun p => ∃ bE, p.1 = .func (.func 30) #[] #[.pointer (some ⟨bE, 0, none⟩)] ∧ Has ro p.2 (Ob bE (.cells [.pointer (some ⟨pb, 0, none⟩)] 1 false) :: Ob ab (.cells [.slice none 0 0] 1 false) :: Ob nb (.cells [.int .i64 n] 1 false) :: Pq pb S :: R)) ?_ ?_
  · refine call_is env24 ?_
    simp (disch := first | assumption | omega | (simp only [wkD, oneCell, Option.isSome_some, *]; done) | (simp only [wkE, ne_eq]; omega)) only [ir24, List.append_nil, List.nil_append, List.cons_append, List.length_cons, List.length_nil, Nat.reduceAdd, Nat.reduceSub, List.replicate_succ, List.replicate_zero, wk0, wk1, wk2, wk3, wk4, wk5, X_region, X_seq, X_block, X_loop, X_cond, Y_un, Y_store, Y_append, Y_makeMap, Y_buildSlice, ibin_shl, ibin_shr, ibin_and, List.set_cons_zero, List.set_cons_succ, List.getD_cons_zero, List.getD_cons_succ, List.map_cons, List.map_nil, ↓reduceIte, reduceCtorEq, oneCell, List.length_cons, List.length_nil, setAt, readN, bne_iff_ne, ne_eq, Nat.reduceAdd, Nat.reduceLeDiff, List.getElem?_cons_zero, List.getElem?_cons_succ, Nat.reduceMul, Option.isSome_some, layAt, Nat.reduceLT, Option.isNone_some, Option.isNone_none, beq_self_eq_true, Nat.reduceEqDiff, setParams, Int.reduceLT, Int.reduceLE, Int.reduceGT, Int.reduceGE, Int.reduceEq, Int.reduceNe, Option.map_some, Option.map_none, Option.isSome_none]
    refine Y_boxO O2 ?_
    intro bE h3 O3 e3
    simp (disch := first | assumption | omega | (simp only [wkD, oneCell, Option.isSome_some, *]; done) | (simp only [wkE, ne_eq]; omega)) only [wk0, wk1, wk2, wk3, wk4, wk5, X_region, X_seq, X_block, X_loop, X_cond, Y_box, Y_un, Y_store, Y_append, Y_makeMap, Y_buildSlice, ibin_shl, ibin_shr, ibin_and, List.set_cons_zero, List.set_cons_succ, List.getD_cons_zero, List.getD_cons_succ, List.map_cons, List.map_nil, ↓reduceIte, reduceCtorEq, oneCell, List.length_cons, List.length_nil, setAt, readN, bne_iff_ne, ne_eq, Nat.reduceAdd, Nat.reduceLeDiff, List.getElem?_cons_zero, List.getElem?_cons_succ, Nat.reduceMul, Option.isSome_some, layAt, Nat.reduceLT, Option.isNone_some, Option.isNone_none, beq_self_eq_true, Nat.reduceEqDiff, setParams, Int.reduceLT, Int.reduceLE, Int.reduceGT, Int.reduceGE, Int.reduceEq, Int.reduceNe, Option.map_some, Option.map_none, Option.isSome_none]
    exact leaf1 ⟨bE, rfl, O3⟩
  rintro v3 h3 ⟨bE, rfl, O3⟩
  simp (disch := first | assumption | omega | (simp only [wkD, oneCell, Option.isSome_some, *]; done) | (simp only [wkE, ne_eq]; omega)) only [wk0, wk1, wk2, wk3, wk4, wk5, X_region, X_seq, X_block, X_loop, X_cond, Y_box, Y_un, Y_store, Y_append, Y_makeMap, Y_buildSlice, ibin_shl, ibin_shr, ibin_and, List.set_cons_zero, List.set_cons_succ, List.getD_cons_zero, List.getD_cons_succ, List.map_cons, List.map_nil, ↓reduceIte, reduceCtorEq, oneCell, List.length_cons, List.length_nil, setAt, readN, bne_iff_ne, ne_eq, Nat.reduceAdd, Nat.reduceLeDiff, List.getElem?_cons_zero, List.getElem?_cons_succ, Nat.reduceMul, Option.isSome_some, layAt, Nat.reduceLT, Option.isNone_some, Option.isNone_none, beq_self_eq_true, Nat.reduceEqDiff, setParams, Int.reduceLT, Int.reduceLE, Int.reduceGT, Int.reduceGE, Int.reduceEq, Int.reduceNe, Option.map_some, Option.map_none, Option.isSome_none]
  refine X_rangeO O3 (g := 30) (first := #[]) rfl ?_
  intro m lb h4 O4
  obtain ⟨tl, htl, ht3, ht5, O5⟩ : ∃ tl : List Value, tl.length = 21 ∧ tl.getD 3 undefV = .pointer (some ⟨nb, 0, none⟩) ∧ tl.getD 5 undefV = .pointer (some ⟨ab, 0, none⟩) ∧ Has ro h4 (Sc 3 ic (.slice none 0 0) ([] : List It) :: Ob lb (.loop (lLoop m tl)) :: Ob m (.deferred true) :: Ob bE (.cells [.pointer (some ⟨pb, 0, none⟩)] 1 false) :: Ob ab (.cells [.slice none 0 0] 1 false) :: Ob nb (.cells [.int .i64 n] 1 false) :: Pq pb S :: R) := ⟨_, rfl, rfl, rfl, O4.scNil⟩
  clear O4 O3 O2 O1 O e1 e2 gn
  refine call_is env30 ?_
  simp (disch := first | assumption | omega | (simp only [wkD, oneCell, Option.isSome_some, *]; done) | (simp only [wkE, ne_eq]; omega)) only [ir30, List.append_nil, List.nil_append, List.cons_append, List.length_cons, List.length_nil, Nat.reduceAdd, Nat.reduceSub, List.replicate_succ, List.replicate_zero, wk0, wk1, wk2, wk3, wk4, wk5, X_region, X_seq, X_block, X_loop, X_cond, Y_box, Y_un, Y_store, Y_append, Y_makeMap, Y_buildSlice, ibin_shl, ibin_shr, ibin_and, List.set_cons_zero, List.set_cons_succ, List.getD_cons_zero, List.getD_cons_succ, List.map_cons, List.map_nil, ↓reduceIte, reduceCtorEq, oneCell, List.length_cons, List.length_nil, setAt, readN, bne_iff_ne, ne_eq, Nat.reduceAdd, Nat.reduceLeDiff, List.getElem?_cons_zero, List.getElem?_cons_succ, Nat.reduceMul, Option.isSome_some, layAt, Nat.reduceLT, Option.isNone_some, Option.isNone_none, beq_self_eq_true, Nat.reduceEqDiff, setParams, Int.reduceLT, Int.reduceLE, Int.reduceGT, Int.reduceGE, Int.reduceEq, Int.reduceNe, Option.map_some, Option.map_none, Option.isSome_none]
  refine L_is (fun q s => ∃ (t S' : List It) (v : Value), s.defers = [] ∧ s.tmps.length = 18 ∧ s.tmps.getD 0 undefV = .func (.yield lb) #[] #[] ∧ s.tmps.getD 1 undefV = .pointer (some ⟨bE, 0, none⟩) ∧ q = S'.length ∧ S = t ++ S' ∧ (t.length : Int) < n ∧ Has ro s.h (Sc 3 ic v t :: Ob lb (.loop (lLoop m tl)) :: Ob m (.deferred true) :: Ob bE (.cells [.pointer (some ⟨pb, 0, none⟩)] 1 false) :: Ob ab (.cells [v] 1 false) :: Ob nb (.cells [.int .i64 n] 1 false) :: Pq pb S' :: R)) S.length ?_ (by omega) ?_
  · exact ⟨[], S, _, rfl, rfl, rfl, rfl, rfl, rfl, by simp; omega, O5⟩
  clear O5
  rintro q_ tm df h6 ⟨t, S', v, hd_, hlen_, g0, g1, hq, hS, htn, O⟩
  simp only at hd_ g0 g1 O
  subst hd_
  obtain ⟨w, hg_, rfl⟩ := explode hlen_
  simp only [hg_] at g0 g1
  clear hlen_ hg_
  have hSl : S.length = t.length + S'.length := by rw [hS, List.length_append]
  have gE := O.get 3 rfl
  simp (disch := first | assumption | omega | (simp only [wkD, oneCell, Option.isSome_some, *]; done) | (simp only [wkE, ne_eq]; omega)) only [g0, g1, gE, wk0, wk1, wk2, wk3, wk4, wk5, X_region, X_seq, X_block, X_loop, X_cond, Y_box, Y_un, Y_store, Y_append, Y_makeMap, Y_buildSlice, ibin_shl, ibin_shr, ibin_and, List.set_cons_zero, List.set_cons_succ, List.getD_cons_zero, List.getD_cons_succ, List.map_cons, List.map_nil, ↓reduceIte, reduceCtorEq, oneCell, List.length_cons, List.length_nil, setAt, readN, bne_iff_ne, ne_eq, Nat.reduceAdd, Nat.reduceLeDiff, List.getElem?_cons_zero, List.getElem?_cons_succ, Nat.reduceMul, Option.isSome_some, layAt, Nat.reduceLT, Option.isNone_some, Option.isNone_none, beq_self_eq_true, Nat.reduceEqDiff, setParams, Int.reduceLT, Int.reduceLE, Int.reduceGT, Int.reduceGE, Int.reduceEq, Int.reduceNe, Option.map_some, Option.map_none, Option.isSome_none]
  refine Z_is (pop_h (n := N + 3) (S := S') (by omega) (by omega) (O.at 6 rfl)) ?_
  rintro v7 h7 ⟨rfl, O7⟩
  simp only at O7
  replace O7 := Has.back O7 (by simp)
  simp only [List.set_cons_succ, List.set_cons_zero] at O7
  simp (disch := first | assumption | omega | (simp only [wkD, oneCell, Option.isSome_some, *]; done) | (simp only [wkE, ne_eq]; omega)) only [wk0, wk1, wk2, wk3, wk4, wk5, X_region, X_seq, X_block, X_loop, X_cond, Y_un, Y_store, Y_append, Y_makeMap, Y_buildSlice, ibin_shl, ibin_shr, ibin_and, List.set_cons_zero, List.set_cons_succ, List.getD_cons_zero, List.getD_cons_succ, List.map_cons, List.map_nil, ↓reduceIte, reduceCtorEq, oneCell, List.length_cons, List.length_nil, setAt, readN, bne_iff_ne, ne_eq, Nat.reduceAdd, Nat.reduceLeDiff, List.getElem?_cons_zero, List.getElem?_cons_succ, Nat.reduceMul, Option.isSome_some, layAt, Nat.reduceLT, Option.isNone_some, Option.isNone_none, beq_self_eq_true, Nat.reduceEqDiff, setParams, Int.reduceLT, Int.reduceLE, Int.reduceGT, Int.reduceGE, Int.reduceEq, Int.reduceNe, Option.map_some, Option.map_none, Option.isSome_none]
  refine Y_boxO O7 ?_
  intro xb h8 O8 e8
  have g8 := O8.get 0 rfl
  have p8 := O8.can 0 rfl
  have O9 := O8.set 0 rfl (.cells (ic (hd S')) 1 false)
  simp only [List.set_cons_zero] at O9
  have g9 := O9.get 0 rfl
  cases S' with
  | nil =>
    simp (disch := first | assumption | omega | (simp only [wkD, oneCell, Option.isSome_some, *]; done) | (simp only [wkE, ne_eq]; omega)) only [g0, g1, List.isEmpty_nil, hd, g8, p8, set_ic', iv_cells, ic_len, ic_one, wk0, wk1, wk2, wk3, wk4, wk5, X_region, X_seq, X_block, X_loop, X_cond, Y_box, Y_un, Y_store, Y_append, Y_makeMap, Y_buildSlice, ibin_shl, ibin_shr, ibin_and, List.set_cons_zero, List.set_cons_succ, List.getD_cons_zero, List.getD_cons_succ, List.map_cons, List.map_nil, ↓reduceIte, reduceCtorEq, oneCell, List.length_cons, List.length_nil, setAt, readN, bne_iff_ne, ne_eq, Nat.reduceAdd, Nat.reduceLeDiff, List.getElem?_cons_zero, List.getElem?_cons_succ, Nat.reduceMul, Option.isSome_some, layAt, Nat.reduceLT, Option.isNone_some, Option.isNone_none, beq_self_eq_true, Nat.reduceEqDiff, setParams, Int.reduceLT, Int.reduceLE, Int.reduceGT, Int.reduceGE, Int.reduceEq, Int.reduceNe, Option.map_some, Option.map_none, Option.isSome_none]
    refine Is_in ?_
    simp (disch := first | assumption | omega | (simp only [wkD, oneCell, Option.isSome_some, *]; done) | (simp only [wkE, ne_eq]; omega)) only [g0, g1, wk0, wk1, wk2, wk3, wk4, wk5, X_region, X_seq, X_block, X_loop, X_cond, Y_box, Y_un, Y_store, Y_append, Y_makeMap, Y_buildSlice, ibin_shl, ibin_shr, ibin_and, List.set_cons_zero, List.set_cons_succ, List.getD_cons_zero, List.getD_cons_succ, List.map_cons, List.map_nil, ↓reduceIte, reduceCtorEq, oneCell, List.length_cons, List.length_nil, setAt, readN, bne_iff_ne, ne_eq, Nat.reduceAdd, Nat.reduceLeDiff, List.getElem?_cons_zero, List.getElem?_cons_succ, Nat.reduceMul, Option.isSome_some, layAt, Nat.reduceLT, Option.isNone_some, Option.isNone_none, beq_self_eq_true, Nat.reduceEqDiff, setParams, Int.reduceLT, Int.reduceLE, Int.reduceGT, Int.reduceGE, Int.reduceEq, Int.reduceNe, Option.map_some, Option.map_none, Option.isSome_none]
    refine leaf0 ⟨_, _, ?_, O9.drop.swap2, fun h11 O11 => ?_⟩
    · intro e; cases e
    have gA := O11.get 3 rfl
    simp (disch := first | assumption | omega | (simp only [wkD, oneCell, Option.isSome_some, *]; done) | (simp only [wkE, ne_eq]; omega)) only [lLoop, gA, wk0, wk1, wk2, wk3, wk4, wk5, X_region, X_seq, X_block, X_loop, X_cond, Y_box, Y_un, Y_store, Y_append, Y_makeMap, Y_buildSlice, ibin_shl, ibin_shr, ibin_and, List.set_cons_zero, List.set_cons_succ, List.getD_cons_zero, List.getD_cons_succ, List.map_cons, List.map_nil, ↓reduceIte, reduceCtorEq, oneCell, List.length_cons, List.length_nil, setAt, readN, bne_iff_ne, ne_eq, Nat.reduceAdd, Nat.reduceLeDiff, List.getElem?_cons_zero, List.getElem?_cons_succ, Nat.reduceMul, Option.isSome_some, layAt, Nat.reduceLT, Option.isNone_some, Option.isNone_none, beq_self_eq_true, Nat.reduceEqDiff, setParams, Int.reduceLT, Int.reduceLE, Int.reduceGT, Int.reduceGE, Int.reduceEq, Int.reduceNe, Option.map_some, Option.map_none, Option.isSome_none]
    have e1 : t = S := by rw [hS, List.append_nil]
    have hlt : S.length ≤ n.toNat := by rw [← e1]; omega
    rw [e1] at O11
    refine leafMO O11 1 rfl fun h12 O12 => ⟨_, rfl, ?_⟩
    rw [List.take_of_length_le hlt, List.drop_of_length_le hlt]
    simp only [List.set_cons_succ, List.set_cons_zero] at O12
    exact (((O12.rid 1 rfl).rid 1 rfl).rid 1 rfl).rid 1 rfl
  | cons x S' =>
    have hhd : hd (x :: S') = x := rfl
    rw [hhd] at g8 O9 g9
    simp (disch := first | assumption | omega | (simp only [wkD, oneCell, Option.isSome_some, *]; done) | (simp only [wkE, ne_eq]; omega)) only [g0, g1, hhd, List.isEmpty_cons, g8, p8, set_ic', iv_cells, ic_len, ic_one, g9, tk_ic, rd_full, agg_ic, wk0, wk1, wk2, wk3, wk4, wk5, X_region, X_seq, X_block, X_loop, X_cond, Y_box, Y_un, Y_store, Y_append, Y_makeMap, Y_buildSlice, ibin_shl, ibin_shr, ibin_and, List.set_cons_zero, List.set_cons_succ, List.getD_cons_zero, List.getD_cons_succ, List.map_cons, List.map_nil, ↓reduceIte, reduceCtorEq, oneCell, List.length_cons, List.length_nil, setAt, readN, bne_iff_ne, ne_eq, Nat.reduceAdd, Nat.reduceLeDiff, List.getElem?_cons_zero, List.getElem?_cons_succ, Nat.reduceMul, Option.isSome_some, layAt, Nat.reduceLT, Option.isNone_some, Option.isNone_none, beq_self_eq_true, Nat.reduceEqDiff, setParams, Int.reduceLT, Int.reduceLE, Int.reduceGT, Int.reduceGE, Int.reduceEq, Int.reduceNe, Option.map_some, Option.map_none, Option.isSome_none]
    have O10 : Has ro _ (Ob lb (.loop (lLoop m tl)) :: Sc 3 ic v t :: Ob nb (.cells [.int .i64 n] 1 false) :: Ob ab (.cells [v] 1 false) :: Ob m (.deferred true) :: Ob bE (.cells [.pointer (some ⟨pb, 0, none⟩)] 1 false) :: Pq pb S' :: R) := ((((O9.drop).at 4 rfl).at 5 rfl).at 2 rfl).at 3 rfl
    clear O9 O8 O7 g8 p8 g9 e8
    refine Z_is (yieldL htl ht3 ht5 (by omega) O10) ?_
    rintro v11 h11 ⟨lp, v', rfl, hst, hlp, hpd, O11⟩
    simp only at O11
    simp only [List.length_cons] at hSl
    by_cases hx : ((t.length + 1 : Nat) : Int) = n
    · have d1 : decide (((t.length + 1 : Nat) : Int) ≠ n) = false := decide_eq_false (by simpa using hx)
      simp (disch := first | assumption | omega | (simp only [wkD, oneCell, Option.isSome_some, *]; done) | (simp only [wkE, ne_eq]; omega)) only [g0, g1, d1, wk0, wk1, wk2, wk3, wk4, wk5, X_region, X_seq, X_block, X_loop, X_cond, Y_box, Y_un, Y_store, Y_append, Y_makeMap, Y_buildSlice, ibin_shl, ibin_shr, ibin_and, List.set_cons_zero, List.set_cons_succ, List.getD_cons_zero, List.getD_cons_succ, List.map_cons, List.map_nil, ↓reduceIte, reduceCtorEq, oneCell, List.length_cons, List.length_nil, setAt, readN, bne_iff_ne, ne_eq, Nat.reduceAdd, Nat.reduceLeDiff, List.getElem?_cons_zero, List.getElem?_cons_succ, Nat.reduceMul, Option.isSome_some, layAt, Nat.reduceLT, Option.isNone_some, Option.isNone_none, beq_self_eq_true, Nat.reduceEqDiff, setParams, Int.reduceLT, Int.reduceLE, Int.reduceGT, Int.reduceGE, Int.reduceEq, Int.reduceNe, Option.map_some, Option.map_none, Option.isSome_none]
      refine Is_in ?_
      simp (disch := first | assumption | omega | (simp only [wkD, oneCell, Option.isSome_some, *]; done) | (simp only [wkE, ne_eq]; omega)) only [g0, g1, wk0, wk1, wk2, wk3, wk4, wk5, X_region, X_seq, X_block, X_loop, X_cond, Y_box, Y_un, Y_store, Y_append, Y_makeMap, Y_buildSlice, ibin_shl, ibin_shr, ibin_and, List.set_cons_zero, List.set_cons_succ, List.getD_cons_zero, List.getD_cons_succ, List.map_cons, List.map_nil, ↓reduceIte, reduceCtorEq, oneCell, List.length_cons, List.length_nil, setAt, readN, bne_iff_ne, ne_eq, Nat.reduceAdd, Nat.reduceLeDiff, List.getElem?_cons_zero, List.getElem?_cons_succ, Nat.reduceMul, Option.isSome_some, layAt, Nat.reduceLT, Option.isNone_some, Option.isNone_none, beq_self_eq_true, Nat.reduceEqDiff, setParams, Int.reduceLT, Int.reduceLE, Int.reduceGT, Int.reduceGE, Int.reduceEq, Int.reduceNe, Option.map_some, Option.map_none, Option.isSome_none]
      refine leaf0 ⟨lp, _, hst, O11, fun h12 O12 => ?_⟩
      have gA := O12.get 2 rfl
      have e1 : S.take n.toNat = t ++ [x] := by
        rw [hS, show n.toNat = (t ++ [x]).length by simp; omega, show t ++ x :: S' = (t ++ [x]) ++ S' by simp, List.take_left]
      have e2 : S.drop n.toNat = S' := by
        rw [hS, show n.toNat = (t ++ [x]).length by simp; omega, show t ++ x :: S' = (t ++ [x]) ++ S' by simp, List.drop_left]
      rcases hpd with hpd | hpd
      · rw [hpd]
        simp (disch := first | assumption | omega | (simp only [wkD, oneCell, Option.isSome_some, *]; done) | (simp only [wkE, ne_eq]; omega)) only [gA, wk0, wk1, wk2, wk3, wk4, wk5, X_region, X_seq, X_block, X_loop, X_cond, Y_box, Y_un, Y_store, Y_append, Y_makeMap, Y_buildSlice, ibin_shl, ibin_shr, ibin_and, List.set_cons_zero, List.set_cons_succ, List.getD_cons_zero, List.getD_cons_succ, List.map_cons, List.map_nil, ↓reduceIte, reduceCtorEq, oneCell, List.length_cons, List.length_nil, setAt, readN, bne_iff_ne, ne_eq, Nat.reduceAdd, Nat.reduceLeDiff, List.getElem?_cons_zero, List.getElem?_cons_succ, Nat.reduceMul, Option.isSome_some, layAt, Nat.reduceLT, Option.isNone_some, Option.isNone_none, beq_self_eq_true, Nat.reduceEqDiff, setParams, Int.reduceLT, Int.reduceLE, Int.reduceGT, Int.reduceGE, Int.reduceEq, Int.reduceNe, Option.map_some, Option.map_none, Option.isSome_none]
        refine leafMO O12 3 rfl fun h13 O13 => ⟨_, rfl, ?_⟩
        rw [e1, e2]
        simp only [List.set_cons_succ, List.set_cons_zero] at O13
        exact (((O13.rid 1 rfl).rid 1 rfl).rid 1 rfl).rid 1 rfl
      · rw [hpd]
        simp (disch := first | assumption | omega | (simp only [wkD, oneCell, Option.isSome_some, *]; done) | (simp only [wkE, ne_eq]; omega)) only [gA, wk0, wk1, wk2, wk3, wk4, wk5, X_region, X_seq, X_block, X_loop, X_cond, Y_box, Y_un, Y_store, Y_append, Y_makeMap, Y_buildSlice, ibin_shl, ibin_shr, ibin_and, List.set_cons_zero, List.set_cons_succ, List.getD_cons_zero, List.getD_cons_succ, List.map_cons, List.map_nil, ↓reduceIte, reduceCtorEq, oneCell, List.length_cons, List.length_nil, setAt, readN, bne_iff_ne, ne_eq, Nat.reduceAdd, Nat.reduceLeDiff, List.getElem?_cons_zero, List.getElem?_cons_succ, Nat.reduceMul, Option.isSome_some, layAt, Nat.reduceLT, Option.isNone_some, Option.isNone_none, beq_self_eq_true, Nat.reduceEqDiff, setParams, Int.reduceLT, Int.reduceLE, Int.reduceGT, Int.reduceGE, Int.reduceEq, Int.reduceNe, Option.map_some, Option.map_none, Option.isSome_none]
        refine leafMO O12 3 rfl fun h13 O13 => ⟨_, rfl, ?_⟩
        rw [e1, e2]
        simp only [List.set_cons_succ, List.set_cons_zero] at O13
        exact (((O13.rid 1 rfl).rid 1 rfl).rid 1 rfl).rid 1 rfl
    · have d1 : decide (((t.length + 1 : Nat) : Int) ≠ n) = true := decide_eq_true (by simpa using hx)
      have := hlp (by simpa using hx)
      subst this
      simp (disch := first | assumption | omega | (simp only [wkD, oneCell, Option.isSome_some, *]; done) | (simp only [wkE, ne_eq]; omega)) only [g0, g1, d1, wk0, wk1, wk2, wk3, wk4, wk5, X_region, X_seq, X_block, X_loop, X_cond, Y_box, Y_un, Y_store, Y_append, Y_makeMap, Y_buildSlice, ibin_shl, ibin_shr, ibin_and, List.set_cons_zero, List.set_cons_succ, List.getD_cons_zero, List.getD_cons_succ, List.map_cons, List.map_nil, ↓reduceIte, reduceCtorEq, oneCell, List.length_cons, List.length_nil, setAt, readN, bne_iff_ne, ne_eq, Nat.reduceAdd, Nat.reduceLeDiff, List.getElem?_cons_zero, List.getElem?_cons_succ, Nat.reduceMul, Option.isSome_some, layAt, Nat.reduceLT, Option.isNone_some, Option.isNone_none, beq_self_eq_true, Nat.reduceEqDiff, setParams, Int.reduceLT, Int.reduceLE, Int.reduceGT, Int.reduceGE, Int.reduceEq, Int.reduceNe, Option.map_some, Option.map_none, Option.isSome_none]
      have O12 : Has ro h11 (Sc 3 ic v' (t ++ [x]) :: Ob lb (.loop (lLoop m tl)) :: Ob m (.deferred true) :: Ob bE (.cells [.pointer (some ⟨pb, 0, none⟩)] 1 false) :: Ob ab (.cells [v'] 1 false) :: Ob nb (.cells [.int .i64 n] 1 false) :: Pq pb S' :: R) := (((((O11.at 2 rfl).at 3 rfl).at 5 rfl).at 5 rfl).at 4 rfl).at 5 rfl
      exact Is_in ⟨S'.length, by simp at hq; omega, t ++ [x], S', v', rfl, rfl, rfl, rfl, rfl, by rw [hS]; simp, by simp; omega, O12⟩
end
end Go.Proofs.Ytafaefeekilclaa
