/-
  The law PilePlays holds: the call answers true whatever calls it is handed, whatever the machine chooses, and nothing that was there before it is changed; no condition.
-/
import Derived.Test.YtafaefeekilclaaFk
import Derived.Test.YtafaefeekilclaaRef
import Derived.Test.YtafaefeekilclaaRows
namespace Go.Proofs.Ytafaefeekilclaa
open Go Go.Ideal Go.ChangeShapes Go.RowKit
set_option maxHeartbeats 0
set_option linter.unusedSimpArgs false
set_option linter.unusedVariables false
set_option maxRecDepth 100000
attribute [local irreducible] callV T.All T.Is run
theorem env5 : env 5 = some ir5 := rfl

/-- A call. -/
structure Op where
  o : Int
  it : It
def oc (x : Op) : List Value := .int .i64 x.o :: ic x.it
theorem oc_len (x : Op) : (oc x).length = 4 := rfl
theorem op_inv (vs : List Value) (h : Fits [.int .i64, .int .i64, .int .i64, .int .i64] vs) : ∃ s : Op, vs = oc s ∧ True := by
  match vs, h with
  | [x, y, z, u], h =>
    obtain ⟨⟨o, rfl, _⟩, ⟨a, rfl, _⟩, ⟨b, rfl, _⟩, ⟨c, rfl, _⟩, _⟩ := h
    exact ⟨⟨o, ⟨a, b, c⟩⟩, rfl, trivial⟩
  | [], h => exact h.elim
  | [_], h => exact h.2.elim
  | [_, _], h => exact h.2.2.elim
  | [_, _, _], h => exact h.2.2.2.elim
  | _ :: _ :: _ :: _ :: _ :: _, h => exact h.2.2.2.2.elim
theorem eqE (x : It) : vEqAgg false [.int, .int, .int] (iv x) (iv x) = some (.bool true) := by
  obtain ⟨a, b, c⟩ := x
  unfold vEqAgg aggEq iv
  simp [cellsEq, cellEq]
def nthO (l : List Op) (i : Nat) : Op := l.getD i ⟨0, it0⟩
theorem nthO_get {l : List Op} {i : Nat} (h : i < l.length) : l[i]? = some (nthO l i) := by
  unfold nthO
  rw [List.getD_eq_getElem?_getD, List.getElem?_eq_getElem h]
  rfl
theorem rdO {h : Heap} {bb i : Nat} {l : List Op} {t : Bool} {zz : Nat} (hb : h.get bb = some (.cells (l.flatMap oc) zz t)) (hi : i < l.length) : readC (h.get bb) (i * 4) 1 = some [.int .i64 (nthO l i).o] ∧ readC (h.get bb) (i * 4 + 1) 3 = some (ic (nthO l i).it) := by
  have hb' : h.get bb = some (.cells (l.flatMap oc ++ []) zz t) := by rw [List.append_nil]; exact hb
  have e := readN_flatMap (z := 4) oc_len l i (nthO l i)
  constructor
  · rw [hb, readC_cells, ← Nat.add_zero (i * 4)]
    exact e 0 1 (nthO_get hi) (by omega)
  · rw [hb, readC_cells]
    exact e 1 3 (nthO_get hi) (by omega)

section
variable {ro : Nat → Option (List Value × Nat)} {h : Heap} {R : List Rs} {pb : Nat} {S l : List It}
theorem all_h' {N : Nat} (hN : S.length + S.length + 40 < N) (hl : S.length < 65536) (O : Has ro h (Pq pb S :: R)) :
    (callV env N (.func (.func 20) #[] #[]) [.pointer (some ⟨pb, 0, none⟩)] h).Is fun p => Has ro p.2 (Sc 3 ic p.1 S :: Pq pb S :: R) := by
  rw [show N = (N - S.length - 11) + S.length + 11 by omega]
  exact all_h (n := N - S.length - 11) (by omega) hl O
theorem Has.sorted (O : Has ro h (Pq pb S :: R)) : Sorted S := by
  obtain ⟨l, o, _⟩ := Has.pq O
  exact o.sorted
theorem Has.pqLen (O : Has ro h (Pq pb S :: R)) : ∃ p c, h.get pb = some (.cells [.slice p S.length c] 1 false) := by
  obtain ⟨l, o, O1⟩ := Has.pq O
  obtain ⟨v, O2⟩ := Has.ex.1 O1
  replace O2 := Has.star.1 O2
  obtain ⟨p, c, rfl, _⟩ := O2.slrVal 1 rfl
  exact ⟨p, c, by rw [o.len]; exact O2.get 0 rfl⟩
theorem len_get {n m c : Nat} {p : Option Addr} (hg : h.get pb = some (.cells [.slice p m c] 1 false)) : (callV env (n + 1) (.func (.func 13) #[] #[]) [.pointer (some ⟨pb, 0, none⟩)] h).Is fun q => q = (.int .i64 (m : Int), h) := by
  refine call_is env13 ?_
  simp (disch := first | assumption | omega | (simp only [wkD, oneCell, Option.isSome_some, *]; done) | (simp only [wkE, ne_eq]; omega)) only [ir13, List.append_nil, List.nil_append, List.cons_append, List.length_cons, List.length_nil, Nat.reduceAdd, Nat.reduceSub, List.replicate_succ, List.replicate_zero, hg, wk0, wk1, wk2, wk3, wk4, wk5, X_region, X_seq, X_block, X_loop, X_cond, Y_box, Y_un, Y_store, Y_append, Y_makeMap, Y_buildSlice, ibin_shl, ibin_shr, ibin_and, List.set_cons_zero, List.set_cons_succ, List.getD_cons_zero, List.getD_cons_succ, List.map_cons, List.map_nil, ↓reduceIte, reduceCtorEq, oneCell, List.length_cons, List.length_nil, setAt, readN, bne_iff_ne, ne_eq, Nat.reduceAdd, Nat.reduceLeDiff, List.getElem?_cons_zero, List.getElem?_cons_succ, Nat.reduceMul, Option.isSome_some, layAt, Nat.reduceLT, Option.isNone_some, Option.isNone_none, beq_self_eq_true, Nat.reduceEqDiff, setParams, Int.reduceLT, Int.reduceLE, Int.reduceGT, Int.reduceGE, Int.reduceEq, Int.reduceNe, Option.map_some, Option.map_none, Option.isSome_none]
  exact leaf1 rfl
end

theorem pilePlays_run {ro : Nat → Option (List Value × Nat)} {p : Option Addr} {bb len cap : Nat} {l : List Op} (hbb : bb % 2 = 1) (hl : l.length = len)
    (hg : 0 < len → p = some ⟨bb, 0, none⟩ ∧ (fresh ro).get bb = some (.cells (l.flatMap oc) 1 true)) :
    (callV env 1000 (.func (.func 5) #[] #[]) [.slice p len cap] (fresh ro)).Is fun p => p.1 = .bool true := by
  refine call_is (n := 999) env5 ?_
  have O : Has ro (fresh ro) [] := Has.start ro
  by_cases hlen : 200 < len
  · have c : (200 : Int) < (len : Int) := by omega
    simp (disch := first | assumption | omega | (simp only [wkD, oneCell, Option.isSome_some, *]; done) | (simp only [wkE, ne_eq]; omega)) only [ir5, List.append_nil, List.nil_append, List.cons_append, List.length_cons, List.length_nil, Nat.reduceAdd, Nat.reduceSub, List.replicate_succ, List.replicate_zero, c, wk0, wk1, wk2, wk3, wk4, wk5, X_region, X_seq, X_block, X_loop, X_cond, Y_box, Y_un, Y_store, Y_append, Y_makeMap, Y_buildSlice, ibin_shl, ibin_shr, ibin_and, List.set_cons_zero, List.set_cons_succ, List.getD_cons_zero, List.getD_cons_succ, List.map_cons, List.map_nil, ↓reduceIte, reduceCtorEq, oneCell, List.length_cons, List.length_nil, setAt, readN, bne_iff_ne, ne_eq, Nat.reduceAdd, Nat.reduceLeDiff, List.getElem?_cons_zero, List.getElem?_cons_succ, Nat.reduceMul, Option.isSome_some, layAt, Nat.reduceLT, Option.isNone_some, Option.isNone_none, beq_self_eq_true, Nat.reduceEqDiff, setParams, Int.reduceLT, Int.reduceLE, Int.reduceGT, Int.reduceGE, Int.reduceEq, Int.reduceNe, Option.map_some, Option.map_none, Option.isSome_none]
    exact leaf1 rfl
  have c : ¬ (200 : Int) < (len : Int) := by omega
  simp (disch := first | assumption | omega | (simp only [wkD, oneCell, Option.isSome_some, *]; done) | (simp only [wkE, ne_eq]; omega)) only [ir5, List.append_nil, List.nil_append, List.cons_append, List.length_cons, List.length_nil, Nat.reduceAdd, Nat.reduceSub, List.replicate_succ, List.replicate_zero, c, wk0, wk1, wk2, wk3, wk4, wk5, X_region, X_seq, X_block, X_loop, X_cond, Y_un, Y_store, Y_append, Y_makeMap, Y_buildSlice, ibin_shl, ibin_shr, ibin_and, List.set_cons_zero, List.set_cons_succ, List.getD_cons_zero, List.getD_cons_succ, List.map_cons, List.map_nil, ↓reduceIte, reduceCtorEq, oneCell, List.length_cons, List.length_nil, setAt, readN, bne_iff_ne, ne_eq, Nat.reduceAdd, Nat.reduceLeDiff, List.getElem?_cons_zero, List.getElem?_cons_succ, Nat.reduceMul, Option.isSome_some, layAt, Nat.reduceLT, Option.isNone_some, Option.isNone_none, beq_self_eq_true, Nat.reduceEqDiff, setParams, Int.reduceLT, Int.reduceLE, Int.reduceGT, Int.reduceGE, Int.reduceEq, Int.reduceNe, Option.map_some, Option.map_none, Option.isSome_none]
  refine Y_boxO O ?_
  intro pa h1 O1 e1
  replace O1 := Has.newPq O1
  simp (disch := first | assumption | omega | (simp only [wkD, oneCell, Option.isSome_some, *]; done) | (simp only [wkE, ne_eq]; omega)) only [wk0, wk1, wk2, wk3, wk4, wk5, X_region, X_seq, X_block, X_loop, X_cond, Y_un, Y_store, Y_append, Y_makeMap, Y_buildSlice, ibin_shl, ibin_shr, ibin_and, List.set_cons_zero, List.set_cons_succ, List.getD_cons_zero, List.getD_cons_succ, List.map_cons, List.map_nil, ↓reduceIte, reduceCtorEq, oneCell, List.length_cons, List.length_nil, setAt, readN, bne_iff_ne, ne_eq, Nat.reduceAdd, Nat.reduceLeDiff, List.getElem?_cons_zero, List.getElem?_cons_succ, Nat.reduceMul, Option.isSome_some, layAt, Nat.reduceLT, Option.isNone_some, Option.isNone_none, beq_self_eq_true, Nat.reduceEqDiff, setParams, Int.reduceLT, Int.reduceLE, Int.reduceGT, Int.reduceGE, Int.reduceEq, Int.reduceNe, Option.map_some, Option.map_none, Option.isSome_none]
  refine Y_boxO O1 ?_
  intro qb h2 O2 e2
  replace O2 := (Has.newQq O2).swap2
  clear O O1 e1 e2
  simp (disch := first | assumption | omega | (simp only [wkD, oneCell, Option.isSome_some, *]; done) | (simp only [wkE, ne_eq]; omega)) only [wk0, wk1, wk2, wk3, wk4, wk5, X_region, X_seq, X_block, X_loop, X_cond, Y_box, Y_un, Y_store, Y_append, Y_makeMap, Y_buildSlice, ibin_shl, ibin_shr, ibin_and, List.set_cons_zero, List.set_cons_succ, List.getD_cons_zero, List.getD_cons_succ, List.map_cons, List.map_nil, ↓reduceIte, reduceCtorEq, oneCell, List.length_cons, List.length_nil, setAt, readN, bne_iff_ne, ne_eq, Nat.reduceAdd, Nat.reduceLeDiff, List.getElem?_cons_zero, List.getElem?_cons_succ, Nat.reduceMul, Option.isSome_some, layAt, Nat.reduceLT, Option.isNone_some, Option.isNone_none, beq_self_eq_true, Nat.reduceEqDiff, setParams, Int.reduceLT, Int.reduceLE, Int.reduceGT, Int.reduceGE, Int.reduceEq, Int.reduceNe, Option.map_some, Option.map_none, Option.isSome_none]
  refine L_is (fun q s => ∃ (i : Nat) (S : List It), s.defers = [] ∧ s.tmps.length = 137 ∧ s.tmps.getD 0 undefV = .slice p len cap ∧ s.tmps.getD 3 undefV = .pointer (some ⟨pa, 0, none⟩) ∧ s.tmps.getD 4 undefV = .pointer (some ⟨qb, 0, none⟩) ∧ s.tmps.getD 27 undefV = .int .i64 (len : Int) ∧ s.tmps.getD 28 undefV = .int .i64 (i : Int) ∧ q = len - i ∧ i ≤ len ∧ S.length ≤ i ∧ Has ro s.h [Pq pa S, Qq qb S]) len ?_ (by omega) ?_
  · exact ⟨0, [], rfl, rfl, rfl, rfl, rfl, rfl, rfl, rfl, by omega, by simp, O2⟩
  clear O2
  rintro q_ tm df h2 ⟨i, S, hd, hlen_, g0, g3, g4, g27, g28, hq, hi, hS, O⟩
  simp only at hd g0 g3 g4 g27 g28 O
  subst hd
  obtain ⟨w, hg_, rfl⟩ := explode hlen_
  simp only [hg_] at g0 g3 g4 g27 g28
  clear hlen_ hg_
  by_cases hlt : i < len
  · have hlt' : (i : Int) < (len : Int) := by omega
    have c0 : (0 : Int) ≤ (i : Int) := by omega
    obtain ⟨rfl, hgb⟩ := hg (by omega)
    obtain ⟨r1, r2⟩ := rdO (O.odd hbb hgb) (i := i) (by omega)
    obtain ⟨o, x, ho⟩ : ∃ o x, nthO l i = ⟨o, x⟩ := ⟨_, _, rfl⟩
    rw [ho] at r1 r2
    have y1 : IntKind.i64.wrap ((i : Int) + 1) = ((i + 1 : Nat) : Int) := by rw [wrap_i64 (by omega) (by omega)]; omega
    simp (disch := first | assumption | omega | (simp only [wkD, oneCell, Option.isSome_some, *]; done) | (simp only [wkE, ne_eq]; omega)) only [g0, g3, g4, g27, g28, hlt', c0, r1, r2, Int.toNat_natCast, agg_ic, wk0, wk1, wk2, wk3, wk4, wk5, X_region, X_seq, X_block, X_loop, X_cond, Y_un, Y_store, Y_append, Y_makeMap, Y_buildSlice, ibin_shl, ibin_shr, ibin_and, List.set_cons_zero, List.set_cons_succ, List.getD_cons_zero, List.getD_cons_succ, List.map_cons, List.map_nil, ↓reduceIte, reduceCtorEq, oneCell, List.length_cons, List.length_nil, setAt, readN, bne_iff_ne, ne_eq, Nat.reduceAdd, Nat.reduceLeDiff, List.getElem?_cons_zero, List.getElem?_cons_succ, Nat.reduceMul, Option.isSome_some, layAt, Nat.reduceLT, Option.isNone_some, Option.isNone_none, beq_self_eq_true, Nat.reduceEqDiff, setParams, Int.reduceLT, Int.reduceLE, Int.reduceGT, Int.reduceGE, Int.reduceEq, Int.reduceNe, Option.map_some, Option.map_none, Option.isSome_none]
    refine Y_boxO O ?_
    intro xb h3 O3 e3
    have g3' := O3.get 0 rfl
    have p3' := O3.can 0 rfl
    have O4 := O3.set 0 rfl (.cells (ic x) 1 false)
    simp only [List.set_cons_zero] at O4
    obtain ⟨s1, s2⟩ := rdO (O4.odd hbb hgb) (i := i) (by omega)
    rw [ho] at s1 s2
    simp (disch := first | assumption | omega | (simp only [wkD, oneCell, Option.isSome_some, *]; done) | (simp only [wkE, ne_eq]; omega)) only [g3', p3', set_ic', iv_cells, ic_len, ic_one, wk0, wk1, wk2, wk3, wk4, wk5, X_region, X_block, X_loop, X_cond, Y_box, Y_un, Y_store, Y_append, Y_makeMap, Y_buildSlice, ibin_shl, ibin_shr, ibin_and, List.set_cons_zero, List.set_cons_succ, List.getD_cons_zero, List.getD_cons_succ, List.map_cons, List.map_nil, ↓reduceIte, reduceCtorEq, oneCell, List.length_cons, List.length_nil, setAt, readN, bne_iff_ne, ne_eq, Nat.reduceAdd, Nat.reduceLeDiff, List.getElem?_cons_zero, List.getElem?_cons_succ, Nat.reduceMul, Option.isSome_some, layAt, Nat.reduceLT, Option.isNone_some, Option.isNone_none, beq_self_eq_true, Nat.reduceEqDiff, setParams, Int.reduceLT, Int.reduceLE, Int.reduceGT, Int.reduceGE, Int.reduceEq, Int.reduceNe, Option.map_some, Option.map_none, Option.isSome_none]
    rw [X_seq]
    simp (disch := first | assumption | omega | (simp only [wkD, oneCell, Option.isSome_some, *]; done) | (simp only [wkE, ne_eq]; omega)) only [wk0, wk1, wk2, wk3, wk4, wk5, X_region, X_block, X_loop, X_cond, Y_box, Y_un, Y_store, Y_append, Y_makeMap, Y_buildSlice, ibin_shl, ibin_shr, ibin_and, List.set_cons_zero, List.set_cons_succ, List.getD_cons_zero, List.getD_cons_succ, List.map_cons, List.map_nil, ↓reduceIte, reduceCtorEq, oneCell, List.length_cons, List.length_nil, setAt, readN, bne_iff_ne, ne_eq, Nat.reduceAdd, Nat.reduceLeDiff, List.getElem?_cons_zero, List.getElem?_cons_succ, Nat.reduceMul, Option.isSome_some, layAt, Nat.reduceLT, Option.isNone_some, Option.isNone_none, beq_self_eq_true, Nat.reduceEqDiff, setParams, Int.reduceLT, Int.reduceLE, Int.reduceGT, Int.reduceGE, Int.reduceEq, Int.reduceNe, Option.map_some, Option.map_none, Option.isSome_none]
    rw [X_seq]
    refine X_cut0 (fun s => ∃ S' : List It, s.tmps.length = 137 ∧ s.tmps.getD 0 undefV = .slice (some ⟨bb, 0, none⟩) len cap ∧ s.tmps.getD 3 undefV = .pointer (some ⟨pa, 0, none⟩) ∧ s.tmps.getD 4 undefV = .pointer (some ⟨qb, 0, none⟩) ∧ s.tmps.getD 7 undefV = .bool true ∧ s.tmps.getD 27 undefV = .int .i64 (len : Int) ∧ s.tmps.getD 28 undefV = .int .i64 (i : Int) ∧ Has ro s.h [Pq pa S', Qq qb S'] ∧ S'.length ≤ i + 1) ?_ ?_
    · have gx := O4.get 0 rfl
      have hso := Has.sorted (O4.at 1 rfl)
      by_cases h0 : o = 0
      · subst h0
        simp (disch := first | assumption | omega | (simp only [wkD, oneCell, Option.isSome_some, *]; done) | (simp only [wkE, ne_eq]; omega)) only [g0, g3, g4, g27, g28, c0, hlt', s1, gx, ic_len, tk_ic, rd_full, agg_ic, Int.toNat_natCast, wk0, wk1, wk2, wk3, wk4, wk5, X_region, X_seq, X_block, X_loop, X_cond, Y_box, Y_un, Y_store, Y_append, Y_makeMap, Y_buildSlice, ibin_shl, ibin_shr, ibin_and, List.set_cons_zero, List.set_cons_succ, List.getD_cons_zero, List.getD_cons_succ, List.map_cons, List.map_nil, ↓reduceIte, reduceCtorEq, oneCell, List.length_cons, List.length_nil, setAt, readN, bne_iff_ne, ne_eq, Nat.reduceAdd, Nat.reduceLeDiff, List.getElem?_cons_zero, List.getElem?_cons_succ, Nat.reduceMul, Option.isSome_some, layAt, Nat.reduceLT, Option.isNone_some, Option.isNone_none, beq_self_eq_true, Nat.reduceEqDiff, setParams, Int.reduceLT, Int.reduceLE, Int.reduceGT, Int.reduceGE, Int.reduceEq, Int.reduceNe, Option.map_some, Option.map_none, Option.isSome_none]
        refine Z_is (push_h (n := 995) (by omega) (by omega) (O4.at 1 rfl) x) ?_
        rintro v5 h5 O5
        simp only [List.eraseIdx_cons_succ, List.eraseIdx_cons_zero] at O5
        have gx5 := O5.get 1 rfl
        simp (disch := first | assumption | omega | (simp only [wkD, oneCell, Option.isSome_some, *]; done) | (simp only [wkE, ne_eq]; omega)) only [gx5, ic_len, tk_ic, rd_full, agg_ic, wk0, wk1, wk2, wk3, wk4, wk5, X_region, X_seq, X_block, X_loop, X_cond, Y_box, Y_un, Y_store, Y_append, Y_makeMap, Y_buildSlice, ibin_shl, ibin_shr, ibin_and, List.set_cons_zero, List.set_cons_succ, List.getD_cons_zero, List.getD_cons_succ, List.map_cons, List.map_nil, ↓reduceIte, reduceCtorEq, oneCell, List.length_cons, List.length_nil, setAt, readN, bne_iff_ne, ne_eq, Nat.reduceAdd, Nat.reduceLeDiff, List.getElem?_cons_zero, List.getElem?_cons_succ, Nat.reduceMul, Option.isSome_some, layAt, Nat.reduceLT, Option.isNone_some, Option.isNone_none, beq_self_eq_true, Nat.reduceEqDiff, setParams, Int.reduceLT, Int.reduceLE, Int.reduceGT, Int.reduceGE, Int.reduceEq, Int.reduceNe, Option.map_some, Option.map_none, Option.isSome_none]
        refine Z_is (rpush_h (n := 997) (by omega) (by omega) hso (O5.at 2 rfl) x) ?_
        rintro v6 h6 O6
        simp only [List.eraseIdx_cons_succ, List.eraseIdx_cons_zero] at O6
        simp (disch := first | assumption | omega | (simp only [wkD, oneCell, Option.isSome_some, *]; done) | (simp only [wkE, ne_eq]; omega)) only [wk0, wk1, wk2, wk3, wk4, wk5, X_region, X_seq, X_block, X_loop, X_cond, Y_box, Y_un, Y_store, Y_append, Y_makeMap, Y_buildSlice, ibin_shl, ibin_shr, ibin_and, List.set_cons_zero, List.set_cons_succ, List.getD_cons_zero, List.getD_cons_succ, List.map_cons, List.map_nil, ↓reduceIte, reduceCtorEq, oneCell, List.length_cons, List.length_nil, setAt, readN, bne_iff_ne, ne_eq, Nat.reduceAdd, Nat.reduceLeDiff, List.getElem?_cons_zero, List.getElem?_cons_succ, Nat.reduceMul, Option.isSome_some, layAt, Nat.reduceLT, Option.isNone_some, Option.isNone_none, beq_self_eq_true, Nat.reduceEqDiff, setParams, Int.reduceLT, Int.reduceLE, Int.reduceGT, Int.reduceGE, Int.reduceEq, Int.reduceNe, Option.map_some, Option.map_none, Option.isSome_none]
        exact mid_in ⟨_, rfl, rfl, rfl, rfl, rfl, rfl, rfl, (O6.rid 2 rfl).swap2, by rw [ins_len]; omega⟩
      by_cases h1 : o = 1
      · subst h1
        simp (disch := first | assumption | omega | (simp only [wkD, oneCell, Option.isSome_some, *]; done) | (simp only [wkE, ne_eq]; omega)) only [g0, g3, g4, g27, g28, c0, hlt', s1, gx, ic_len, tk_ic, rd_full, agg_ic, Int.toNat_natCast, wk0, wk1, wk2, wk3, wk4, wk5, X_region, X_seq, X_block, X_loop, X_cond, Y_box, Y_un, Y_store, Y_append, Y_makeMap, Y_buildSlice, ibin_shl, ibin_shr, ibin_and, List.set_cons_zero, List.set_cons_succ, List.getD_cons_zero, List.getD_cons_succ, List.map_cons, List.map_nil, ↓reduceIte, reduceCtorEq, oneCell, List.length_cons, List.length_nil, setAt, readN, bne_iff_ne, ne_eq, Nat.reduceAdd, Nat.reduceLeDiff, List.getElem?_cons_zero, List.getElem?_cons_succ, Nat.reduceMul, Option.isSome_some, layAt, Nat.reduceLT, Option.isNone_some, Option.isNone_none, beq_self_eq_true, Nat.reduceEqDiff, setParams, Int.reduceLT, Int.reduceLE, Int.reduceGT, Int.reduceGE, Int.reduceEq, Int.reduceNe, Option.map_some, Option.map_none, Option.isSome_none]
        refine Z_is (pop_h (n := 994) (by omega) (by omega) (O4.at 1 rfl)) ?_
        rintro v5 h5 ⟨rfl, O5⟩
        simp only [List.eraseIdx_cons_succ, List.eraseIdx_cons_zero] at O5
        simp (disch := first | assumption | omega | (simp only [wkD, oneCell, Option.isSome_some, *]; done) | (simp only [wkE, ne_eq]; omega)) only [wk0, wk1, wk2, wk3, wk4, wk5, X_region, X_seq, X_block, X_loop, X_cond, Y_un, Y_store, Y_append, Y_makeMap, Y_buildSlice, ibin_shl, ibin_shr, ibin_and, List.set_cons_zero, List.set_cons_succ, List.getD_cons_zero, List.getD_cons_succ, List.map_cons, List.map_nil, ↓reduceIte, reduceCtorEq, oneCell, List.length_cons, List.length_nil, setAt, readN, bne_iff_ne, ne_eq, Nat.reduceAdd, Nat.reduceLeDiff, List.getElem?_cons_zero, List.getElem?_cons_succ, Nat.reduceMul, Option.isSome_some, layAt, Nat.reduceLT, Option.isNone_some, Option.isNone_none, beq_self_eq_true, Nat.reduceEqDiff, setParams, Int.reduceLT, Int.reduceLE, Int.reduceGT, Int.reduceGE, Int.reduceEq, Int.reduceNe, Option.map_some, Option.map_none, Option.isSome_none]
        refine Y_boxO O5 ?_
        intro b6 h6 O6 e6
        have g6 := O6.get 0 rfl
        have p6 := O6.can 0 rfl
        have O7 := O6.set 0 rfl (.cells (ic (hd S)) 1 false)
        simp only [List.set_cons_zero] at O7
        simp (disch := first | assumption | omega | (simp only [wkD, oneCell, Option.isSome_some, *]; done) | (simp only [wkE, ne_eq]; omega)) only [g6, p6, set_ic', iv_cells, ic_len, ic_one, wk0, wk1, wk2, wk3, wk4, wk5, X_region, X_seq, X_block, X_loop, X_cond, Y_box, Y_un, Y_store, Y_append, Y_makeMap, Y_buildSlice, ibin_shl, ibin_shr, ibin_and, List.set_cons_zero, List.set_cons_succ, List.getD_cons_zero, List.getD_cons_succ, List.map_cons, List.map_nil, ↓reduceIte, reduceCtorEq, oneCell, List.length_cons, List.length_nil, setAt, readN, bne_iff_ne, ne_eq, Nat.reduceAdd, Nat.reduceLeDiff, List.getElem?_cons_zero, List.getElem?_cons_succ, Nat.reduceMul, Option.isSome_some, layAt, Nat.reduceLT, Option.isNone_some, Option.isNone_none, beq_self_eq_true, Nat.reduceEqDiff, setParams, Int.reduceLT, Int.reduceLE, Int.reduceGT, Int.reduceGE, Int.reduceEq, Int.reduceNe, Option.map_some, Option.map_none, Option.isSome_none]
        refine Z_is (rtop_h (n := 998) (O7.at 3 rfl)) ?_
        rintro v8 h8 ⟨rfl, O8⟩
        simp only [List.eraseIdx_cons_succ, List.eraseIdx_cons_zero] at O8
        simp (disch := first | assumption | omega | (simp only [wkD, oneCell, Option.isSome_some, *]; done) | (simp only [wkE, ne_eq]; omega)) only [wk0, wk1, wk2, wk3, wk4, wk5, X_region, X_seq, X_block, X_loop, X_cond, Y_un, Y_store, Y_append, Y_makeMap, Y_buildSlice, ibin_shl, ibin_shr, ibin_and, List.set_cons_zero, List.set_cons_succ, List.getD_cons_zero, List.getD_cons_succ, List.map_cons, List.map_nil, ↓reduceIte, reduceCtorEq, oneCell, List.length_cons, List.length_nil, setAt, readN, bne_iff_ne, ne_eq, Nat.reduceAdd, Nat.reduceLeDiff, List.getElem?_cons_zero, List.getElem?_cons_succ, Nat.reduceMul, Option.isSome_some, layAt, Nat.reduceLT, Option.isNone_some, Option.isNone_none, beq_self_eq_true, Nat.reduceEqDiff, setParams, Int.reduceLT, Int.reduceLE, Int.reduceGT, Int.reduceGE, Int.reduceEq, Int.reduceNe, Option.map_some, Option.map_none, Option.isSome_none]
        refine Y_boxO O8 ?_
        intro b9 h9 O9 e9
        have g9 := O9.get 0 rfl
        have p9 := O9.can 0 rfl
        have O10 := O9.set 0 rfl (.cells (ic (hd S)) 1 false)
        simp only [List.set_cons_zero] at O10
        simp (disch := first | assumption | omega | (simp only [wkD, oneCell, Option.isSome_some, *]; done) | (simp only [wkE, ne_eq]; omega)) only [g9, p9, set_ic', iv_cells, ic_len, ic_one, wk0, wk1, wk2, wk3, wk4, wk5, X_region, X_seq, X_block, X_loop, X_cond, Y_box, Y_un, Y_store, Y_append, Y_makeMap, Y_buildSlice, ibin_shl, ibin_shr, ibin_and, List.set_cons_zero, List.set_cons_succ, List.getD_cons_zero, List.getD_cons_succ, List.map_cons, List.map_nil, ↓reduceIte, reduceCtorEq, oneCell, List.length_cons, List.length_nil, setAt, readN, bne_iff_ne, ne_eq, Nat.reduceAdd, Nat.reduceLeDiff, List.getElem?_cons_zero, List.getElem?_cons_succ, Nat.reduceMul, Option.isSome_some, layAt, Nat.reduceLT, Option.isNone_some, Option.isNone_none, beq_self_eq_true, Nat.reduceEqDiff, setParams, Int.reduceLT, Int.reduceLE, Int.reduceGT, Int.reduceGE, Int.reduceEq, Int.reduceNe, Option.map_some, Option.map_none, Option.isSome_none]
        refine Z_is (rleast_h (n := 998) (by omega) (by omega) (O10.at 1 rfl)) ?_
        rintro v11 h11 O11
        simp only [List.eraseIdx_cons_succ, List.eraseIdx_cons_zero] at O11
        have g11 := O11.get 2 rfl
        have g12 := O11.get 3 rfl
        have eb : (!S.isEmpty == !S.isEmpty) = true := by simp
        simp (disch := first | assumption | omega | (simp only [wkD, oneCell, Option.isSome_some, *]; done) | (simp only [wkE, ne_eq]; omega)) only [g11, g12, ic_len, tk_ic, rd_full, agg_ic, eqE, eb, wk0, wk1, wk2, wk3, wk4, wk5, X_region, X_seq, X_block, X_loop, X_cond, Y_box, Y_un, Y_store, Y_append, Y_makeMap, Y_buildSlice, ibin_shl, ibin_shr, ibin_and, List.set_cons_zero, List.set_cons_succ, List.getD_cons_zero, List.getD_cons_succ, List.map_cons, List.map_nil, ↓reduceIte, reduceCtorEq, oneCell, List.length_cons, List.length_nil, setAt, readN, bne_iff_ne, ne_eq, Nat.reduceAdd, Nat.reduceLeDiff, List.getElem?_cons_zero, List.getElem?_cons_succ, Nat.reduceMul, Option.isSome_some, layAt, Nat.reduceLT, Option.isNone_some, Option.isNone_none, beq_self_eq_true, Nat.reduceEqDiff, setParams, Int.reduceLT, Int.reduceLE, Int.reduceGT, Int.reduceGE, Int.reduceEq, Int.reduceNe, Option.map_some, Option.map_none, Option.isSome_none]
        have et : S.tail = S.drop (1 : Int).toNat := by rw [show (1 : Int).toNat = 1 from rfl, List.drop_one]
        rw [et] at O11
        exact mid_in ⟨_, rfl, rfl, rfl, rfl, rfl, rfl, rfl, (((O11.rid 0 rfl).rid 1 rfl).rid 1 rfl |>.rid 2 rfl).swap2, by rw [List.length_drop]; omega⟩
      by_cases h2 : o = 2
      · subst h2
        have gc : readC (some (.cells (ic x) 1 false)) 0 1 = some [.int .i64 x.c] := rfl
        simp (disch := first | assumption | omega | (simp only [wkD, oneCell, Option.isSome_some, *]; done) | (simp only [wkE, ne_eq]; omega)) only [g0, g3, g4, g27, g28, c0, hlt', s1, gx, gc, ic_len, tk_ic, rd_full, agg_ic, Int.toNat_natCast, wk0, wk1, wk2, wk3, wk4, wk5, X_region, X_seq, X_block, X_loop, X_cond, Y_box, Y_un, Y_store, Y_append, Y_makeMap, Y_buildSlice, ibin_shl, ibin_shr, ibin_and, List.set_cons_zero, List.set_cons_succ, List.getD_cons_zero, List.getD_cons_succ, List.map_cons, List.map_nil, ↓reduceIte, reduceCtorEq, oneCell, List.length_cons, List.length_nil, setAt, readN, bne_iff_ne, ne_eq, Nat.reduceAdd, Nat.reduceLeDiff, List.getElem?_cons_zero, List.getElem?_cons_succ, Nat.reduceMul, Option.isSome_some, layAt, Nat.reduceLT, Option.isNone_some, Option.isNone_none, beq_self_eq_true, Nat.reduceEqDiff, setParams, Int.reduceLT, Int.reduceLE, Int.reduceGT, Int.reduceGE, Int.reduceEq, Int.reduceNe, Option.map_some, Option.map_none, Option.isSome_none]
        refine Z_is (least_h (S := S) (n := x.c) (by omega) (by omega) (O4.at 1 rfl)) ?_
        rintro v5 h5 O5
        simp only [List.eraseIdx_cons_succ, List.eraseIdx_cons_zero] at O5
        have gx5 := O5.get 2 rfl
        simp (disch := first | assumption | omega | (simp only [wkD, oneCell, Option.isSome_some, *]; done) | (simp only [wkE, ne_eq]; omega)) only [gx5, gc, wk0, wk1, wk2, wk3, wk4, wk5, X_region, X_seq, X_block, X_loop, X_cond, Y_box, Y_un, Y_store, Y_append, Y_makeMap, Y_buildSlice, ibin_shl, ibin_shr, ibin_and, List.set_cons_zero, List.set_cons_succ, List.getD_cons_zero, List.getD_cons_succ, List.map_cons, List.map_nil, ↓reduceIte, reduceCtorEq, oneCell, List.length_cons, List.length_nil, setAt, readN, bne_iff_ne, ne_eq, Nat.reduceAdd, Nat.reduceLeDiff, List.getElem?_cons_zero, List.getElem?_cons_succ, Nat.reduceMul, Option.isSome_some, layAt, Nat.reduceLT, Option.isNone_some, Option.isNone_none, beq_self_eq_true, Nat.reduceEqDiff, setParams, Int.reduceLT, Int.reduceLE, Int.reduceGT, Int.reduceGE, Int.reduceEq, Int.reduceNe, Option.map_some, Option.map_none, Option.isSome_none]
        refine Z_is (rleast_h (n := 998) (S := S) (m := x.c) (by omega) (by omega) (O5.at 3 rfl)) ?_
        rintro v6 h6 O6
        simp only [List.eraseIdx_cons_succ, List.eraseIdx_cons_zero] at O6
        have tl : (S.take x.c.toNat).length ≤ S.length := by rw [List.length_take]; omega
        simp (disch := first | assumption | omega | (simp only [wkD, oneCell, Option.isSome_some, *]; done) | (simp only [wkE, ne_eq]; omega)) only [wk0, wk1, wk2, wk3, wk4, wk5, X_region, X_seq, X_block, X_loop, X_cond, Y_box, Y_un, Y_store, Y_append, Y_makeMap, Y_buildSlice, ibin_shl, ibin_shr, ibin_and, List.set_cons_zero, List.set_cons_succ, List.getD_cons_zero, List.getD_cons_succ, List.map_cons, List.map_nil, ↓reduceIte, reduceCtorEq, oneCell, List.length_cons, List.length_nil, setAt, readN, bne_iff_ne, ne_eq, Nat.reduceAdd, Nat.reduceLeDiff, List.getElem?_cons_zero, List.getElem?_cons_succ, Nat.reduceMul, Option.isSome_some, layAt, Nat.reduceLT, Option.isNone_some, Option.isNone_none, beq_self_eq_true, Nat.reduceEqDiff, setParams, Int.reduceLT, Int.reduceLE, Int.reduceGT, Int.reduceGE, Int.reduceEq, Int.reduceNe, Option.map_some, Option.map_none, Option.isSome_none]
        refine Z_is (same_ok (n := 998) (O6.vw 2 rfl) (O6.vw 0 rfl) (by omega) (by omega)) ?_
        rintro v7 h7 ⟨rfl⟩
        simp (disch := first | assumption | omega | (simp only [wkD, oneCell, Option.isSome_some, *]; done) | (simp only [wkE, ne_eq]; omega)) only [wk0, wk1, wk2, wk3, wk4, wk5, X_region, X_seq, X_block, X_loop, X_cond, Y_box, Y_un, Y_store, Y_append, Y_makeMap, Y_buildSlice, ibin_shl, ibin_shr, ibin_and, List.set_cons_zero, List.set_cons_succ, List.getD_cons_zero, List.getD_cons_succ, List.map_cons, List.map_nil, ↓reduceIte, reduceCtorEq, oneCell, List.length_cons, List.length_nil, setAt, readN, bne_iff_ne, ne_eq, Nat.reduceAdd, Nat.reduceLeDiff, List.getElem?_cons_zero, List.getElem?_cons_succ, Nat.reduceMul, Option.isSome_some, layAt, Nat.reduceLT, Option.isNone_some, Option.isNone_none, beq_self_eq_true, Nat.reduceEqDiff, setParams, Int.reduceLT, Int.reduceLE, Int.reduceGT, Int.reduceGE, Int.reduceEq, Int.reduceNe, Option.map_some, Option.map_none, Option.isSome_none]
        exact mid_in ⟨_, rfl, rfl, rfl, rfl, rfl, rfl, rfl, (((O6.rid 4 rfl).rid 0 rfl).rid 1 rfl).swap2, by rw [List.length_drop]; omega⟩
      · simp (disch := first | assumption | omega | (simp only [wkD, oneCell, Option.isSome_some, *]; done) | (simp only [wkE, ne_eq]; omega)) only [g0, g3, g4, g27, g28, c0, hlt', s1, gx, ic_len, tk_ic, rd_full, agg_ic, Int.toNat_natCast, h0, h1, h2, wk0, wk1, wk2, wk3, wk4, wk5, X_region, X_seq, X_block, X_loop, X_cond, Y_box, Y_un, Y_store, Y_append, Y_makeMap, Y_buildSlice, ibin_shl, ibin_shr, ibin_and, List.set_cons_zero, List.set_cons_succ, List.getD_cons_zero, List.getD_cons_succ, List.map_cons, List.map_nil, ↓reduceIte, reduceCtorEq, oneCell, List.length_cons, List.length_nil, setAt, readN, bne_iff_ne, ne_eq, Nat.reduceAdd, Nat.reduceLeDiff, List.getElem?_cons_zero, List.getElem?_cons_succ, Nat.reduceMul, Option.isSome_some, layAt, Nat.reduceLT, Option.isNone_some, Option.isNone_none, beq_self_eq_true, Nat.reduceEqDiff, setParams, Int.reduceLT, Int.reduceLE, Int.reduceGT, Int.reduceGE, Int.reduceEq, Int.reduceNe, Option.map_some, Option.map_none, Option.isSome_none]
        exact mid_in ⟨S, rfl, rfl, rfl, rfl, rfl, rfl, rfl, O4.drop, by omega⟩
    clear O O3 O4 s1 s2 g3' p3' r1 r2 g0 g3 g4 g27 g28 e3
    rintro tm h5 ⟨S', hlen_, g0, g3, g4, g7, g27, g28, O, hS'⟩
    simp only at g0 g3 g4 g7 g27 g28 O
    obtain ⟨w, hg_, rfl⟩ := explode hlen_
    simp only [hg_] at g0 g3 g4 g7 g27 g28
    clear hlen_ hg_
    simp (disch := first | assumption | omega | (simp only [wkD, oneCell, Option.isSome_some, *]; done) | (simp only [wkE, ne_eq]; omega)) only [g0, g3, g4, g7, g27, g28, wk0, wk1, wk2, wk3, wk4, wk5, X_region, X_seq, X_block, X_loop, X_cond, Y_box, Y_un, Y_store, Y_append, Y_makeMap, Y_buildSlice, ibin_shl, ibin_shr, ibin_and, List.set_cons_zero, List.set_cons_succ, List.getD_cons_zero, List.getD_cons_succ, List.map_cons, List.map_nil, ↓reduceIte, reduceCtorEq, oneCell, List.length_cons, List.length_nil, setAt, readN, bne_iff_ne, ne_eq, Nat.reduceAdd, Nat.reduceLeDiff, List.getElem?_cons_zero, List.getElem?_cons_succ, Nat.reduceMul, Option.isSome_some, layAt, Nat.reduceLT, Option.isNone_some, Option.isNone_none, beq_self_eq_true, Nat.reduceEqDiff, setParams, Int.reduceLT, Int.reduceLE, Int.reduceGT, Int.reduceGE, Int.reduceEq, Int.reduceNe, Option.map_some, Option.map_none, Option.isSome_none]
    refine Z_is (top_h (n := 997) O) ?_
    rintro v6 h6 ⟨rfl, O6⟩
    simp only at O6
    simp (disch := first | assumption | omega | (simp only [wkD, oneCell, Option.isSome_some, *]; done) | (simp only [wkE, ne_eq]; omega)) only [g0, g3, g4, g7, g27, g28, wk0, wk1, wk2, wk3, wk4, wk5, X_region, X_seq, X_block, X_loop, X_cond, Y_un, Y_store, Y_append, Y_makeMap, Y_buildSlice, ibin_shl, ibin_shr, ibin_and, List.set_cons_zero, List.set_cons_succ, List.getD_cons_zero, List.getD_cons_succ, List.map_cons, List.map_nil, ↓reduceIte, reduceCtorEq, oneCell, List.length_cons, List.length_nil, setAt, readN, bne_iff_ne, ne_eq, Nat.reduceAdd, Nat.reduceLeDiff, List.getElem?_cons_zero, List.getElem?_cons_succ, Nat.reduceMul, Option.isSome_some, layAt, Nat.reduceLT, Option.isNone_some, Option.isNone_none, beq_self_eq_true, Nat.reduceEqDiff, setParams, Int.reduceLT, Int.reduceLE, Int.reduceGT, Int.reduceGE, Int.reduceEq, Int.reduceNe, Option.map_some, Option.map_none, Option.isSome_none]
    refine Y_boxO O6 ?_
    intro b7 h7 O7 e7
    have g70 := O7.get 0 rfl
    have p7 := O7.can 0 rfl
    have O8 := O7.set 0 rfl (.cells (ic (hd S')) 1 false)
    simp only [List.set_cons_zero] at O8
    simp (disch := first | assumption | omega | (simp only [wkD, oneCell, Option.isSome_some, *]; done) | (simp only [wkE, ne_eq]; omega)) only [g0, g3, g4, g7, g27, g28, g70, p7, set_ic', iv_cells, ic_len, ic_one, wk0, wk1, wk2, wk3, wk4, wk5, X_region, X_seq, X_block, X_loop, X_cond, Y_box, Y_un, Y_store, Y_append, Y_makeMap, Y_buildSlice, ibin_shl, ibin_shr, ibin_and, List.set_cons_zero, List.set_cons_succ, List.getD_cons_zero, List.getD_cons_succ, List.map_cons, List.map_nil, ↓reduceIte, reduceCtorEq, oneCell, List.length_cons, List.length_nil, setAt, readN, bne_iff_ne, ne_eq, Nat.reduceAdd, Nat.reduceLeDiff, List.getElem?_cons_zero, List.getElem?_cons_succ, Nat.reduceMul, Option.isSome_some, layAt, Nat.reduceLT, Option.isNone_some, Option.isNone_none, beq_self_eq_true, Nat.reduceEqDiff, setParams, Int.reduceLT, Int.reduceLE, Int.reduceGT, Int.reduceGE, Int.reduceEq, Int.reduceNe, Option.map_some, Option.map_none, Option.isSome_none]
    refine Z_is (rtop_h (n := 998) (O8.at 2 rfl)) ?_
    rintro v9 h9 ⟨rfl, O9⟩
    simp only [List.eraseIdx_cons_succ, List.eraseIdx_cons_zero] at O9
    simp (disch := first | assumption | omega | (simp only [wkD, oneCell, Option.isSome_some, *]; done) | (simp only [wkE, ne_eq]; omega)) only [g0, g3, g4, g7, g27, g28, wk0, wk1, wk2, wk3, wk4, wk5, X_region, X_seq, X_block, X_loop, X_cond, Y_un, Y_store, Y_append, Y_makeMap, Y_buildSlice, ibin_shl, ibin_shr, ibin_and, List.set_cons_zero, List.set_cons_succ, List.getD_cons_zero, List.getD_cons_succ, List.map_cons, List.map_nil, ↓reduceIte, reduceCtorEq, oneCell, List.length_cons, List.length_nil, setAt, readN, bne_iff_ne, ne_eq, Nat.reduceAdd, Nat.reduceLeDiff, List.getElem?_cons_zero, List.getElem?_cons_succ, Nat.reduceMul, Option.isSome_some, layAt, Nat.reduceLT, Option.isNone_some, Option.isNone_none, beq_self_eq_true, Nat.reduceEqDiff, setParams, Int.reduceLT, Int.reduceLE, Int.reduceGT, Int.reduceGE, Int.reduceEq, Int.reduceNe, Option.map_some, Option.map_none, Option.isSome_none]
    refine Y_boxO O9 ?_
    intro b10 h10 O10 e10
    have g10 := O10.get 0 rfl
    have p10 := O10.can 0 rfl
    have O11 := O10.set 0 rfl (.cells (ic (hd S')) 1 false)
    simp only [List.set_cons_zero] at O11
    simp (disch := first | assumption | omega | (simp only [wkD, oneCell, Option.isSome_some, *]; done) | (simp only [wkE, ne_eq]; omega)) only [g0, g3, g4, g7, g27, g28, g10, p10, set_ic', iv_cells, ic_len, ic_one, wk0, wk1, wk2, wk3, wk4, wk5, X_region, X_seq, X_block, X_loop, X_cond, Y_box, Y_un, Y_store, Y_append, Y_makeMap, Y_buildSlice, ibin_shl, ibin_shr, ibin_and, List.set_cons_zero, List.set_cons_succ, List.getD_cons_zero, List.getD_cons_succ, List.map_cons, List.map_nil, ↓reduceIte, reduceCtorEq, oneCell, List.length_cons, List.length_nil, setAt, readN, bne_iff_ne, ne_eq, Nat.reduceAdd, Nat.reduceLeDiff, List.getElem?_cons_zero, List.getElem?_cons_succ, Nat.reduceMul, Option.isSome_some, layAt, Nat.reduceLT, Option.isNone_some, Option.isNone_none, beq_self_eq_true, Nat.reduceEqDiff, setParams, Int.reduceLT, Int.reduceLE, Int.reduceGT, Int.reduceGE, Int.reduceEq, Int.reduceNe, Option.map_some, Option.map_none, Option.isSome_none]
    refine Z_is (all_h' (S := S') (by omega) (by omega) (O11.at 3 rfl)) ?_
    rintro was h12 O12
    simp only [List.eraseIdx_cons_succ, List.eraseIdx_cons_zero] at O12
    obtain ⟨pw, cw, rfl, z1⟩ := O12.scVal 0 rfl
    clear z1
    have g13 := O12.get 4 rfl
    have g15 := O12.get 2 rfl
    obtain ⟨pp, cp, gp⟩ := Has.pqLen (O12.at 1 rfl)
    obtain ⟨pq, cq, _, _, VQ, OQ⟩ := Has.qq (O12.at 3 rfl)
    have gq := OQ.get 0 rfl
    have eb : (!S'.isEmpty == !S'.isEmpty) = true := by simp
    have d0 : decide ((S'.length : Int) = (S'.length : Int)) = true := decide_eq_true rfl
    simp (disch := first | assumption | omega | (simp only [wkD, oneCell, Option.isSome_some, *]; done) | (simp only [wkE, ne_eq]; omega)) only [g0, g3, g4, g7, g27, g28, wk0, wk1, wk2, wk3, wk4, wk5, X_region, X_seq, X_block, X_loop, X_cond, Y_box, Y_un, Y_store, Y_append, Y_makeMap, Y_buildSlice, ibin_shl, ibin_shr, ibin_and, List.set_cons_zero, List.set_cons_succ, List.getD_cons_zero, List.getD_cons_succ, List.map_cons, List.map_nil, ↓reduceIte, reduceCtorEq, oneCell, List.length_cons, List.length_nil, setAt, readN, bne_iff_ne, ne_eq, Nat.reduceAdd, Nat.reduceLeDiff, List.getElem?_cons_zero, List.getElem?_cons_succ, Nat.reduceMul, Option.isSome_some, layAt, Nat.reduceLT, Option.isNone_some, Option.isNone_none, beq_self_eq_true, Nat.reduceEqDiff, setParams, Int.reduceLT, Int.reduceLE, Int.reduceGT, Int.reduceGE, Int.reduceEq, Int.reduceNe, Option.map_some, Option.map_none, Option.isSome_none]
    refine X_drawn _ fun an => ?_
    simp (disch := first | assumption | omega | (simp only [wkD, oneCell, Option.isSome_some, *]; done) | (simp only [wkE, ne_eq]; omega)) only [g0, g3, g4, g7, g27, g28, g13, g15, ic_len, tk_ic, rd_full, agg_ic, eqV, eb, wk0, wk1, wk2, wk3, wk4, wk5, X_region, X_seq, X_block, X_loop, X_cond, Y_box, Y_un, Y_store, Y_append, Y_makeMap, Y_buildSlice, ibin_shl, ibin_shr, ibin_and, List.set_cons_zero, List.set_cons_succ, List.getD_cons_zero, List.getD_cons_succ, List.map_cons, List.map_nil, ↓reduceIte, reduceCtorEq, oneCell, List.length_cons, List.length_nil, setAt, readN, bne_iff_ne, ne_eq, Nat.reduceAdd, Nat.reduceLeDiff, List.getElem?_cons_zero, List.getElem?_cons_succ, Nat.reduceMul, Option.isSome_some, layAt, Nat.reduceLT, Option.isNone_some, Option.isNone_none, beq_self_eq_true, Nat.reduceEqDiff, setParams, Int.reduceLT, Int.reduceLE, Int.reduceGT, Int.reduceGE, Int.reduceEq, Int.reduceNe, Option.map_some, Option.map_none, Option.isSome_none]
    refine DF_is (len_get (n := 998) (pb := pa) (by rw [seen0_nil_get]; exact gp)) ?_
    rintro v14 h14 ⟨rfl⟩
    simp (disch := first | assumption | omega | (simp only [wkD, oneCell, Option.isSome_some, *]; done) | (simp only [wkE, ne_eq]; omega)) only [g0, g3, g4, g7, g27, g28, gq, d0, wk0, wk1, wk2, wk3, wk4, wk5, X_region, X_seq, X_block, X_loop, X_cond, Y_box, Y_un, Y_store, Y_append, Y_makeMap, Y_buildSlice, ibin_shl, ibin_shr, ibin_and, List.set_cons_zero, List.set_cons_succ, List.getD_cons_zero, List.getD_cons_succ, List.map_cons, List.map_nil, ↓reduceIte, reduceCtorEq, oneCell, List.length_cons, List.length_nil, setAt, readN, bne_iff_ne, ne_eq, Nat.reduceAdd, Nat.reduceLeDiff, List.getElem?_cons_zero, List.getElem?_cons_succ, Nat.reduceMul, Option.isSome_some, layAt, Nat.reduceLT, Option.isNone_some, Option.isNone_none, beq_self_eq_true, Nat.reduceEqDiff, setParams, Int.reduceLT, Int.reduceLE, Int.reduceGT, Int.reduceGE, Int.reduceEq, Int.reduceNe, Option.map_some, Option.map_none, Option.isSome_none]
    refine DB_is (same_ok (n := 998) (O12.vw 0 rfl) VQ (by omega) (by omega)) ?_
    rintro v15 h15 ⟨rfl⟩
    simp (disch := first | assumption | omega | (simp only [wkD, oneCell, Option.isSome_some, *]; done) | (simp only [wkE, ne_eq]; omega)) only [g0, g3, g4, g7, g27, g28, wk0, wk1, wk2, wk3, wk4, wk5, X_region, X_seq, X_block, X_loop, X_cond, Y_box, Y_un, Y_store, Y_append, Y_makeMap, Y_buildSlice, ibin_shl, ibin_shr, ibin_and, List.set_cons_zero, List.set_cons_succ, List.getD_cons_zero, List.getD_cons_succ, List.map_cons, List.map_nil, ↓reduceIte, reduceCtorEq, oneCell, List.length_cons, List.length_nil, setAt, readN, bne_iff_ne, ne_eq, Nat.reduceAdd, Nat.reduceLeDiff, List.getElem?_cons_zero, List.getElem?_cons_succ, Nat.reduceMul, Option.isSome_some, layAt, Nat.reduceLT, Option.isNone_some, Option.isNone_none, beq_self_eq_true, Nat.reduceEqDiff, setParams, Int.reduceLT, Int.reduceLE, Int.reduceGT, Int.reduceGE, Int.reduceEq, Int.reduceNe, Option.map_some, Option.map_none, Option.isSome_none]
    have OA : (S'.length = 0 ∧ Has ro h12 [Pq pa S', Qq qb S']) ∨ (∃ (b : Nat) (sp : Option Nat) (rest : List Value) (zz : Nat) (t : Bool) (d : Array It), pw = some ⟨b, 0, sp⟩ ∧ d.size = S'.length ∧ Has ro h12 (Ar b d rest zz t :: [Pq pa S', Qq qb S'])) := by
      rcases O12.scOpen with ⟨e, _, _⟩ | ⟨b, c, rest, sp, zz, t, hv, b2, b3, b4, OB⟩
      · exact Or.inl ⟨by rw [e]; rfl, (O12.drop.rid 1 rfl).rid 2 rfl⟩
      · injection hv with hv1 hv2 hv3
        subst hv1
        refine Or.inr ⟨b, sp, rest, zz, t, S'.toArray, rfl, by simp, ?_⟩
        unfold Ar
        rw [ac_toList]
        exact (OB.rid 2 rfl).rid 3 rfl
    clear O O6 O7 O8 O9 O10 O11 O12 OQ VQ gq gp g13 g15 g70 p7 g10 p10 e7 e10 eb d0
    refine L_cut1 (fun s => s.tmps.length = 137 ∧ s.tmps.getD 0 undefV = .slice (some ⟨bb, 0, none⟩) len cap ∧ s.tmps.getD 3 undefV = .pointer (some ⟨pa, 0, none⟩) ∧ s.tmps.getD 4 undefV = .pointer (some ⟨qb, 0, none⟩) ∧ s.tmps.getD 27 undefV = .int .i64 (len : Int) ∧ s.tmps.getD 28 undefV = .int .i64 (i : Int) ∧ Has ro s.h [Pq pa S', Qq qb S']) ?_ ?_
    · refine L_is (fun q s => ∃ (j : Nat), s.defers = [] ∧ s.tmps.length = 137 ∧ s.tmps.getD 0 undefV = .slice (some ⟨bb, 0, none⟩) len cap ∧ s.tmps.getD 3 undefV = .pointer (some ⟨pa, 0, none⟩) ∧ s.tmps.getD 4 undefV = .pointer (some ⟨qb, 0, none⟩) ∧ s.tmps.getD 17 undefV = .slice pw S'.length cw ∧ s.tmps.getD 27 undefV = .int .i64 (len : Int) ∧ s.tmps.getD 28 undefV = .int .i64 (i : Int) ∧ s.tmps.getD 127 undefV = .int .i64 (S'.length : Int) ∧ s.tmps.getD 128 undefV = .int .i64 (j : Int) ∧ q = S'.length - j ∧ j ≤ S'.length ∧ ((S'.length = 0 ∧ Has ro s.h [Pq pa S', Qq qb S']) ∨ (∃ (b : Nat) (sp : Option Nat) (rest : List Value) (zz : Nat) (t : Bool) (d : Array It), pw = some ⟨b, 0, sp⟩ ∧ d.size = S'.length ∧ Has ro s.h (Ar b d rest zz t :: [Pq pa S', Qq qb S'])))) S'.length ?_ (by omega) ?_
      · exact ⟨0, rfl, rfl, rfl, rfl, rfl, rfl, rfl, rfl, rfl, rfl, rfl, by omega, OA⟩
      clear OA g0 g3 g4 g7 g27 g28 hq
      rintro q_ tm df h16 ⟨j, hd, hlen_, g0, g3, g4, g17, g27, g28, g127, g128, hq, hj, OA⟩
      simp only at hd g0 g3 g4 g17 g27 g28 g127 g128 OA
      subst hd
      obtain ⟨w, hg_, rfl⟩ := explode hlen_
      simp only [hg_] at g0 g3 g4 g17 g27 g28 g127 g128
      clear hlen_ hg_
      by_cases hlj : j < S'.length
      · have hlj' : (j : Int) < (S'.length : Int) := by omega
        have c1 : (0 : Int) ≤ (j : Int) := by omega
        have y2 : IntKind.i64.wrap ((j : Int) + 1) = ((j + 1 : Nat) : Int) := by rw [wrap_i64 (by omega) (by omega)]; omega
        rcases OA with ⟨e, _⟩ | ⟨b, sp, rest, zz, t, d, rfl, hd, OB⟩
        · omega
        obtain ⟨h17, w1, OC⟩ := wrA OB (k := j) (by omega) it0
        have cz : [Value.int .i64 0, .int .i64 0, .int .i64 0] = ic it0 := rfl
        simp (disch := first | assumption | omega | (simp only [wkD, oneCell, Option.isSome_some, *]; done) | (simp only [wkE, ne_eq]; omega)) only [g0, g3, g4, g17, g27, g28, g127, g128, hlj', c1, Int.toNat_natCast, cz, ic_len, w1, y2, wk0, wk1, wk2, wk3, wk4, wk5, X_region, X_seq, X_block, X_loop, X_cond, Y_box, Y_un, Y_store, Y_append, Y_makeMap, Y_buildSlice, ibin_shl, ibin_shr, ibin_and, List.set_cons_zero, List.set_cons_succ, List.getD_cons_zero, List.getD_cons_succ, List.map_cons, List.map_nil, ↓reduceIte, reduceCtorEq, oneCell, List.length_cons, List.length_nil, setAt, readN, bne_iff_ne, ne_eq, Nat.reduceAdd, Nat.reduceLeDiff, List.getElem?_cons_zero, List.getElem?_cons_succ, Nat.reduceMul, Option.isSome_some, layAt, Nat.reduceLT, Option.isNone_some, Option.isNone_none, beq_self_eq_true, Nat.reduceEqDiff, setParams, Int.reduceLT, Int.reduceLE, Int.reduceGT, Int.reduceGE, Int.reduceEq, Int.reduceNe, Option.map_some, Option.map_none, Option.isSome_none]
        exact Is_in ⟨S'.length - (j + 1), by omega, j + 1, rfl, rfl, rfl, rfl, rfl, rfl, rfl, rfl, rfl, rfl, rfl, by omega, Or.inr ⟨b, sp, rest, zz, t, _, rfl, by rw [Array.size_setIfInBounds]; exact hd, OC⟩⟩
      · have hlj' : ¬ (j : Int) < (S'.length : Int) := by omega
        simp (disch := first | assumption | omega | (simp only [wkD, oneCell, Option.isSome_some, *]; done) | (simp only [wkE, ne_eq]; omega)) only [g0, g3, g4, g17, g27, g28, g127, g128, hlj', wk0, wk1, wk2, wk3, wk4, wk5, X_region, X_seq, X_block, X_loop, X_cond, Y_box, Y_un, Y_store, Y_append, Y_makeMap, Y_buildSlice, ibin_shl, ibin_shr, ibin_and, List.set_cons_zero, List.set_cons_succ, List.getD_cons_zero, List.getD_cons_succ, List.map_cons, List.map_nil, ↓reduceIte, reduceCtorEq, oneCell, List.length_cons, List.length_nil, setAt, readN, bne_iff_ne, ne_eq, Nat.reduceAdd, Nat.reduceLeDiff, List.getElem?_cons_zero, List.getElem?_cons_succ, Nat.reduceMul, Option.isSome_some, layAt, Nat.reduceLT, Option.isNone_some, Option.isNone_none, beq_self_eq_true, Nat.reduceEqDiff, setParams, Int.reduceLT, Int.reduceLE, Int.reduceGT, Int.reduceGE, Int.reduceEq, Int.reduceNe, Option.map_some, Option.map_none, Option.isSome_none]
        refine Is_in ?_
        simp (disch := first | assumption | omega | (simp only [wkD, oneCell, Option.isSome_some, *]; done) | (simp only [wkE, ne_eq]; omega)) only [g0, g3, g4, g17, g27, g28, g127, g128, wk0, wk1, wk2, wk3, wk4, wk5, X_region, X_seq, X_block, X_loop, X_cond, Y_box, Y_un, Y_store, Y_append, Y_makeMap, Y_buildSlice, ibin_shl, ibin_shr, ibin_and, List.set_cons_zero, List.set_cons_succ, List.getD_cons_zero, List.getD_cons_succ, List.map_cons, List.map_nil, ↓reduceIte, reduceCtorEq, oneCell, List.length_cons, List.length_nil, setAt, readN, bne_iff_ne, ne_eq, Nat.reduceAdd, Nat.reduceLeDiff, List.getElem?_cons_zero, List.getElem?_cons_succ, Nat.reduceMul, Option.isSome_some, layAt, Nat.reduceLT, Option.isNone_some, Option.isNone_none, beq_self_eq_true, Nat.reduceEqDiff, setParams, Int.reduceLT, Int.reduceLE, Int.reduceGT, Int.reduceGE, Int.reduceEq, Int.reduceNe, Option.map_some, Option.map_none, Option.isSome_none]
        refine mid_in ⟨rfl, rfl, rfl, rfl, rfl, rfl, ?_⟩
        rcases OA with ⟨_, OB⟩ | ⟨b, sp, rest, zz, t, d, _, hd, OB⟩
        · exact OB
        · exact OB.drop
    clear OA g0 g3 g4 g7 g27 g28
    rintro tm h18 ⟨hlen_, g0, g3, g4, g27, g28, O⟩
    simp only at g0 g3 g4 g27 g28 O
    obtain ⟨w, hg_, rfl⟩ := explode hlen_
    simp only [hg_] at g0 g3 g4 g27 g28
    clear hlen_ hg_
    simp (disch := first | assumption | omega | (simp only [wkD, oneCell, Option.isSome_some, *]; done) | (simp only [wkE, ne_eq]; omega)) only [g0, g3, g4, g27, g28, y1, wk0, wk1, wk2, wk3, wk4, wk5, X_region, X_seq, X_block, X_loop, X_cond, Y_box, Y_un, Y_store, Y_append, Y_makeMap, Y_buildSlice, ibin_shl, ibin_shr, ibin_and, List.set_cons_zero, List.set_cons_succ, List.getD_cons_zero, List.getD_cons_succ, List.map_cons, List.map_nil, ↓reduceIte, reduceCtorEq, oneCell, List.length_cons, List.length_nil, setAt, readN, bne_iff_ne, ne_eq, Nat.reduceAdd, Nat.reduceLeDiff, List.getElem?_cons_zero, List.getElem?_cons_succ, Nat.reduceMul, Option.isSome_some, layAt, Nat.reduceLT, Option.isNone_some, Option.isNone_none, beq_self_eq_true, Nat.reduceEqDiff, setParams, Int.reduceLT, Int.reduceLE, Int.reduceGT, Int.reduceGE, Int.reduceEq, Int.reduceNe, Option.map_some, Option.map_none, Option.isSome_none]
    exact Is_in ⟨len - (i + 1), by omega, i + 1, S', rfl, rfl, rfl, rfl, rfl, rfl, rfl, rfl, by omega, hS', O⟩
  · have hlt' : ¬ (i : Int) < (len : Int) := by omega
    simp (disch := first | assumption | omega | (simp only [wkD, oneCell, Option.isSome_some, *]; done) | (simp only [wkE, ne_eq]; omega)) only [g0, g3, g4, g27, g28, hlt', wk0, wk1, wk2, wk3, wk4, wk5, X_region, X_seq, X_block, X_loop, X_cond, Y_box, Y_un, Y_store, Y_append, Y_makeMap, Y_buildSlice, ibin_shl, ibin_shr, ibin_and, List.set_cons_zero, List.set_cons_succ, List.getD_cons_zero, List.getD_cons_succ, List.map_cons, List.map_nil, ↓reduceIte, reduceCtorEq, oneCell, List.length_cons, List.length_nil, setAt, readN, bne_iff_ne, ne_eq, Nat.reduceAdd, Nat.reduceLeDiff, List.getElem?_cons_zero, List.getElem?_cons_succ, Nat.reduceMul, Option.isSome_some, layAt, Nat.reduceLT, Option.isNone_some, Option.isNone_none, beq_self_eq_true, Nat.reduceEqDiff, setParams, Int.reduceLT, Int.reduceLE, Int.reduceGT, Int.reduceGE, Int.reduceEq, Int.reduceNe, Option.map_some, Option.map_none, Option.isSome_none]
    refine Is_in ?_
    simp (disch := first | assumption | omega | (simp only [wkD, oneCell, Option.isSome_some, *]; done) | (simp only [wkE, ne_eq]; omega)) only [g0, g3, g4, g27, g28, wk0, wk1, wk2, wk3, wk4, wk5, X_region, X_seq, X_block, X_loop, X_cond, Y_box, Y_un, Y_store, Y_append, Y_makeMap, Y_buildSlice, ibin_shl, ibin_shr, ibin_and, List.set_cons_zero, List.set_cons_succ, List.getD_cons_zero, List.getD_cons_succ, List.map_cons, List.map_nil, ↓reduceIte, reduceCtorEq, oneCell, List.length_cons, List.length_nil, setAt, readN, bne_iff_ne, ne_eq, Nat.reduceAdd, Nat.reduceLeDiff, List.getElem?_cons_zero, List.getElem?_cons_succ, Nat.reduceMul, Option.isSome_some, layAt, Nat.reduceLT, Option.isNone_some, Option.isNone_none, beq_self_eq_true, Nat.reduceEqDiff, setParams, Int.reduceLT, Int.reduceLE, Int.reduceGT, Int.reduceGE, Int.reduceEq, Int.reduceNe, Option.map_some, Option.map_none, Option.isSome_none]
    exact leaf1 rfl

theorem pilePlays_all (N : Nat) (ro : Nat → Option (List Value × Nat)) (vs : List Value) (ha : ArgsAre N ro 0 [.slice [.int .i64, .int .i64, .int .i64, .int .i64]] vs) : (run env 1000 5 vs (fresh ro)).True := by
  match vs, ha with
  | [v0], ha =>
    obtain ⟨p, len, cap, cells, bb, rfl, hbb, hg, hl, hm, hf⟩ := argIs_slice ha.1
    obtain ⟨l, hl1, rfl, hok⟩ := fits_list oc _ _ op_inv _ _ hf
    exact run_true (pilePlays_run hbb hl1 hg).all
  | [], ha => exact ha.elim
  | _ :: _ :: _, ha => exact ha.2.elim
theorem own : ownKnob Try.prog.godebug = none := by kernel_rfl
theorem mixed : Try.prog.follows .mixedOrders = true := by kernel_rfl
theorem laid_out : laidOutB Try.prog = true := by kernel_rfl
theorem pilePlays_kinds : Try.f5.params.toList.mapM (pkOf Try.prog) = some [.slice [.int .i64, .int .i64, .int .i64, .int .i64]] := by kernel_rfl
theorem pilePlays_reads : Try.f5.params.toList.all (fun t => Try.prog.readableRec t && decide (t < Try.prog.types.size)) = true := by kernel_rfl
theorem pilePlays_size : Try.f5.params.size = 1 := by kernel_rfl
theorem pilePlays_lifted (os : Os) (started : os.Started) (H : Type) (enc : TypeId × Value → H) :
    ReturnsInHanded {} Try.checked os 5 .any (Rows.pilePlaysSpec.pre6 enc Try.prog Try.f5 [] false) (Rows.pilePlaysSpec.post enc Try.prog Try.f5 false true false false) :=
  open_lifted (C := Try.checked) (n := 1000) own started (by kernel_rfl) Try.func5 (ChangeSpec.witness6 false ⟨#[], #[.slice none 0 0], []⟩ 8 (by kernel_rfl) (by kernel_rfl) (by kernel_rfl) (by kernel_rfl)) mixed env_ok laid_out pilePlays_kinds pilePlays_reads (by rfl) Try.underlying4 rfl
    (fun ds hds => by rw [pilePlays_size] at hds; match ds, hds with | [_], _ => rfl) pilePlays_all
theorem pilePlays_holds : Rows.PilePlaysSaid :=
  OpenClaim.holds_of_wide 5 Try.f5 rfl rfl rfl rfl rfl rfl rfl ⟨rfl, rfl, rfl, rfl, rfl⟩ rfl rfl rfl rfl rfl (by kernel_rfl) Try.func5 (by kernel_rfl)
    (of_decide_eq_true (by kernel_rfl)) (by unfold Func.isWrapper; rw [if_neg (of_decide_eq_false (by kernel_rfl))]; exact ⟨rfl, rfl⟩)
    (fun os started H enc _ => by rw [OpenClaim.pre_of_none rfl]; exact pilePlays_lifted os started H enc)

end Go.Proofs.Ytafaefeekilclaa
