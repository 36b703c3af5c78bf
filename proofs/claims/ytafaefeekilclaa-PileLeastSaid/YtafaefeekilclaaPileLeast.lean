/-
  The law PileLeast holds: the call answers true whatever items and numbers it is handed, whatever the machine chooses, and nothing that was there before it is changed; no condition.
-/
import Derived.Test.YtafaefeekilclaaFk
import Derived.Test.YtafaefeekilclaaLst
import Derived.Test.YtafaefeekilclaaRows
namespace Go.Proofs.Ytafaefeekilclaa
open Go Go.Ideal Go.ChangeShapes Go.RowKit
set_option maxHeartbeats 0
set_option linter.unusedSimpArgs false
set_option linter.unusedVariables false
set_option maxRecDepth 100000
/-- The chapter's examples, in a memory in which nothing was laid yet. -/
def aliveX (ro : Nat → Option (List Value × Nat)) : T (Value × Heap) := callV env 999 (.func (.func 9) #[] #[]) [] (fresh ro)
def aliveH (ro : Nat → Option (List Value × Nat)) : Heap := match aliveX ro with
  | .ret p => p.2
  | _ => fresh ro
theorem alive_eq (ro) : aliveX ro = .ret (.bool true, aliveH ro) := by kernel_rfl
theorem alive_floor (ro) : (aliveH ro).floor = 0 := by kernel_rfl
theorem alive_hid (ro) : (aliveH ro).hid = [] := by kernel_rfl
theorem alive_ro (ro) : (aliveH ro).ro = ro := by kernel_rfl
attribute [local irreducible] callV T.All T.Is run
theorem env8 : env 8 = some ir8 := rfl

/-- Numbers of a machine. -/
def inR (x : It) : Prop := (-9223372036854775808 ≤ x.c ∧ x.c ≤ 9223372036854775807) ∧ (-9223372036854775808 ≤ x.t ∧ x.t ≤ 9223372036854775807) ∧ (-9223372036854775808 ≤ x.i ∧ x.i ≤ 9223372036854775807)
theorem it_inv (vs : List Value) (h : Fits [.int .i64, .int .i64, .int .i64] vs) : ∃ s : It, vs = ic s ∧ inR s := by
  match vs, h with
  | [x, y, z], h =>
    obtain ⟨⟨a, rfl, a1⟩, ⟨b, rfl, b1⟩, ⟨c, rfl, c1⟩, _⟩ := h
    exact ⟨⟨a, b, c⟩, rfl, a1, b1, c1⟩
  | [], h => exact h.elim
  | [_], h => exact h.2.elim
  | [_, _], h => exact h.2.2.elim
  | _ :: _ :: _ :: _ :: _, h => exact h.2.2.2.elim

section
variable {ro : Nat → Option (List Value × Nat)} {h : Heap} {R : List Rs} {pb : Nat} {S l : List It}
theorem all_h' {N : Nat} (hN : S.length + S.length + 40 < N) (hl : S.length < 65536) (O : Has ro h (Pq pb S :: R)) :
    (callV env N (.func (.func 20) #[] #[]) [.pointer (some ⟨pb, 0, none⟩)] h).Is fun p => Has ro p.2 (Sc 3 ic p.1 S :: Pq pb S :: R) := by
  rw [show N = (N - S.length - 11) + S.length + 11 by omega]
  exact all_h (n := N - S.length - 11) (by omega) hl O
theorem Has.sorted (O : Has ro h (Pq pb S :: R)) : Sorted S := by
  obtain ⟨l, o, _⟩ := Has.pq O
  exact o.sorted
end
theorem ins_head {x : It} : ∀ {S : List It}, (∀ y ∈ S, le x y) → ins x S = x :: S
  | [], _ => rfl
  | y :: S, h => by rw [ins, if_pos (h y (by simp))]
theorem ins_back {x : It} {S : List It} (h : Sorted (x :: S)) : ins x S = x :: S := ins_head h.1
theorem ins_mem {x y : It} {S : List It} (h : y ∈ ins x S) : y = x ∨ y ∈ S := by
  rw [mem_count, ins_count] at h
  by_cases e : x = y
  · exact Or.inl e.symm
  · refine Or.inr (mem_count.2 ?_)
    unfold one at h
    rw [if_neg e] at h
    omega
theorem set_ic (a b c : Value) (x : It) : setAt [a, b, c] 0 (ic x) = ic x := rfl
theorem eqW (x y : It) : vEqAgg true [.int, .int, .int] (iv x) (iv y) = some (.bool (decide (x ≠ y))) := by
  obtain ⟨a, b, c⟩ := x
  obtain ⟨d, e, f⟩ := y
  have ha : ((a == d) = decide (a = d)) := rfl
  have hb : ((b == e) = decide (b = e)) := rfl
  have hc : ((c == f) = decide (c = f)) := rfl
  unfold vEqAgg aggEq iv
  by_cases h1 : a = d <;> by_cases h2 : b = e <;> by_cases h3 : c = f <;> simp [cellsEq, cellEq, ha, hb, hc, h1, h2, h3]
theorem rdV {h : Heap} {v : Value} {l : List It} (V : Vw 3 ic h v l) {i : Nat} (hi : i < l.length) : ∃ (b off : Nat) (sp : Option Nat) (c : Nat), v = .slice (some ⟨b, off, sp⟩) l.length c ∧ readC (h.get b) (off + i * 3) 3 = some (ic (nth l i)) := by
  obtain ⟨b, off, sp, c, hv, _, k⟩ := V.rd ic_len (nth_get hi)
  exact ⟨b, off, sp, c, hv, k⟩

theorem nth_take {l : List It} {n i : Nat} (h : i < (l.take n).length) : nth (l.take n) i = nth l i := by
  have h1 : i < l.length := by rw [List.length_take] at h; omega
  have h2 := nth_get h
  rw [List.getElem?_take, if_pos (by rw [List.length_take] at h; omega), nth_get h1] at h2
  exact (Option.some.inj h2).symm
theorem nth_drop {l : List It} {n i : Nat} (h : i < (l.drop n).length) : nth (l.drop n) i = nth l (n + i) := by
  have h1 : n + i < l.length := by rw [List.length_drop] at h; omega
  have h2 := nth_get h
  rw [List.getElem?_drop, nth_get h1] at h2
  exact (Option.some.inj h2).symm

theorem rdS {h : Heap} {p : Option Addr} {n c : Nat} {l : List It} (V : Vw 3 ic h (.slice p n c) l) {i : Nat} (hi : i < l.length) : ∃ (b off : Nat) (sp : Option Nat), p = some ⟨b, off, sp⟩ ∧ readC (h.get b) (off + i * 3) 3 = some (ic (nth l i)) := by
  obtain ⟨b, off, sp, c, hv, r⟩ := rdV V hi
  cases hv
  exact ⟨b, off, sp, rfl, r⟩

theorem pileLeast_run {ro : Nat → Option (List Value × Nat)} {p : Option Addr} {bb len cap a b : Nat} {l : List It} (ha : a ≤ 255) (hb : b ≤ 255) (hbb : bb % 2 = 1) (hl : l.length = len)
    (hg : 0 < len → p = some ⟨bb, 0, none⟩ ∧ (fresh ro).get bb = some (.cells (l.flatMap ic) 1 true)) :
    (callV env 1000 (.func (.func 8) #[] #[]) [.slice p len cap, .int .u8 (a : Int), .int .u8 (b : Int)] (fresh ro)).Is fun p => p.1 = .bool true := by
  refine call_is (n := 999) env8 ?_
  simp (disch := first | assumption | omega | (simp only [wkD, oneCell, Option.isSome_some, *]; done) | (simp only [wkE, ne_eq]; omega)) only [ir8, List.append_nil, List.nil_append, List.cons_append, List.length_cons, List.length_nil, Nat.reduceAdd, Nat.reduceSub, List.replicate_succ, List.replicate_zero, wk0, wk1, wk2, wk3, wk4, wk5, X_region, X_seq, X_block, X_loop, X_cond, Y_box, Y_un, Y_store, Y_append, Y_makeMap, Y_buildSlice, ibin_shl, ibin_shr, ibin_and, List.set_cons_zero, List.set_cons_succ, List.getD_cons_zero, List.getD_cons_succ, List.map_cons, List.map_nil, ↓reduceIte, reduceCtorEq, oneCell, List.length_cons, List.length_nil, setAt, readN, bne_iff_ne, ne_eq, Nat.reduceAdd, Nat.reduceLeDiff, List.getElem?_cons_zero, List.getElem?_cons_succ, Nat.reduceMul, Option.isSome_some, layAt, Nat.reduceLT, Option.isNone_some, Option.isNone_none, beq_self_eq_true, Nat.reduceEqDiff, setParams, Int.reduceLT, Int.reduceLE, Int.reduceGT, Int.reduceGE, Int.reduceEq, Int.reduceNe, Option.map_some, Option.map_none, Option.isSome_none]
  have hA : (callV env 999 (.func (.func 9) #[] #[]) [] (fresh ro)) = .ret (.bool true, aliveH ro) := alive_eq ro
  rw [hA]
  have O : Has ro (aliveH ro) [] := Has.zero ⟨by rw [alive_floor]; omega, fun p hp => by rw [alive_hid] at hp; cases hp⟩ (alive_ro ro)
  clear hA
  generalize aliveH ro = h at O
  by_cases hlen : 200 < len
  · have c : (200 : Int) < (len : Int) := by omega
    simp (disch := first | assumption | omega | (simp only [wkD, oneCell, Option.isSome_some, *]; done) | (simp only [wkE, ne_eq]; omega)) only [c, wk0, wk1, wk2, wk3, wk4, wk5, X_region, X_seq, X_block, X_loop, X_cond, Y_box, Y_un, Y_store, Y_append, Y_makeMap, Y_buildSlice, ibin_shl, ibin_shr, ibin_and, List.set_cons_zero, List.set_cons_succ, List.getD_cons_zero, List.getD_cons_succ, List.map_cons, List.map_nil, ↓reduceIte, reduceCtorEq, oneCell, List.length_cons, List.length_nil, setAt, readN, bne_iff_ne, ne_eq, Nat.reduceAdd, Nat.reduceLeDiff, List.getElem?_cons_zero, List.getElem?_cons_succ, Nat.reduceMul, Option.isSome_some, layAt, Nat.reduceLT, Option.isNone_some, Option.isNone_none, beq_self_eq_true, Nat.reduceEqDiff, setParams, Int.reduceLT, Int.reduceLE, Int.reduceGT, Int.reduceGE, Int.reduceEq, Int.reduceNe, Option.map_some, Option.map_none, Option.isSome_none]
    exact leaf1 rfl
  have c : ¬ (200 : Int) < (len : Int) := by omega
  simp (disch := first | assumption | omega | (simp only [wkD, oneCell, Option.isSome_some, *]; done) | (simp only [wkE, ne_eq]; omega)) only [c, wk0, wk1, wk2, wk3, wk4, wk5, X_region, X_seq, X_block, X_loop, X_cond, Y_un, Y_store, Y_append, Y_makeMap, Y_buildSlice, ibin_shl, ibin_shr, ibin_and, List.set_cons_zero, List.set_cons_succ, List.getD_cons_zero, List.getD_cons_succ, List.map_cons, List.map_nil, ↓reduceIte, reduceCtorEq, oneCell, List.length_cons, List.length_nil, setAt, readN, bne_iff_ne, ne_eq, Nat.reduceAdd, Nat.reduceLeDiff, List.getElem?_cons_zero, List.getElem?_cons_succ, Nat.reduceMul, Option.isSome_some, layAt, Nat.reduceLT, Option.isNone_some, Option.isNone_none, beq_self_eq_true, Nat.reduceEqDiff, setParams, Int.reduceLT, Int.reduceLE, Int.reduceGT, Int.reduceGE, Int.reduceEq, Int.reduceNe, Option.map_some, Option.map_none, Option.isSome_none]
  refine Y_boxO O ?_
  intro pa h1 O1 e1
  simp (disch := first | assumption | omega | (simp only [wkD, oneCell, Option.isSome_some, *]; done) | (simp only [wkE, ne_eq]; omega)) only [wk0, wk1, wk2, wk3, wk4, wk5, X_region, X_seq, X_block, X_loop, X_cond, Y_un, Y_store, Y_append, Y_makeMap, Y_buildSlice, ibin_shl, ibin_shr, ibin_and, List.set_cons_zero, List.set_cons_succ, List.getD_cons_zero, List.getD_cons_succ, List.map_cons, List.map_nil, ↓reduceIte, reduceCtorEq, oneCell, List.length_cons, List.length_nil, setAt, readN, bne_iff_ne, ne_eq, Nat.reduceAdd, Nat.reduceLeDiff, List.getElem?_cons_zero, List.getElem?_cons_succ, Nat.reduceMul, Option.isSome_some, layAt, Nat.reduceLT, Option.isNone_some, Option.isNone_none, beq_self_eq_true, Nat.reduceEqDiff, setParams, Int.reduceLT, Int.reduceLE, Int.reduceGT, Int.reduceGE, Int.reduceEq, Int.reduceNe, Option.map_some, Option.map_none, Option.isSome_none]
  refine Y_boxO O1 ?_
  intro pb h2 O2 e2
  have O3 := Has.newPq (Has.newPq O2).swap2
  clear O O1 O2 e1 e2
  simp (disch := first | assumption | omega | (simp only [wkD, oneCell, Option.isSome_some, *]; done) | (simp only [wkE, ne_eq]; omega)) only [wk0, wk1, wk2, wk3, wk4, wk5, X_region, X_seq, X_block, X_loop, X_cond, Y_box, Y_un, Y_store, Y_append, Y_makeMap, Y_buildSlice, ibin_shl, ibin_shr, ibin_and, List.set_cons_zero, List.set_cons_succ, List.getD_cons_zero, List.getD_cons_succ, List.map_cons, List.map_nil, ↓reduceIte, reduceCtorEq, oneCell, List.length_cons, List.length_nil, setAt, readN, bne_iff_ne, ne_eq, Nat.reduceAdd, Nat.reduceLeDiff, List.getElem?_cons_zero, List.getElem?_cons_succ, Nat.reduceMul, Option.isSome_some, layAt, Nat.reduceLT, Option.isNone_some, Option.isNone_none, beq_self_eq_true, Nat.reduceEqDiff, setParams, Int.reduceLT, Int.reduceLE, Int.reduceGT, Int.reduceGE, Int.reduceEq, Int.reduceNe, Option.map_some, Option.map_none, Option.isSome_none]
  have wa : IntKind.i64.wrap (a : Int) = (a : Int) := wrap_i64 (by omega) (by omega)
  have wb : IntKind.i64.wrap (b : Int) = (b : Int) := wrap_i64 (by omega) (by omega)
  have wab : IntKind.i64.wrap ((a : Int) + (b : Int)) = ((a + b : Nat) : Int) := by rw [wrap_i64 (by omega) (by omega)]; omega
  refine L_cut1 (fun s => ∃ S : List It, s.tmps.length = 172 ∧ s.tmps.getD 1 undefV = .int .u8 (a : Int) ∧ s.tmps.getD 2 undefV = .int .u8 (b : Int) ∧ s.tmps.getD 7 undefV = .bool true ∧ s.tmps.getD 8 undefV = .pointer (some ⟨pa, 0, none⟩) ∧ s.tmps.getD 9 undefV = .pointer (some ⟨pb, 0, none⟩) ∧ Has ro s.h [Pq pa S, Pq pb S] ∧ S.length = len) ?_ ?_
  · refine L_is (fun q s => ∃ (i : Nat) (S : List It), s.defers = [] ∧ s.tmps.length = 172 ∧ s.tmps.getD 0 undefV = .slice p len cap ∧ s.tmps.getD 1 undefV = .int .u8 (a : Int) ∧ s.tmps.getD 2 undefV = .int .u8 (b : Int) ∧ s.tmps.getD 7 undefV = .bool true ∧ s.tmps.getD 8 undefV = .pointer (some ⟨pa, 0, none⟩) ∧ s.tmps.getD 9 undefV = .pointer (some ⟨pb, 0, none⟩) ∧ s.tmps.getD 34 undefV = .int .i64 (len : Int) ∧ s.tmps.getD 35 undefV = .int .i64 (i : Int) ∧ q = len - i ∧ i ≤ len ∧ S.length = i ∧ Has ro s.h [Pq pa S, Pq pb S]) len ?_ (by omega) ?_
    · exact ⟨0, [], rfl, rfl, rfl, rfl, rfl, rfl, rfl, rfl, rfl, rfl, rfl, by omega, rfl, O3⟩
    clear O3
    rintro q_ tm df h2 ⟨i, S, hd, hlen_, g0, g1, g2, g7, g8, g9, g34, g35, hq, hi, hS, O⟩
    simp only at hd g0 g1 g2 g7 g8 g9 g34 g35 O
    subst hd
    obtain ⟨w, hg_, rfl⟩ := explode hlen_
    simp only [hg_] at g0 g1 g2 g7 g8 g9 g34 g35
    clear hlen_ hg_
    by_cases hlt : i < len
    · have hlt' : (i : Int) < (len : Int) := by omega
      have c0 : (0 : Int) ≤ (i : Int) := by omega
      obtain ⟨rfl, hgb⟩ := hg (by omega)
      have hgb2 := O.odd hbb hgb
      have r1 : readC (h2.get bb) (i * 3) 3 = some (ic (nth l i)) := rd_all (rest := []) ic_len (nth_get (by omega)) (by rw [List.append_nil]; exact hgb2)
      have y1 : IntKind.i64.wrap ((i : Int) + 1) = ((i + 1 : Nat) : Int) := by rw [wrap_i64 (by omega) (by omega)]; omega
      simp (disch := first | assumption | omega | (simp only [wkD, oneCell, Option.isSome_some, *]; done) | (simp only [wkE, ne_eq]; omega)) only [g0, g1, g2, g7, g8, g9, g34, g35, hlt', c0, r1, Int.toNat_natCast, agg_ic, wk0, wk1, wk2, wk3, wk4, wk5, X_region, X_seq, X_block, X_loop, X_cond, Y_box, Y_un, Y_store, Y_append, Y_makeMap, Y_buildSlice, ibin_shl, ibin_shr, ibin_and, List.set_cons_zero, List.set_cons_succ, List.getD_cons_zero, List.getD_cons_succ, List.map_cons, List.map_nil, ↓reduceIte, reduceCtorEq, oneCell, List.length_cons, List.length_nil, setAt, readN, bne_iff_ne, ne_eq, Nat.reduceAdd, Nat.reduceLeDiff, List.getElem?_cons_zero, List.getElem?_cons_succ, Nat.reduceMul, Option.isSome_some, layAt, Nat.reduceLT, Option.isNone_some, Option.isNone_none, beq_self_eq_true, Nat.reduceEqDiff, setParams, Int.reduceLT, Int.reduceLE, Int.reduceGT, Int.reduceGE, Int.reduceEq, Int.reduceNe, Option.map_some, Option.map_none, Option.isSome_none]
      refine Z_is (push_h (n := 995) (by omega) (by omega) O (nth l i)) ?_
      rintro v3 h3 O3
      simp only at O3
      have hgb3 := O3.odd hbb hgb
      have r2 : readC (h3.get bb) (i * 3) 3 = some (ic (nth l i)) := rd_all (rest := []) ic_len (nth_get (by omega)) (by rw [List.append_nil]; exact hgb3)
      simp (disch := first | assumption | omega | (simp only [wkD, oneCell, Option.isSome_some, *]; done) | (simp only [wkE, ne_eq]; omega)) only [g0, g1, g2, g7, g8, g9, g34, g35, c0, r2, Int.toNat_natCast, agg_ic, wk0, wk1, wk2, wk3, wk4, wk5, X_region, X_seq, X_block, X_loop, X_cond, Y_box, Y_un, Y_store, Y_append, Y_makeMap, Y_buildSlice, ibin_shl, ibin_shr, ibin_and, List.set_cons_zero, List.set_cons_succ, List.getD_cons_zero, List.getD_cons_succ, List.map_cons, List.map_nil, ↓reduceIte, reduceCtorEq, oneCell, List.length_cons, List.length_nil, setAt, readN, bne_iff_ne, ne_eq, Nat.reduceAdd, Nat.reduceLeDiff, List.getElem?_cons_zero, List.getElem?_cons_succ, Nat.reduceMul, Option.isSome_some, layAt, Nat.reduceLT, Option.isNone_some, Option.isNone_none, beq_self_eq_true, Nat.reduceEqDiff, setParams, Int.reduceLT, Int.reduceLE, Int.reduceGT, Int.reduceGE, Int.reduceEq, Int.reduceNe, Option.map_some, Option.map_none, Option.isSome_none]
      refine Z_is (push_h (n := 995) (S := S) (by omega) (by omega) O3.swap2 (nth l i)) ?_
      rintro v4 h4 O4
      simp only at O4
      simp (disch := first | assumption | omega | (simp only [wkD, oneCell, Option.isSome_some, *]; done) | (simp only [wkE, ne_eq]; omega)) only [y1, wk0, wk1, wk2, wk3, wk4, wk5, X_region, X_seq, X_block, X_loop, X_cond, Y_box, Y_un, Y_store, Y_append, Y_makeMap, Y_buildSlice, ibin_shl, ibin_shr, ibin_and, List.set_cons_zero, List.set_cons_succ, List.getD_cons_zero, List.getD_cons_succ, List.map_cons, List.map_nil, ↓reduceIte, reduceCtorEq, oneCell, List.length_cons, List.length_nil, setAt, readN, bne_iff_ne, ne_eq, Nat.reduceAdd, Nat.reduceLeDiff, List.getElem?_cons_zero, List.getElem?_cons_succ, Nat.reduceMul, Option.isSome_some, layAt, Nat.reduceLT, Option.isNone_some, Option.isNone_none, beq_self_eq_true, Nat.reduceEqDiff, setParams, Int.reduceLT, Int.reduceLE, Int.reduceGT, Int.reduceGE, Int.reduceEq, Int.reduceNe, Option.map_some, Option.map_none, Option.isSome_none]
      exact Is_in ⟨len - (i + 1), by omega, i + 1, _, rfl, rfl, rfl, rfl, rfl, rfl, rfl, rfl, rfl, rfl, rfl, by omega, by rw [ins_len]; omega, O4.swap2⟩
    · have hlt' : ¬ (i : Int) < (len : Int) := by omega
      simp (disch := first | assumption | omega | (simp only [wkD, oneCell, Option.isSome_some, *]; done) | (simp only [wkE, ne_eq]; omega)) only [g0, g1, g2, g7, g8, g9, g34, g35, hlt', wk0, wk1, wk2, wk3, wk4, wk5, X_region, X_seq, X_block, X_loop, X_cond, Y_box, Y_un, Y_store, Y_append, Y_makeMap, Y_buildSlice, ibin_shl, ibin_shr, ibin_and, List.set_cons_zero, List.set_cons_succ, List.getD_cons_zero, List.getD_cons_succ, List.map_cons, List.map_nil, ↓reduceIte, reduceCtorEq, oneCell, List.length_cons, List.length_nil, setAt, readN, bne_iff_ne, ne_eq, Nat.reduceAdd, Nat.reduceLeDiff, List.getElem?_cons_zero, List.getElem?_cons_succ, Nat.reduceMul, Option.isSome_some, layAt, Nat.reduceLT, Option.isNone_some, Option.isNone_none, beq_self_eq_true, Nat.reduceEqDiff, setParams, Int.reduceLT, Int.reduceLE, Int.reduceGT, Int.reduceGE, Int.reduceEq, Int.reduceNe, Option.map_some, Option.map_none, Option.isSome_none]
      refine Is_in ?_
      simp (disch := first | assumption | omega | (simp only [wkD, oneCell, Option.isSome_some, *]; done) | (simp only [wkE, ne_eq]; omega)) only [wk0, wk1, wk2, wk3, wk4, wk5, X_region, X_seq, X_block, X_loop, X_cond, Y_box, Y_un, Y_store, Y_append, Y_makeMap, Y_buildSlice, ibin_shl, ibin_shr, ibin_and, List.set_cons_zero, List.set_cons_succ, List.getD_cons_zero, List.getD_cons_succ, List.map_cons, List.map_nil, ↓reduceIte, reduceCtorEq, oneCell, List.length_cons, List.length_nil, setAt, readN, bne_iff_ne, ne_eq, Nat.reduceAdd, Nat.reduceLeDiff, List.getElem?_cons_zero, List.getElem?_cons_succ, Nat.reduceMul, Option.isSome_some, layAt, Nat.reduceLT, Option.isNone_some, Option.isNone_none, beq_self_eq_true, Nat.reduceEqDiff, setParams, Int.reduceLT, Int.reduceLE, Int.reduceGT, Int.reduceGE, Int.reduceEq, Int.reduceNe, Option.map_some, Option.map_none, Option.isSome_none]
      exact mid_in ⟨S, rfl, rfl, rfl, rfl, rfl, rfl, O, by omega⟩
  clear O3
  rintro tm h2 ⟨S, hlen_, g1, g2, g7, g8, g9, O, hS⟩
  simp only at g1 g2 g7 g8 g9 O
  obtain ⟨w, hg_, rfl⟩ := explode hlen_
  simp only [hg_] at g1 g2 g7 g8 g9
  clear hlen_ hg_
  simp (disch := first | assumption | omega | (simp only [wkD, oneCell, Option.isSome_some, *]; done) | (simp only [wkE, ne_eq]; omega)) only [g1, g2, g7, g8, g9, wk0, wk1, wk2, wk3, wk4, wk5, X_region, X_seq, X_block, X_loop, X_cond, Y_box, Y_un, Y_store, Y_append, Y_makeMap, Y_buildSlice, ibin_shl, ibin_shr, ibin_and, List.set_cons_zero, List.set_cons_succ, List.getD_cons_zero, List.getD_cons_succ, List.map_cons, List.map_nil, ↓reduceIte, reduceCtorEq, oneCell, List.length_cons, List.length_nil, setAt, readN, bne_iff_ne, ne_eq, Nat.reduceAdd, Nat.reduceLeDiff, List.getElem?_cons_zero, List.getElem?_cons_succ, Nat.reduceMul, Option.isSome_some, layAt, Nat.reduceLT, Option.isNone_some, Option.isNone_none, beq_self_eq_true, Nat.reduceEqDiff, setParams, Int.reduceLT, Int.reduceLE, Int.reduceGT, Int.reduceGE, Int.reduceEq, Int.reduceNe, Option.map_some, Option.map_none, Option.isSome_none]
  refine Z_is (all_h' (by omega) (by omega) O) ?_
  rintro was h3 O3
  simp only at O3
  simp (disch := first | assumption | omega | (simp only [wkD, oneCell, Option.isSome_some, *]; done) | (simp only [wkE, ne_eq]; omega)) only [g1, g2, g7, g8, g9, wa, wk0, wk1, wk2, wk3, wk4, wk5, X_region, X_seq, X_block, X_loop, X_cond, Y_box, Y_un, Y_store, Y_append, Y_makeMap, Y_buildSlice, ibin_shl, ibin_shr, ibin_and, List.set_cons_zero, List.set_cons_succ, List.getD_cons_zero, List.getD_cons_succ, List.map_cons, List.map_nil, ↓reduceIte, reduceCtorEq, oneCell, List.length_cons, List.length_nil, setAt, readN, bne_iff_ne, ne_eq, Nat.reduceAdd, Nat.reduceLeDiff, List.getElem?_cons_zero, List.getElem?_cons_succ, Nat.reduceMul, Option.isSome_some, layAt, Nat.reduceLT, Option.isNone_some, Option.isNone_none, beq_self_eq_true, Nat.reduceEqDiff, setParams, Int.reduceLT, Int.reduceLE, Int.reduceGT, Int.reduceGE, Int.reduceEq, Int.reduceNe, Option.map_some, Option.map_none, Option.isSome_none]
  refine Z_is (least_h (S := S) (n := (a : Int)) (by omega) (by omega) (O3.at 1 rfl)) ?_
  rintro l1 h4 O4
  simp only at O4
  rw [Int.toNat_natCast] at O4
  have ln1 : (S.take a).length ≤ S.length := by rw [List.length_take]; omega
  have ln2 : (S.drop a).length ≤ S.length := by rw [List.length_drop]; omega
  simp (disch := first | assumption | omega | (simp only [wkD, oneCell, Option.isSome_some, *]; done) | (simp only [wkE, ne_eq]; omega)) only [g1, g2, g7, g8, g9, wb, wk0, wk1, wk2, wk3, wk4, wk5, X_region, X_seq, X_block, X_loop, X_cond, Y_box, Y_un, Y_store, Y_append, Y_makeMap, Y_buildSlice, ibin_shl, ibin_shr, ibin_and, List.set_cons_zero, List.set_cons_succ, List.getD_cons_zero, List.getD_cons_succ, List.map_cons, List.map_nil, ↓reduceIte, reduceCtorEq, oneCell, List.length_cons, List.length_nil, setAt, readN, bne_iff_ne, ne_eq, Nat.reduceAdd, Nat.reduceLeDiff, List.getElem?_cons_zero, List.getElem?_cons_succ, Nat.reduceMul, Option.isSome_some, layAt, Nat.reduceLT, Option.isNone_some, Option.isNone_none, beq_self_eq_true, Nat.reduceEqDiff, setParams, Int.reduceLT, Int.reduceLE, Int.reduceGT, Int.reduceGE, Int.reduceEq, Int.reduceNe, Option.map_some, Option.map_none, Option.isSome_none]
  refine Z_is (least_h (S := S.drop a) (n := (b : Int)) (by omega) (by omega) (O4.at 1 rfl)) ?_
  rintro l2 h5 O5
  simp only at O5
  rw [Int.toNat_natCast] at O5
  simp (disch := first | assumption | omega | (simp only [wkD, oneCell, Option.isSome_some, *]; done) | (simp only [wkE, ne_eq]; omega)) only [g1, g2, g7, g8, g9, wa, wb, wab, wk0, wk1, wk2, wk3, wk4, wk5, X_region, X_seq, X_block, X_loop, X_cond, Y_box, Y_un, Y_store, Y_append, Y_makeMap, Y_buildSlice, ibin_shl, ibin_shr, ibin_and, List.set_cons_zero, List.set_cons_succ, List.getD_cons_zero, List.getD_cons_succ, List.map_cons, List.map_nil, ↓reduceIte, reduceCtorEq, oneCell, List.length_cons, List.length_nil, setAt, readN, bne_iff_ne, ne_eq, Nat.reduceAdd, Nat.reduceLeDiff, List.getElem?_cons_zero, List.getElem?_cons_succ, Nat.reduceMul, Option.isSome_some, layAt, Nat.reduceLT, Option.isNone_some, Option.isNone_none, beq_self_eq_true, Nat.reduceEqDiff, setParams, Int.reduceLT, Int.reduceLE, Int.reduceGT, Int.reduceGE, Int.reduceEq, Int.reduceNe, Option.map_some, Option.map_none, Option.isSome_none]
  refine Z_is (least_h (S := S) (n := ((a + b : Nat) : Int)) (by omega) (by omega) (O5.at 4 rfl)) ?_
  rintro l3 h6 O6
  simp only at O6
  rw [Int.toNat_natCast] at O6
  simp only [List.eraseIdx_cons_succ, List.eraseIdx_cons_zero] at O6
  rw [List.drop_drop] at O6
  obtain ⟨pw, cw, rfl, z1⟩ := O6.scVal 5 rfl
  obtain ⟨p1, c1, rfl, z2⟩ := O6.scVal 4 rfl
  obtain ⟨p2, c2, rfl, z3⟩ := O6.scVal 2 rfl
  obtain ⟨p3, c3, rfl, z4⟩ := O6.scVal 0 rfl
  clear z1 z2 z3 z4 O O3 O4 O5
  obtain ⟨m, hm⟩ : ∃ m, m = (S.take a).length + ((S.drop a).take b).length := ⟨_, rfl⟩
  have hla : (S.take a).length = min a S.length := List.length_take
  have hlb : ((S.drop a).take b).length = min b (S.length - a) := by rw [List.length_take, List.length_drop]
  have hC : (S.take (a + b)).length = m := by rw [List.length_take]; omega
  have hld : (S.drop (a + b)).length = S.length - (a + b) := List.length_drop
  have wl : IntKind.i64.wrap (((S.take a).length : Int) + (((S.drop a).take b).length : Int)) = (m : Int) := by rw [wrap_i64 (by omega) (by omega)]; omega
  have hmin : (if ((a + b : Nat) : Int) < (S.length : Int) then ((a + b : Nat) : Int) else (S.length : Int)) = (m : Int) := by split <;> omega
  rw [hC] at O6
  simp (disch := first | assumption | omega | (simp only [wkD, oneCell, Option.isSome_some, *]; done) | (simp only [wkE, ne_eq]; omega)) only [g1, g2, g7, g8, g9, hC, wl, wa, wb, wab, hmin, wk0, wk1, wk2, wk3, wk4, wk5, X_region, X_seq, X_block, X_loop, X_cond, Y_box, Y_un, Y_store, Y_append, Y_makeMap, Y_buildSlice, ibin_shl, ibin_shr, ibin_and, List.set_cons_zero, List.set_cons_succ, List.getD_cons_zero, List.getD_cons_succ, List.map_cons, List.map_nil, ↓reduceIte, reduceCtorEq, oneCell, List.length_cons, List.length_nil, setAt, readN, bne_iff_ne, ne_eq, Nat.reduceAdd, Nat.reduceLeDiff, List.getElem?_cons_zero, List.getElem?_cons_succ, Nat.reduceMul, Option.isSome_some, layAt, Nat.reduceLT, Option.isNone_some, Option.isNone_none, beq_self_eq_true, Nat.reduceEqDiff, setParams, Int.reduceLT, Int.reduceLE, Int.reduceGT, Int.reduceGE, Int.reduceEq, Int.reduceNe, Option.map_some, Option.map_none, Option.isSome_none]
  refine Z_is (len_h (n := 998) (O6.at 3 rfl)) ?_
  rintro v7 h7 ⟨rfl⟩
  simp (disch := first | assumption | omega | (simp only [wkD, oneCell, Option.isSome_some, *]; done) | (simp only [wkE, ne_eq]; omega)) only [g1, g2, g7, g8, g9, wk0, wk1, wk2, wk3, wk4, wk5, X_region, X_seq, X_block, X_loop, X_cond, Y_box, Y_un, Y_store, Y_append, Y_makeMap, Y_buildSlice, ibin_shl, ibin_shr, ibin_and, List.set_cons_zero, List.set_cons_succ, List.getD_cons_zero, List.getD_cons_succ, List.map_cons, List.map_nil, ↓reduceIte, reduceCtorEq, oneCell, List.length_cons, List.length_nil, setAt, readN, bne_iff_ne, ne_eq, Nat.reduceAdd, Nat.reduceLeDiff, List.getElem?_cons_zero, List.getElem?_cons_succ, Nat.reduceMul, Option.isSome_some, layAt, Nat.reduceLT, Option.isNone_some, Option.isNone_none, beq_self_eq_true, Nat.reduceEqDiff, setParams, Int.reduceLT, Int.reduceLE, Int.reduceGT, Int.reduceGE, Int.reduceEq, Int.reduceNe, Option.map_some, Option.map_none, Option.isSome_none]
  refine Z_is (len_h (n := 998) (O6.at 1 rfl)) ?_
  rintro v8 h8 ⟨rfl⟩
  simp (disch := first | assumption | omega | (simp only [wkD, oneCell, Option.isSome_some, *]; done) | (simp only [wkE, ne_eq]; omega)) only [g1, g2, g7, g8, g9, wk0, wk1, wk2, wk3, wk4, wk5, X_region, X_seq, X_block, X_loop, X_cond, Y_box, Y_un, Y_store, Y_append, Y_makeMap, Y_buildSlice, ibin_shl, ibin_shr, ibin_and, List.set_cons_zero, List.set_cons_succ, List.getD_cons_zero, List.getD_cons_succ, List.map_cons, List.map_nil, ↓reduceIte, reduceCtorEq, oneCell, List.length_cons, List.length_nil, setAt, readN, bne_iff_ne, ne_eq, Nat.reduceAdd, Nat.reduceLeDiff, List.getElem?_cons_zero, List.getElem?_cons_succ, Nat.reduceMul, Option.isSome_some, layAt, Nat.reduceLT, Option.isNone_some, Option.isNone_none, beq_self_eq_true, Nat.reduceEqDiff, setParams, Int.reduceLT, Int.reduceLE, Int.reduceGT, Int.reduceGE, Int.reduceEq, Int.reduceNe, Option.map_some, Option.map_none, Option.isSome_none]
  refine L_cut1 (fun s => s.tmps.length = 172 ∧ s.tmps.getD 7 undefV = .bool true ∧ s.tmps.getD 8 undefV = .pointer (some ⟨pa, 0, none⟩) ∧ s.tmps.getD 11 undefV = .slice pw S.length cw ∧ s.tmps.getD 15 undefV = .int .i64 (m : Int) ∧ Has ro s.h [Sc 3 ic (.slice p3 m c3) (S.take (a + b)), Pq pb (S.drop (a + b)), Sc 3 ic (.slice p2 ((S.drop a).take b).length c2) ((S.drop a).take b), Pq pa (S.drop (a + b)), Sc 3 ic (.slice p1 (S.take a).length c1) (S.take a), Sc 3 ic (.slice pw S.length cw) S]) ?_ ?_
  · refine L_is (fun q s => ∃ (i : Nat), s.defers = [] ∧ s.tmps.length = 172 ∧ s.tmps.getD 7 undefV = .bool true ∧ s.tmps.getD 8 undefV = .pointer (some ⟨pa, 0, none⟩) ∧ s.tmps.getD 11 undefV = .slice pw S.length cw ∧ s.tmps.getD 12 undefV = .slice p1 (S.take a).length c1 ∧ s.tmps.getD 13 undefV = .slice p2 ((S.drop a).take b).length c2 ∧ s.tmps.getD 14 undefV = .slice p3 m c3 ∧ s.tmps.getD 15 undefV = .int .i64 (m : Int) ∧ s.tmps.getD 97 undefV = .int .i64 (m : Int) ∧ s.tmps.getD 98 undefV = .int .i64 (i : Int) ∧ q = m - i ∧ i ≤ m ∧ Has ro s.h [Sc 3 ic (.slice p3 m c3) (S.take (a + b)), Pq pb (S.drop (a + b)), Sc 3 ic (.slice p2 ((S.drop a).take b).length c2) ((S.drop a).take b), Pq pa (S.drop (a + b)), Sc 3 ic (.slice p1 (S.take a).length c1) (S.take a), Sc 3 ic (.slice pw S.length cw) S]) m ?_ (by omega) ?_
    · exact ⟨0, rfl, rfl, rfl, rfl, rfl, rfl, rfl, rfl, rfl, rfl, rfl, rfl, by omega, O6⟩
    clear O6 g1 g2 g7 g8 g9
    rintro q_ tm df h9 ⟨i, hd, hlen_, g7, g8, g11, g12, g13, g14, g15, g97, g98, hq, hi, O6⟩
    simp only at hd g7 g8 g11 g12 g13 g14 g15 g97 g98 O6
    subst hd
    obtain ⟨w, hg_, rfl⟩ := explode hlen_
    simp only [hg_] at g7 g8 g11 g12 g13 g14 g15 g97 g98
    clear hlen_ hg_
    by_cases hlt : i < m
    · have hlt' : (i : Int) < (m : Int) := by omega
      have c0 : (0 : Int) ≤ (i : Int) := by omega
      have c1' : (i : Int) < (S.length : Int) := by omega
      have y1 : IntKind.i64.wrap ((i : Int) + 1) = ((i + 1 : Nat) : Int) := by rw [wrap_i64 (by omega) (by omega)]; omega
      obtain ⟨bw, ow, spw, rfl, rw_⟩ := rdS (O6.vw 5 rfl) (i := i) (by omega)
      simp (disch := first | assumption | omega | (simp only [wkD, oneCell, Option.isSome_some, *]; done) | (simp only [wkE, ne_eq]; omega)) only [g7, g8, g11, g12, g13, g14, g15, g97, g98, hlt', c0, c1', rw_, Int.toNat_natCast, agg_ic, wk0, wk1, wk2, wk3, wk4, wk5, X_region, X_seq, X_block, X_loop, X_cond, Y_un, Y_store, Y_append, Y_makeMap, Y_buildSlice, ibin_shl, ibin_shr, ibin_and, List.set_cons_zero, List.set_cons_succ, List.getD_cons_zero, List.getD_cons_succ, List.map_cons, List.map_nil, ↓reduceIte, reduceCtorEq, oneCell, List.length_cons, List.length_nil, setAt, readN, bne_iff_ne, ne_eq, Nat.reduceAdd, Nat.reduceLeDiff, List.getElem?_cons_zero, List.getElem?_cons_succ, Nat.reduceMul, Option.isSome_some, layAt, Nat.reduceLT, Option.isNone_some, Option.isNone_none, beq_self_eq_true, Nat.reduceEqDiff, setParams, Int.reduceLT, Int.reduceLE, Int.reduceGT, Int.reduceGE, Int.reduceEq, Int.reduceNe, Option.map_some, Option.map_none, Option.isSome_none]
      refine Y_boxO O6 ?_
      intro xb h10 O7 e7
      have g10 := O7.get 0 rfl
      have p10 := O7.can 0 rfl
      have O8 := O7.set 0 rfl (.cells (ic (nth S i)) 1 false)
      simp only [List.set_cons_zero] at O8
      have gx := O8.get 0 rfl
      obtain ⟨b3, o3, sp3, rfl, r3⟩ := rdS (O8.vw 1 rfl) (i := i) (by omega)
      have en3 : nth (S.take (a + b)) i = nth S i := nth_take (by omega)
      simp (disch := first | assumption | omega | (simp only [wkD, oneCell, Option.isSome_some, *]; done) | (simp only [wkE, ne_eq]; omega)) only [g10, p10, set_ic, iv_cells, ic_len, ic_one, wk0, wk1, wk2, wk3, wk4, wk5, X_region, X_seq, X_block, X_loop, X_cond, Y_box, Y_un, Y_store, Y_append, Y_makeMap, Y_buildSlice, ibin_shl, ibin_shr, ibin_and, List.set_cons_zero, List.set_cons_succ, List.getD_cons_zero, List.getD_cons_succ, List.map_cons, List.map_nil, ↓reduceIte, reduceCtorEq, oneCell, List.length_cons, List.length_nil, setAt, readN, bne_iff_ne, ne_eq, Nat.reduceAdd, Nat.reduceLeDiff, List.getElem?_cons_zero, List.getElem?_cons_succ, Nat.reduceMul, Option.isSome_some, layAt, Nat.reduceLT, Option.isNone_some, Option.isNone_none, beq_self_eq_true, Nat.reduceEqDiff, setParams, Int.reduceLT, Int.reduceLE, Int.reduceGT, Int.reduceGE, Int.reduceEq, Int.reduceNe, Option.map_some, Option.map_none, Option.isSome_none]
      refine X_drawn _ fun an => ?_
      by_cases hA : i < (S.take a).length
      · have d1 : (i : Int) < ((S.take a).length : Int) := by omega
        have d2 : ¬ ((S.take a).length : Int) ≤ (i : Int) := by omega
        obtain ⟨b1, o1, sp1, rfl, r1⟩ := rdS (O8.vw 5 rfl) (i := i) (by omega)
        have en1 : nth (S.take a) i = nth S i := nth_take (by omega)
        simp (disch := first | assumption | omega | (simp only [wkD, oneCell, Option.isSome_some, *]; done) | (simp only [wkE, ne_eq]; omega)) only [g7, g8, g11, g12, g13, g14, g15, g97, g98, hlt', c0, c1', d1, d2, r1, r3, en1, en3, gx, ic_len, tk_ic, rd_full, Int.toNat_natCast, agg_ic, eqW, y1, wk0, wk1, wk2, wk3, wk4, wk5, X_region, X_seq, X_block, X_loop, X_cond, Y_box, Y_un, Y_store, Y_append, Y_makeMap, Y_buildSlice, ibin_shl, ibin_shr, ibin_and, List.set_cons_zero, List.set_cons_succ, List.getD_cons_zero, List.getD_cons_succ, List.map_cons, List.map_nil, ↓reduceIte, reduceCtorEq, oneCell, List.length_cons, List.length_nil, setAt, readN, bne_iff_ne, ne_eq, Nat.reduceAdd, Nat.reduceLeDiff, List.getElem?_cons_zero, List.getElem?_cons_succ, Nat.reduceMul, Option.isSome_some, layAt, Nat.reduceLT, Option.isNone_some, Option.isNone_none, beq_self_eq_true, Nat.reduceEqDiff, setParams, Int.reduceLT, Int.reduceLE, Int.reduceGT, Int.reduceGE, Int.reduceEq, Int.reduceNe, Option.map_some, Option.map_none, Option.isSome_none]
        exact Is_in ⟨m - (i + 1), by omega, i + 1, rfl, rfl, rfl, rfl, rfl, rfl, rfl, rfl, rfl, rfl, rfl, rfl, by omega, O8.drop⟩
      · have d1 : ¬ (i : Int) < ((S.take a).length : Int) := by omega
        have d2 : ((S.take a).length : Int) ≤ (i : Int) := by omega
        obtain ⟨k, hk⟩ : ∃ k, i = (S.take a).length + k := ⟨i - (S.take a).length, by omega⟩
        have wk : IntKind.i64.wrap ((i : Int) - ((S.take a).length : Int)) = (k : Int) := by rw [wrap_i64 (by omega) (by omega)]; omega
        have ck : (0 : Int) ≤ (k : Int) := by omega
        have dk : (k : Int) < (((S.drop a).take b).length : Int) := by omega
        obtain ⟨b2, o2, sp2, rfl, r2⟩ := rdS (O8.vw 3 rfl) (i := k) (by omega)
        have en2 : nth ((S.drop a).take b) k = nth S i := by
          rw [nth_take (by omega), nth_drop (by rw [List.length_drop]; omega)]
          exact congrArg (nth S) (by omega)
        simp (disch := first | assumption | omega | (simp only [wkD, oneCell, Option.isSome_some, *]; done) | (simp only [wkE, ne_eq]; omega)) only [g7, g8, g11, g12, g13, g14, g15, g97, g98, hlt', c0, c1', d1, d2, wk, ck, dk, r2, r3, en2, en3, gx, ic_len, tk_ic, rd_full, Int.toNat_natCast, agg_ic, eqW, y1, wk0, wk1, wk2, wk3, wk4, wk5, X_region, X_seq, X_block, X_loop, X_cond, Y_box, Y_un, Y_store, Y_append, Y_makeMap, Y_buildSlice, ibin_shl, ibin_shr, ibin_and, List.set_cons_zero, List.set_cons_succ, List.getD_cons_zero, List.getD_cons_succ, List.map_cons, List.map_nil, ↓reduceIte, reduceCtorEq, oneCell, List.length_cons, List.length_nil, setAt, readN, bne_iff_ne, ne_eq, Nat.reduceAdd, Nat.reduceLeDiff, List.getElem?_cons_zero, List.getElem?_cons_succ, Nat.reduceMul, Option.isSome_some, layAt, Nat.reduceLT, Option.isNone_some, Option.isNone_none, beq_self_eq_true, Nat.reduceEqDiff, setParams, Int.reduceLT, Int.reduceLE, Int.reduceGT, Int.reduceGE, Int.reduceEq, Int.reduceNe, Option.map_some, Option.map_none, Option.isSome_none]
        exact Is_in ⟨m - (i + 1), by omega, i + 1, rfl, rfl, rfl, rfl, rfl, rfl, rfl, rfl, rfl, rfl, rfl, rfl, by omega, O8.drop⟩
    · have hlt' : ¬ (i : Int) < (m : Int) := by omega
      simp (disch := first | assumption | omega | (simp only [wkD, oneCell, Option.isSome_some, *]; done) | (simp only [wkE, ne_eq]; omega)) only [g7, g8, g11, g12, g13, g14, g15, g97, g98, hlt', wk0, wk1, wk2, wk3, wk4, wk5, X_region, X_seq, X_block, X_loop, X_cond, Y_box, Y_un, Y_store, Y_append, Y_makeMap, Y_buildSlice, ibin_shl, ibin_shr, ibin_and, List.set_cons_zero, List.set_cons_succ, List.getD_cons_zero, List.getD_cons_succ, List.map_cons, List.map_nil, ↓reduceIte, reduceCtorEq, oneCell, List.length_cons, List.length_nil, setAt, readN, bne_iff_ne, ne_eq, Nat.reduceAdd, Nat.reduceLeDiff, List.getElem?_cons_zero, List.getElem?_cons_succ, Nat.reduceMul, Option.isSome_some, layAt, Nat.reduceLT, Option.isNone_some, Option.isNone_none, beq_self_eq_true, Nat.reduceEqDiff, setParams, Int.reduceLT, Int.reduceLE, Int.reduceGT, Int.reduceGE, Int.reduceEq, Int.reduceNe, Option.map_some, Option.map_none, Option.isSome_none]
      refine Is_in ?_
      simp (disch := first | assumption | omega | (simp only [wkD, oneCell, Option.isSome_some, *]; done) | (simp only [wkE, ne_eq]; omega)) only [g7, g8, g11, g12, g13, g14, g15, g97, g98, wk0, wk1, wk2, wk3, wk4, wk5, X_region, X_seq, X_block, X_loop, X_cond, Y_box, Y_un, Y_store, Y_append, Y_makeMap, Y_buildSlice, ibin_shl, ibin_shr, ibin_and, List.set_cons_zero, List.set_cons_succ, List.getD_cons_zero, List.getD_cons_succ, List.map_cons, List.map_nil, ↓reduceIte, reduceCtorEq, oneCell, List.length_cons, List.length_nil, setAt, readN, bne_iff_ne, ne_eq, Nat.reduceAdd, Nat.reduceLeDiff, List.getElem?_cons_zero, List.getElem?_cons_succ, Nat.reduceMul, Option.isSome_some, layAt, Nat.reduceLT, Option.isNone_some, Option.isNone_none, beq_self_eq_true, Nat.reduceEqDiff, setParams, Int.reduceLT, Int.reduceLE, Int.reduceGT, Int.reduceGE, Int.reduceEq, Int.reduceNe, Option.map_some, Option.map_none, Option.isSome_none]
      exact mid_in ⟨rfl, rfl, rfl, rfl, rfl, O6⟩
  clear O6 g1 g2 g7 g8 g9
  rintro tm h12 ⟨hlen_, g7, g8, g11, g15, O6⟩
  simp only at g7 g8 g11 g15 O6
  obtain ⟨w, hg_, rfl⟩ := explode hlen_
  simp only [hg_] at g7 g8 g11 g15
  clear hlen_ hg_
  simp (disch := first | assumption | omega | (simp only [wkD, oneCell, Option.isSome_some, *]; done) | (simp only [wkE, ne_eq]; omega)) only [g7, g8, g11, g15, wk0, wk1, wk2, wk3, wk4, wk5, X_region, X_seq, X_block, X_loop, X_cond, Y_box, Y_un, Y_store, Y_append, Y_makeMap, Y_buildSlice, ibin_shl, ibin_shr, ibin_and, List.set_cons_zero, List.set_cons_succ, List.getD_cons_zero, List.getD_cons_succ, List.map_cons, List.map_nil, ↓reduceIte, reduceCtorEq, oneCell, List.length_cons, List.length_nil, setAt, readN, bne_iff_ne, ne_eq, Nat.reduceAdd, Nat.reduceLeDiff, List.getElem?_cons_zero, List.getElem?_cons_succ, Nat.reduceMul, Option.isSome_some, layAt, Nat.reduceLT, Option.isNone_some, Option.isNone_none, beq_self_eq_true, Nat.reduceEqDiff, setParams, Int.reduceLT, Int.reduceLE, Int.reduceGT, Int.reduceGE, Int.reduceEq, Int.reduceNe, Option.map_some, Option.map_none, Option.isSome_none]
  refine Z_is (all_h' (S := S.drop (a + b)) (by omega) (by omega) (O6.at 3 rfl)) ?_
  rintro af h13 O13
  simp only [List.eraseIdx_cons_succ, List.eraseIdx_cons_zero] at O13
  obtain ⟨pf, cf, rfl, z1⟩ := O13.scVal 0 rfl
  clear z1
  simp (disch := first | assumption | omega | (simp only [wkD, oneCell, Option.isSome_some, *]; done) | (simp only [wkE, ne_eq]; omega)) only [g7, g8, g11, g15, wk0, wk1, wk2, wk3, wk4, wk5, X_region, X_seq, X_block, X_loop, X_cond, Y_box, Y_un, Y_store, Y_append, Y_makeMap, Y_buildSlice, ibin_shl, ibin_shr, ibin_and, List.set_cons_zero, List.set_cons_succ, List.getD_cons_zero, List.getD_cons_succ, List.map_cons, List.map_nil, ↓reduceIte, reduceCtorEq, oneCell, List.length_cons, List.length_nil, setAt, readN, bne_iff_ne, ne_eq, Nat.reduceAdd, Nat.reduceLeDiff, List.getElem?_cons_zero, List.getElem?_cons_succ, Nat.reduceMul, Option.isSome_some, layAt, Nat.reduceLT, Option.isNone_some, Option.isNone_none, beq_self_eq_true, Nat.reduceEqDiff, setParams, Int.reduceLT, Int.reduceLE, Int.reduceGT, Int.reduceGE, Int.reduceEq, Int.reduceNe, Option.map_some, Option.map_none, Option.isSome_none]
  refine L_is (fun q s => ∃ (i : Nat), s.defers = [] ∧ s.tmps.length = 172 ∧ s.tmps.getD 7 undefV = .bool true ∧ s.tmps.getD 11 undefV = .slice pw S.length cw ∧ s.tmps.getD 15 undefV = .int .i64 (m : Int) ∧ s.tmps.getD 18 undefV = .slice pf (S.drop (a + b)).length cf ∧ s.tmps.getD 146 undefV = .int .i64 ((S.drop (a + b)).length : Int) ∧ s.tmps.getD 147 undefV = .int .i64 (i : Int) ∧ q = (S.drop (a + b)).length - i ∧ i ≤ (S.drop (a + b)).length ∧ s.h = h13) (S.drop (a + b)).length ?_ (by omega) ?_
  · exact ⟨0, rfl, rfl, rfl, rfl, rfl, rfl, rfl, rfl, rfl, by omega, rfl⟩
  clear g7 g8 g11 g15
  rintro q_ tm df h14 ⟨i, hd, hlen_, g7, g11, g15, g18, g146, g147, hq, hi, hh⟩
  simp only at hd g7 g11 g15 g18 g146 g147 hh
  subst hd
  obtain ⟨w, hg_, rfl⟩ := explode hlen_
  simp only [hg_] at g7 g11 g15 g18 g146 g147
  clear hlen_ hg_
  subst hh
  by_cases hlt : i < (S.drop (a + b)).length
  · have hlt' : (i : Int) < ((S.drop (a + b)).length : Int) := by omega
    have c0 : (0 : Int) ≤ (i : Int) := by omega
    have y1 : IntKind.i64.wrap ((i : Int) + 1) = ((i + 1 : Nat) : Int) := by rw [wrap_i64 (by omega) (by omega)]; omega
    have y2 : IntKind.i64.wrap ((m : Int) + (i : Int)) = ((m + i : Nat) : Int) := by rw [wrap_i64 (by omega) (by omega)]; omega
    have c2' : (0 : Int) ≤ ((m + i : Nat) : Int) := by omega
    have c3' : ((m + i : Nat) : Int) < (S.length : Int) := by omega
    obtain ⟨b1, o1, sp1, rfl, r1⟩ := rdS (O13.vw 0 rfl) (i := i) (by omega)
    obtain ⟨b2, o2, sp2, rfl, r2⟩ := rdS (O13.vw 6 rfl) (i := m + i) (by omega)
    have en : nth (S.drop (a + b)) i = nth S (m + i) := by
      rw [nth_drop hlt]
      exact congrArg (nth S) (by omega)
    simp (disch := first | assumption | omega | (simp only [wkD, oneCell, Option.isSome_some, *]; done) | (simp only [wkE, ne_eq]; omega)) only [g7, g11, g15, g18, g146, g147, hlt', wk0, wk1, wk2, wk3, wk4, wk5, X_region, X_seq, X_block, X_loop, X_cond, Y_box, Y_un, Y_store, Y_append, Y_makeMap, Y_buildSlice, ibin_shl, ibin_shr, ibin_and, List.set_cons_zero, List.set_cons_succ, List.getD_cons_zero, List.getD_cons_succ, List.map_cons, List.map_nil, ↓reduceIte, reduceCtorEq, oneCell, List.length_cons, List.length_nil, setAt, readN, bne_iff_ne, ne_eq, Nat.reduceAdd, Nat.reduceLeDiff, List.getElem?_cons_zero, List.getElem?_cons_succ, Nat.reduceMul, Option.isSome_some, layAt, Nat.reduceLT, Option.isNone_some, Option.isNone_none, beq_self_eq_true, Nat.reduceEqDiff, setParams, Int.reduceLT, Int.reduceLE, Int.reduceGT, Int.reduceGE, Int.reduceEq, Int.reduceNe, Option.map_some, Option.map_none, Option.isSome_none]
    refine X_drawn _ fun an => ?_
    simp (disch := first | assumption | omega | (simp only [wkD, oneCell, Option.isSome_some, *]; done) | (simp only [wkE, ne_eq]; omega)) only [g7, g11, g15, g18, g146, g147, hlt', c0, c2', c3', y2, r1, r2, en, Int.toNat_natCast, agg_ic, eqW, y1, wk0, wk1, wk2, wk3, wk4, wk5, X_region, X_seq, X_block, X_loop, X_cond, Y_box, Y_un, Y_store, Y_append, Y_makeMap, Y_buildSlice, ibin_shl, ibin_shr, ibin_and, List.set_cons_zero, List.set_cons_succ, List.getD_cons_zero, List.getD_cons_succ, List.map_cons, List.map_nil, ↓reduceIte, reduceCtorEq, oneCell, List.length_cons, List.length_nil, setAt, readN, bne_iff_ne, ne_eq, Nat.reduceAdd, Nat.reduceLeDiff, List.getElem?_cons_zero, List.getElem?_cons_succ, Nat.reduceMul, Option.isSome_some, layAt, Nat.reduceLT, Option.isNone_some, Option.isNone_none, beq_self_eq_true, Nat.reduceEqDiff, setParams, Int.reduceLT, Int.reduceLE, Int.reduceGT, Int.reduceGE, Int.reduceEq, Int.reduceNe, Option.map_some, Option.map_none, Option.isSome_none]
    exact Is_in ⟨(S.drop (a + b)).length - (i + 1), by omega, i + 1, rfl, rfl, rfl, rfl, rfl, rfl, rfl, rfl, rfl, by omega, rfl⟩
  · have hlt' : ¬ (i : Int) < ((S.drop (a + b)).length : Int) := by omega
    have wf : IntKind.i64.wrap ((S.length : Int) - (m : Int)) = ((S.drop (a + b)).length : Int) := by rw [wrap_i64 (by omega) (by omega)]; omega
    simp (disch := first | assumption | omega | (simp only [wkD, oneCell, Option.isSome_some, *]; done) | (simp only [wkE, ne_eq]; omega)) only [g7, g11, g15, g18, g146, g147, hlt', wk0, wk1, wk2, wk3, wk4, wk5, X_region, X_seq, X_block, X_loop, X_cond, Y_box, Y_un, Y_store, Y_append, Y_makeMap, Y_buildSlice, ibin_shl, ibin_shr, ibin_and, List.set_cons_zero, List.set_cons_succ, List.getD_cons_zero, List.getD_cons_succ, List.map_cons, List.map_nil, ↓reduceIte, reduceCtorEq, oneCell, List.length_cons, List.length_nil, setAt, readN, bne_iff_ne, ne_eq, Nat.reduceAdd, Nat.reduceLeDiff, List.getElem?_cons_zero, List.getElem?_cons_succ, Nat.reduceMul, Option.isSome_some, layAt, Nat.reduceLT, Option.isNone_some, Option.isNone_none, beq_self_eq_true, Nat.reduceEqDiff, setParams, Int.reduceLT, Int.reduceLE, Int.reduceGT, Int.reduceGE, Int.reduceEq, Int.reduceNe, Option.map_some, Option.map_none, Option.isSome_none]
    refine Is_in ?_
    simp (disch := first | assumption | omega | (simp only [wkD, oneCell, Option.isSome_some, *]; done) | (simp only [wkE, ne_eq]; omega)) only [g7, g11, g15, g18, g146, g147, wf, wk0, wk1, wk2, wk3, wk4, wk5, X_region, X_seq, X_block, X_loop, X_cond, Y_box, Y_un, Y_store, Y_append, Y_makeMap, Y_buildSlice, ibin_shl, ibin_shr, ibin_and, List.set_cons_zero, List.set_cons_succ, List.getD_cons_zero, List.getD_cons_succ, List.map_cons, List.map_nil, ↓reduceIte, reduceCtorEq, oneCell, List.length_cons, List.length_nil, setAt, readN, bne_iff_ne, ne_eq, Nat.reduceAdd, Nat.reduceLeDiff, List.getElem?_cons_zero, List.getElem?_cons_succ, Nat.reduceMul, Option.isSome_some, layAt, Nat.reduceLT, Option.isNone_some, Option.isNone_none, beq_self_eq_true, Nat.reduceEqDiff, setParams, Int.reduceLT, Int.reduceLE, Int.reduceGT, Int.reduceGE, Int.reduceEq, Int.reduceNe, Option.map_some, Option.map_none, Option.isSome_none]
    exact leaf1 rfl

theorem u8_nat {x : Int} (h : 0 ≤ x ∧ x ≤ 255) : ∃ a : Nat, a ≤ 255 ∧ x = (a : Int) := ⟨x.toNat, by omega, by omega⟩
theorem pileLeast_all (N : Nat) (ro : Nat → Option (List Value × Nat)) (vs : List Value) (ha : ArgsAre N ro 0 [.slice [.int .i64, .int .i64, .int .i64], .one (.int .u8), .one (.int .u8)] vs) : (run env 1000 8 vs (fresh ro)).True := by
  match vs, ha with
  | [v0, v1, v2], ha =>
    obtain ⟨p, len, cap, cells, bb, rfl, hbb, hg, hl, hm, hf⟩ := argIs_slice ha.1
    obtain ⟨l, hl1, rfl, hok⟩ := fits_list ic _ _ it_inv _ _ hf
    obtain ⟨x, rfl, hx⟩ := ha.2.1
    obtain ⟨y, rfl, hy⟩ := ha.2.2.1
    obtain ⟨a, ha1, rfl⟩ := u8_nat hx
    obtain ⟨b, hb1, rfl⟩ := u8_nat hy
    exact run_true (pileLeast_run ha1 hb1 hbb hl1 hg).all
  | [], ha => exact ha.elim
  | [_], ha => exact ha.2.elim
  | [_, _], ha => exact ha.2.2.elim
  | _ :: _ :: _ :: _ :: _, ha => exact ha.2.2.2.elim
theorem own : ownKnob Try.prog.godebug = none := by kernel_rfl
theorem mixed : Try.prog.follows .mixedOrders = true := by kernel_rfl
theorem laid_out : laidOutB Try.prog = true := by kernel_rfl
theorem pileLeast_kinds : Try.f8.params.toList.mapM (pkOf Try.prog) = some [.slice [.int .i64, .int .i64, .int .i64], .one (.int .u8), .one (.int .u8)] := by kernel_rfl
theorem pileLeast_reads : Try.f8.params.toList.all (fun t => Try.prog.readableRec t && decide (t < Try.prog.types.size)) = true := by kernel_rfl
theorem pileLeast_size : Try.f8.params.size = 3 := by kernel_rfl
theorem pileLeast_lifted (os : Os) (started : os.Started) (H : Type) (enc : TypeId × Value → H) :
    ReturnsInHanded {} Try.checked os 8 .any (Rows.pileLeastSpec.pre6 enc Try.prog Try.f8 [] false) (Rows.pileLeastSpec.post enc Try.prog Try.f8 false true false false) :=
  open_lifted (C := Try.checked) (n := 1000) own started (by kernel_rfl) Try.func8 (ChangeSpec.witness6 false ⟨#[], #[.slice none 0 0, .int .u8 0, .int .u8 0], []⟩ 8 (by kernel_rfl) (by kernel_rfl) (by kernel_rfl) (by kernel_rfl)) mixed env_ok laid_out pileLeast_kinds pileLeast_reads (by rfl) Try.underlying4 rfl
    (fun ds hds => by rw [pileLeast_size] at hds; match ds, hds with | [_, _, _], _ => rfl) pileLeast_all
theorem pileLeast_holds : Rows.PileLeastSaid :=
  OpenClaim.holds_of_wide 8 Try.f8 rfl rfl rfl rfl rfl rfl rfl ⟨rfl, rfl, rfl, rfl, rfl⟩ rfl rfl rfl rfl rfl (by kernel_rfl) Try.func8 (by kernel_rfl)
    (of_decide_eq_true (by kernel_rfl)) (by unfold Func.isWrapper; rw [if_neg (of_decide_eq_false (by kernel_rfl))]; exact ⟨rfl, rfl⟩)
    (fun os started H enc _ => by rw [OpenClaim.pre_of_none rfl]; exact pileLeast_lifted os started H enc)

end Go.Proofs.Ytafaefeekilclaa
