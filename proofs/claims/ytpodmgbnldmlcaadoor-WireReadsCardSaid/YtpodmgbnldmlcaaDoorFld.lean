/-
  The fields of a message's kind, told by a loop over a function.
-/
import Derived.Test.YtpodmgbnldmlcaaDoorFk
import Derived.Test.YtpodmgbnldmlcaaDoorPut
namespace Go.Proofs.YtpodmgbnldmlcaaDoor
open Go Go.Ideal Go.ChangeShapes Go.RowKit
set_option maxHeartbeats 0
set_option linter.unusedSimpArgs false
set_option linter.unusedVariables false
set_option maxRecDepth 100000
attribute [local irreducible] callV T.All T.Is run
theorem env41 : env 41 = some ir41 := rfl

theorem Y_indexAgg1 {call : Caller} {fuel : Nat} {ar : Option Nat} {tm : List Value} {df : List Nat} {h : Heap} {K : List Fr} {d : Option Nat} {anc : List Nat} {bar : Bool} {r : List IOper} {n z : Nat} {x i : Opd} {cs : Array Value} {k : IntKind} {ii : Int} {v : Value} (hx : x.eval tm = .agg cs) (hi : i.eval tm = .int k ii) (h0 : 0 ≤ ii) (h1 : ii < n) (hv : cs.toList[ii.toNat * z]? = some v) : Y call fuel ar (⟨d, .indexAgg n z none x i, none, anc, bar⟩ :: r) tm df h K = Y call fuel ar r (putDst tm d v) df h K := by
  have e : (.indexAgg n z none x i : IOp).exec call tm h = .ret (v, h) := by
    show (.indexAgg n z none x i : IOp).run tm h = _
    simp only [IOp.run, hx, hi, asInt?, h0, h1, and_self, if_true, hv]
  rw [Y_op, e, Z_ret]

/-- A row's numbers are told one after another, up to the first zero. -/
theorem fields_h {n bE lb : Nat} {kd : Int} {F : List Int} {I : Nat → Heap → Prop} {h : Heap} (hn : 20 < n) (hk0 : 1 ≤ kd) (hk1 : kd ≤ 11) (hF : F.length = 5)
    (hE : ∀ i h, I i h → h.get bE = some (.cells [.int .i64 kd] 1 false) ∧ readC (h.get 1) ((kd - 1).toNat * 6 + 1) 5 = some (F.map fun x => .int .i64 x))
    (hy : ∀ i h, i < 5 → F.getD i 0 ≠ 0 → I i h → (callV env n (.func (.yield lb) #[] #[]) [.int .i64 (F.getD i 0)] h).Is fun p => p.1 = .bool true ∧ I (i + 1) p.2) (h0 : I 0 h) :
    (callV env (n + 1) (.func (.func 41) #[] #[.pointer (some ⟨bE, 0, none⟩)]) [.func (.yield lb) #[] #[]] h).Is fun p => ∃ m, m ≤ 5 ∧ I m p.2 ∧ (∀ j, j < m → F.getD j 0 ≠ 0) ∧ (m = 5 ∨ F.getD m 0 = 0) := by
  refine call_is env41 ?_
  obtain ⟨g1, r1⟩ := hE 0 h h0
  have y0 : IntKind.i64.wrap (kd - 1) = kd - 1 := wrap_i64 (by omega) (by omega)
  have c0 : (0 : Int) ≤ kd - 1 := by omega
  have c1 : kd - 1 < 11 := by omega
  have c2 : kd - 1 < ((11 : Nat) : Int) := by omega
  simp (disch := first | assumption | omega | (simp only [wkD, oneCell, Option.isSome_some, *]; done) | (simp only [wkE, ne_eq]; omega)) only [ir41, List.append_nil, List.nil_append, List.cons_append, List.length_cons, List.length_nil, Nat.reduceAdd, Nat.reduceSub, List.replicate_succ, List.replicate_zero, g1, y0, c0, c1, c2, r1, wkF, X_region, X_seq, X_block, X_loop, X_cond, Y_box, Y_un, Y_store, Y_append, Y_makeMap, Y_buildSlice, ibin_shl, ibin_shr, ibin_and, ↓reduceIte, reduceCtorEq, oneCell, setAt, readN, Nat.reduceAdd, Nat.reduceLeDiff, Nat.reduceMul, layAt, Nat.reduceLT, Nat.reduceEqDiff, setParams, Int.reduceLT, Int.reduceLE, Int.reduceGT, Int.reduceGE, Int.reduceEq, Int.reduceNe]
  refine L_is (fun q s => ∃ (i : Nat), s.defers = [] ∧ s.tmps.length = 22 ∧ s.tmps.getD 0 undefV = .func (.yield lb) #[] #[] ∧ s.tmps.getD 9 undefV = .agg (F.map fun x => Value.int .i64 x).toArray ∧ s.tmps.getD 10 undefV = .int .i64 (i : Int) ∧ q = 5 - i ∧ i ≤ 5 ∧ (∀ j, j < i → F.getD j 0 ≠ 0) ∧ I i s.h) 5 ?_ (by omega) ?_
  · exact ⟨0, rfl, rfl, rfl, rfl, rfl, rfl, by omega, fun j hj => by omega, h0⟩
  clear g1 r1 h0
  rintro q_ tm df h2 ⟨i, hd, hlen_, g0, g9, g10, hq, hi, hnz, hI⟩
  simp only at hd g0 g9 g10 hI
  subst hd
  obtain ⟨w, hg_, rfl⟩ := explode hlen_
  simp only [hg_] at g0 g9 g10
  clear hlen_ hg_
  by_cases hlt : i < 5
  · have hlt' : (i : Int) < 5 := by omega
    have ci : (0 : Int) ≤ (i : Int) := by omega
    have y1 : IntKind.i64.wrap ((i : Int) + 1) = ((i + 1 : Nat) : Int) := by rw [wrap_i64 (by omega) (by omega)]; omega
    have hv : ((F.map fun x => Value.int .i64 x).toArray).toList[(i : Int).toNat * 1]? = some (.int .i64 (F.getD i 0)) := by
      rw [Int.toNat_natCast, Nat.mul_one, List.toList_toArray, List.getElem?_map, List.getD_eq_getElem?_getD, List.getElem?_eq_getElem (by omega)]
      rfl
    simp (disch := first | assumption | omega | (simp only [wkD, oneCell, Option.isSome_some, *]; done) | (simp only [wkE, ne_eq]; omega)) only [g0, g9, g10, hlt', wkF, X_region, X_seq, X_block, X_loop, X_cond, Y_box, Y_un, Y_store, Y_append, Y_makeMap, Y_buildSlice, ibin_shl, ibin_shr, ibin_and, ↓reduceIte, reduceCtorEq, oneCell, setAt, readN, Nat.reduceAdd, Nat.reduceLeDiff, Nat.reduceMul, layAt, Nat.reduceLT, Nat.reduceEqDiff, setParams, Int.reduceLT, Int.reduceLE, Int.reduceGT, Int.reduceGE, Int.reduceEq, Int.reduceNe]
    rw [Y_indexAgg1 rfl rfl ci (by omega) hv]
    by_cases hz : F.getD i 0 = 0
    · simp (disch := first | assumption | omega | (simp only [wkD, oneCell, Option.isSome_some, *]; done) | (simp only [wkE, ne_eq]; omega)) only [hz, wkF, X_region, X_seq, X_block, X_loop, X_cond, Y_box, Y_un, Y_store, Y_append, Y_makeMap, Y_buildSlice, ibin_shl, ibin_shr, ibin_and, ↓reduceIte, reduceCtorEq, oneCell, setAt, readN, Nat.reduceAdd, Nat.reduceLeDiff, Nat.reduceMul, layAt, Nat.reduceLT, Nat.reduceEqDiff, setParams, Int.reduceLT, Int.reduceLE, Int.reduceGT, Int.reduceGE, Int.reduceEq, Int.reduceNe]
      refine Is_in ?_
      simp (disch := first | assumption | omega | (simp only [wkD, oneCell, Option.isSome_some, *]; done) | (simp only [wkE, ne_eq]; omega)) only [wkF, X_region, X_seq, X_block, X_loop, X_cond, Y_box, Y_un, Y_store, Y_append, Y_makeMap, Y_buildSlice, ibin_shl, ibin_shr, ibin_and, ↓reduceIte, reduceCtorEq, oneCell, setAt, readN, Nat.reduceAdd, Nat.reduceLeDiff, Nat.reduceMul, layAt, Nat.reduceLT, Nat.reduceEqDiff, setParams, Int.reduceLT, Int.reduceLE, Int.reduceGT, Int.reduceGE, Int.reduceEq, Int.reduceNe]
      exact leaf0n ⟨i, hi, hI, hnz, Or.inr hz⟩
    · simp (disch := first | assumption | omega | (simp only [wkD, oneCell, Option.isSome_some, *]; done) | (simp only [wkE, ne_eq]; omega)) only [hz, wkF, X_region, X_seq, X_block, X_loop, X_cond, Y_box, Y_un, Y_store, Y_append, Y_makeMap, Y_buildSlice, ibin_shl, ibin_shr, ibin_and, ↓reduceIte, reduceCtorEq, oneCell, setAt, readN, Nat.reduceAdd, Nat.reduceLeDiff, Nat.reduceMul, layAt, Nat.reduceLT, Nat.reduceEqDiff, setParams, Int.reduceLT, Int.reduceLE, Int.reduceGT, Int.reduceGE, Int.reduceEq, Int.reduceNe]
      refine Z_is (hy i h2 hlt hz hI) ?_
      rintro v3 h3 ⟨rfl, hI3⟩
      simp (disch := first | assumption | omega | (simp only [wkD, oneCell, Option.isSome_some, *]; done) | (simp only [wkE, ne_eq]; omega)) only [y1, wkF, X_region, X_seq, X_block, X_loop, X_cond, Y_box, Y_un, Y_store, Y_append, Y_makeMap, Y_buildSlice, ibin_shl, ibin_shr, ibin_and, ↓reduceIte, reduceCtorEq, oneCell, setAt, readN, Nat.reduceAdd, Nat.reduceLeDiff, Nat.reduceMul, layAt, Nat.reduceLT, Nat.reduceEqDiff, setParams, Int.reduceLT, Int.reduceLE, Int.reduceGT, Int.reduceGE, Int.reduceEq, Int.reduceNe]
      exact Is_in ⟨5 - (i + 1), by omega, i + 1, rfl, rfl, rfl, rfl, rfl, rfl, by omega, fun j hj => by
        by_cases e : j = i
        · subst e; exact hz
        · exact hnz j (by omega), hI3⟩
  · have hlt' : ¬ (i : Int) < 5 := by omega
    simp (disch := first | assumption | omega | (simp only [wkD, oneCell, Option.isSome_some, *]; done) | (simp only [wkE, ne_eq]; omega)) only [g0, g9, g10, hlt', wkF, X_region, X_seq, X_block, X_loop, X_cond, Y_box, Y_un, Y_store, Y_append, Y_makeMap, Y_buildSlice, ibin_shl, ibin_shr, ibin_and, ↓reduceIte, reduceCtorEq, oneCell, setAt, readN, Nat.reduceAdd, Nat.reduceLeDiff, Nat.reduceMul, layAt, Nat.reduceLT, Nat.reduceEqDiff, setParams, Int.reduceLT, Int.reduceLE, Int.reduceGT, Int.reduceGE, Int.reduceEq, Int.reduceNe]
    refine Is_in ?_
    simp (disch := first | assumption | omega | (simp only [wkD, oneCell, Option.isSome_some, *]; done) | (simp only [wkE, ne_eq]; omega)) only [wkF, X_region, X_seq, X_block, X_loop, X_cond, Y_box, Y_un, Y_store, Y_append, Y_makeMap, Y_buildSlice, ibin_shl, ibin_shr, ibin_and, ↓reduceIte, reduceCtorEq, oneCell, setAt, readN, Nat.reduceAdd, Nat.reduceLeDiff, Nat.reduceMul, layAt, Nat.reduceLT, Nat.reduceEqDiff, setParams, Int.reduceLT, Int.reduceLE, Int.reduceGT, Int.reduceGE, Int.reduceEq, Int.reduceNe]
    exact leaf0n ⟨i, hi, hI, hnz, Or.inl (by omega)⟩
end Go.Proofs.YtpodmgbnldmlcaaDoor
