/-
  The law LedgerTurns holds: the call answers true whatever priorities and stamps it is handed, whatever the machine chooses, and nothing that was there before it is changed; no condition.
-/
import Derived.Test.YtmpnldmdchchjaaFk
import Derived.Test.YtmpnldmdchchjaaTur
import Derived.Test.YtmpnldmdchchjaaRows
namespace Go.Proofs.Ytmpnldmdchchjaa
open Go Go.Ideal Go.ChangeShapes Go.RowKit
set_option maxHeartbeats 0
set_option linter.unusedSimpArgs false
set_option linter.unusedVariables false
set_option maxRecDepth 100000
attribute [local irreducible] callV T.All T.Is run
theorem sub_lt' {a i q : Nat} (hk : q = a - i) (h : i < a) : a - (i + 1) < q := by omega
theorem minlen {a N : Nat} (h : a = min (N - 1) 8) (h2 : 2 ≤ N) : (a : Int) = if (8 : Int) < (N : Int) - 1 then 8 else (N : Int) - 1 := by split <;> omega
theorem ledgerTurns_run {ro : Nat → Option (List Value × Nat)} {P U : List Int} {pp pt : Option Addr} {cp ct : Nat} (hP : ∀ x ∈ P, 0 ≤ x ∧ x ≤ 255) (hT : ∀ x ∈ U, 0 ≤ x ∧ x ≤ 65535)
    (VP : ∀ (M : List Rs) (h : Heap), Has ro h M → Vw 1 u8c h (.slice pp P.length cp) P) (VT : ∀ (M : List Rs) (h : Heap), Has ro h M → Vw 1 u16c h (.slice pt U.length ct) U) :
    (callV env 5000 (.func (.func 5) #[] #[]) [.slice pp P.length cp, .slice pt U.length ct] (fresh ro)).Is fun p => p.1 = .bool true := by
  refine call_is (n := 4999) env5 ?_
  simp (disch := first | assumption | omega | (simp only [wkD, oneCell, Option.isSome_some, *]; done) | (simp only [wkE, ne_eq]; omega)) only [ir5, List.append_nil, List.nil_append, List.cons_append, List.length_cons, List.length_nil, Nat.reduceAdd, Nat.reduceSub, List.replicate_succ, List.replicate_zero, wkF, X_region, X_seq, X_block, X_loop, X_cond, Y_box, Y_un, Y_store, Y_append, Y_makeMap, Y_buildSlice, ibin_shl, ibin_shr, ibin_and, ↓reduceIte, reduceCtorEq, oneCell, setAt, readN, Nat.reduceAdd, Nat.reduceLeDiff, Nat.reduceMul, layAt, Nat.reduceLT, Nat.reduceEqDiff, setParams, Int.reduceLT, Int.reduceLE, Int.reduceGT, Int.reduceGE, Int.reduceEq, Int.reduceNe]
  refine Z_is (alive_h ro) ?_
  rintro v h1 ⟨rfl, O1⟩
  simp only at O1
  by_cases h2 : P.length < 2
  · have h2' : (P.length : Int) < 2 := by omega
    simp (disch := first | assumption | omega | (simp only [wkD, oneCell, Option.isSome_some, *]; done) | (simp only [wkE, ne_eq]; omega)) only [h2', wkF, X_region, X_seq, X_block, X_loop, X_cond, Y_box, Y_un, Y_store, Y_append, Y_makeMap, Y_buildSlice, ibin_shl, ibin_shr, ibin_and, ↓reduceIte, reduceCtorEq, oneCell, setAt, readN, Nat.reduceAdd, Nat.reduceLeDiff, Nat.reduceMul, layAt, Nat.reduceLT, Nat.reduceEqDiff, setParams, Int.reduceLT, Int.reduceLE, Int.reduceGT, Int.reduceGE, Int.reduceEq, Int.reduceNe]
    exact leaf1 rfl
  have h2' : ¬ (P.length : Int) < 2 := by omega
  by_cases h20 : 20 < P.length
  · have h20' : (20 : Int) < (P.length : Int) := by omega
    simp (disch := first | assumption | omega | (simp only [wkD, oneCell, Option.isSome_some, *]; done) | (simp only [wkE, ne_eq]; omega)) only [h2', h20', wkF, X_region, X_seq, X_block, X_loop, X_cond, Y_box, Y_un, Y_store, Y_append, Y_makeMap, Y_buildSlice, ibin_shl, ibin_shr, ibin_and, ↓reduceIte, reduceCtorEq, oneCell, setAt, readN, Nat.reduceAdd, Nat.reduceLeDiff, Nat.reduceMul, layAt, Nat.reduceLT, Nat.reduceEqDiff, setParams, Int.reduceLT, Int.reduceLE, Int.reduceGT, Int.reduceGE, Int.reduceEq, Int.reduceNe]
    exact leaf1 rfl
  have h20' : ¬ (20 : Int) < (P.length : Int) := by omega
  by_cases hlt : U.length < P.length
  · have hlt' : (U.length : Int) < (P.length : Int) := by omega
    simp (disch := first | assumption | omega | (simp only [wkD, oneCell, Option.isSome_some, *]; done) | (simp only [wkE, ne_eq]; omega)) only [h2', h20', hlt', wkF, X_region, X_seq, X_block, X_loop, X_cond, Y_box, Y_un, Y_store, Y_append, Y_makeMap, Y_buildSlice, ibin_shl, ibin_shr, ibin_and, ↓reduceIte, reduceCtorEq, oneCell, setAt, readN, Nat.reduceAdd, Nat.reduceLeDiff, Nat.reduceMul, layAt, Nat.reduceLT, Nat.reduceEqDiff, setParams, Int.reduceLT, Int.reduceLE, Int.reduceGT, Int.reduceGE, Int.reduceEq, Int.reduceNe]
    exact leaf1 rfl
  have hlt' : ¬ (U.length : Int) < (P.length : Int) := by omega
  simp (disch := first | assumption | omega | (simp only [wkD, oneCell, Option.isSome_some, *]; done) | (simp only [wkE, ne_eq]; omega)) only [h2', h20', hlt', wkF, X_region, X_seq, X_block, X_loop, X_cond, Y_box, Y_un, Y_store, Y_append, Y_makeMap, Y_buildSlice, ibin_shl, ibin_shr, ibin_and, ↓reduceIte, reduceCtorEq, oneCell, setAt, readN, Nat.reduceAdd, Nat.reduceLeDiff, Nat.reduceMul, layAt, Nat.reduceLT, Nat.reduceEqDiff, setParams, Int.reduceLT, Int.reduceLE, Int.reduceGT, Int.reduceGE, Int.reduceEq, Int.reduceNe]
  refine Z_is (new_h (n := 4998) 0 (P.length : Int) (P.length : Int) O1) ?_
  rintro v h2 hv
  have hs : Szs 0 (P.length : Int) (P.length : Int) := ⟨by omega, by omega, by omega, by omega, by omega, by omega⟩
  rcases hv with ⟨hv, _⟩ | ⟨_, lb, rfl, O2⟩
  · exact absurd hs hv
  simp only at O2
  simp (disch := first | assumption | omega | (simp only [wkD, oneCell, Option.isSome_some, *]; done) | (simp only [wkE, ne_eq]; omega)) only [wkF, X_region, X_seq, X_block, X_loop, X_cond, Y_box, Y_un, Y_store, Y_append, Y_makeMap, Y_buildSlice, ibin_shl, ibin_shr, ibin_and, ↓reduceIte, reduceCtorEq, oneCell, setAt, readN, Nat.reduceAdd, Nat.reduceLeDiff, Nat.reduceMul, layAt, Nat.reduceLT, Nat.reduceEqDiff, setParams, Int.reduceLT, Int.reduceLE, Int.reduceGT, Int.reduceGE, Int.reduceEq, Int.reduceNe]
  refine L_is (fun q s => ∃ (k : Nat) (S : Ls), q = P.length - k ∧ s.defers = [] ∧ s.tmps.length = 193 ∧ s.tmps.getD 0 undefV = .slice pp P.length cp ∧ s.tmps.getD 1 undefV = .slice pt U.length ct ∧ s.tmps.getD 5 undefV = .bool true ∧ s.tmps.getD 6 undefV = .int .i64 (P.length : Int) ∧ s.tmps.getD 7 undefV = .pointer (some ⟨lb, 0, none⟩) ∧ s.tmps.getD 9 undefV = .int .i64 (k : Int) ∧ k ≤ P.length ∧ I1 S P.length k ∧ Has ro s.h [Lg lb S]) P.length ?_ (by omega) ?_
  · exact ⟨0, _, rfl, rfl, rfl, rfl, rfl, rfl, rfl, rfl, rfl, Nat.zero_le _, I1.zero hs, O2⟩
  clear O1 O2
  rintro q tm df h3 ⟨k, S, hk, hd, hlen_, g0, g1, g5, g6, g7, g9, hkl, i1, O3⟩
  simp only at hd g0 g1 g5 g6 g7 g9 O3
  subst hd
  obtain ⟨w, hg_, rfl⟩ := explode hlen_
  simp only [hg_] at g0 g1 g5 g6 g7 g9
  clear hlen_ hg_
  by_cases h0 : k < P.length
  · have h0' : (k : Int) < (P.length : Int) := by omega
    simp (disch := first | assumption | omega | (simp only [wkD, oneCell, Option.isSome_some, *]; done) | (simp only [wkE, ne_eq]; omega)) only [g0, g1, g5, g6, g7, g9, h0', wkF, X_region, X_seq, X_block, X_loop, X_cond, Y_box, Y_un, Y_store, Y_append, Y_makeMap, Y_buildSlice, ibin_shl, ibin_shr, ibin_and, ↓reduceIte, reduceCtorEq, oneCell, setAt, readN, Nat.reduceAdd, Nat.reduceLeDiff, Nat.reduceMul, layAt, Nat.reduceLT, Nat.reduceEqDiff, setParams, Int.reduceLT, Int.reduceLE, Int.reduceGT, Int.reduceGE, Int.reduceEq, Int.reduceNe]
    refine Z_is (status_h (n := 4979) (v := .slice none 0 0) (L := []) (k : Int) i1.m.w (by omega) (by decide) ⟨_, _, _, rfl⟩ (fun M h O => Vw.nil h _ _) O3) ?_
    rintro v h4 ⟨wv, pv, bv, e, S', o', rfl, hst, O4⟩
    simp only at O4
    have y1 : IntKind.i64.wrap ((k : Int) + 1) = ((k + 1 : Nat) : Int) := by rw [wrap_i64 (by omega) (by omega)]; omega
    simp (disch := first | assumption | omega | (simp only [wkD, oneCell, Option.isSome_some, *]; done) | (simp only [wkE, ne_eq]; omega)) only [y1, wkF, X_region, X_seq, X_block, X_loop, X_cond, Y_box, Y_un, Y_store, Y_append, Y_makeMap, Y_buildSlice, ibin_shl, ibin_shr, ibin_and, ↓reduceIte, reduceCtorEq, oneCell, setAt, readN, Nat.reduceAdd, Nat.reduceLeDiff, Nat.reduceMul, layAt, Nat.reduceLT, Nat.reduceEqDiff, setParams, Int.reduceLT, Int.reduceLE, Int.reduceGT, Int.reduceGE, Int.reduceEq, Int.reduceNe]
    exact Is_in ⟨P.length - (k + 1), by omega, k + 1, S', rfl, rfl, rfl, rfl, rfl, rfl, rfl, rfl, rfl, h0, i1.next h0 hst, O4.rid 1 rfl⟩
  have h0' : ¬ (k : Int) < (P.length : Int) := by omega
  have hkN : k = P.length := by omega
  subst hkN
  simp (disch := first | assumption | omega | (simp only [wkD, oneCell, Option.isSome_some, *]; done) | (simp only [wkE, ne_eq]; omega)) only [g0, g1, g5, g6, g7, g9, h0', wkF, X_region, X_seq, X_block, X_loop, X_cond, Y_box, Y_un, Y_store, Y_append, Y_makeMap, Y_buildSlice, ibin_shl, ibin_shr, ibin_and, ↓reduceIte, reduceCtorEq, oneCell, setAt, readN, Nat.reduceAdd, Nat.reduceLeDiff, Nat.reduceMul, layAt, Nat.reduceLT, Nat.reduceEqDiff, setParams, Int.reduceLT, Int.reduceLE, Int.reduceGT, Int.reduceGE, Int.reduceEq, Int.reduceNe]
  refine Is_in ?_
  simp (disch := first | assumption | omega | (simp only [wkD, oneCell, Option.isSome_some, *]; done) | (simp only [wkE, ne_eq]; omega)) only [g0, g1, g5, g6, g7, g9, wkF, X_region, X_seq, X_block, X_loop, X_cond, Y_box, Y_un, Y_store, Y_append, Y_makeMap, Y_buildSlice, ibin_shl, ibin_shr, ibin_and, ↓reduceIte, reduceCtorEq, oneCell, setAt, readN, Nat.reduceAdd, Nat.reduceLeDiff, Nat.reduceMul, layAt, Nat.reduceLT, Nat.reduceEqDiff, setParams, Int.reduceLT, Int.reduceLE, Int.reduceGT, Int.reduceGE, Int.reduceEq, Int.reduceNe]
  have i2 := I2.zero i1
  clear i1 g0 g1 g5 g6 g7 g9
  refine L_is (fun q s => ∃ (k : Nat) (S : Ls), q = P.length - k ∧ s.defers = [] ∧ s.tmps.length = 193 ∧ s.tmps.getD 0 undefV = .slice pp P.length cp ∧ s.tmps.getD 1 undefV = .slice pt U.length ct ∧ s.tmps.getD 5 undefV = .bool true ∧ s.tmps.getD 6 undefV = .int .i64 (P.length : Int) ∧ s.tmps.getD 7 undefV = .pointer (some ⟨lb, 0, none⟩) ∧ s.tmps.getD 10 undefV = .int .i64 (k : Int) ∧ k ≤ P.length ∧ I2 S P.length k ∧ Has ro s.h [Lg lb S]) P.length ?_ (by omega) ?_
  · exact ⟨0, _, rfl, rfl, rfl, rfl, rfl, rfl, rfl, rfl, rfl, Nat.zero_le _, i2, O3⟩
  clear O3 i2
  rintro q tm df h4 ⟨k, S2, hk, hd, hlen_, g0, g1, g5, g6, g7, g10, hkl2, i2, O3⟩
  simp only at hd g0 g1 g5 g6 g7 g10 O3
  subst hd
  obtain ⟨w, hg_, rfl⟩ := explode hlen_
  simp only [hg_] at g0 g1 g5 g6 g7 g10
  clear hlen_ hg_
  by_cases h0 : k < P.length
  · have h0' : (k : Int) < (P.length : Int) := by omega
    have h1' : (k : Int) < (U.length : Int) := by omega
    have hk0 : (0 : Int) ≤ (k : Int) := by omega
    have pk := hP _ (List.mem_of_getElem? (at0_get h0))
    have uk := hT _ (List.mem_of_getElem? (at0_get (l := U) (i := k) (by omega)))
    obtain ⟨b1, off1, sp1, c1, hv1, _, rd1⟩ := (VP _ _ O3).rd u8c_len (at0_get h0)
    obtain ⟨b2, off2, sp2, c2, hv2, _, rd2⟩ := (VT _ _ O3).rd u16c_len (at0_get (l := U) (i := k) (by omega))
    have e1 : pp = some ⟨b1, off1, sp1⟩ := by injection hv1
    have e2 : pt = some ⟨b2, off2, sp2⟩ := by injection hv2
    subst e1 e2
    unfold u8c at rd1
    unfold u16c at rd2
    rw [Nat.mul_one] at rd1 rd2
    have y1 : IntKind.i64.wrap ((k : Int) + 1) = ((k + 1 : Nat) : Int) := by rw [wrap_i64 (by omega) (by omega)]; omega
    have y2 : IntKind.u64.wrap (at0 U k) = at0 U k := wrap_u64 (by omega) (by omega)
    have y3 : IntKind.u64.wrap (at0 U k * 32) = at0 U k * 32 := wrap_u64 (by omega) (by omega)
    have y4 : IntKind.u64.wrap (k : Int) = (k : Int) := wrap_u64 (by omega) (by omega)
    have y5 : IntKind.u64.wrap (at0 U k * 32 + (k : Int)) = at0 U k * 32 + (k : Int) := wrap_u64 (by omega) (by omega)
    have y6 : IntKind.i64.wrap (at0 P k) = at0 P k := wrap_i64 (by omega) (by omega)
    have y7 : ibin .rem (.int .i64 (at0 P k)) (.int .i64 16) = some (.int .i64 (at0 P k % 16)) := by
      rw [bin_rem _ _ (by decide)]
      congr 2
      exact Int.tmod_eq_emod_of_nonneg pk.1
    simp (disch := first | assumption | omega | (simp only [wkD, oneCell, Option.isSome_some, *]; done) | (simp only [wkE, ne_eq]; omega)) only [g0, g1, g5, g6, g7, g10, h0', wkF, X_region, X_seq, X_block, X_loop, X_cond, Y_box, Y_un, Y_store, Y_append, Y_makeMap, Y_buildSlice, ibin_shl, ibin_shr, ibin_and, ↓reduceIte, reduceCtorEq, oneCell, setAt, readN, Nat.reduceAdd, Nat.reduceLeDiff, Nat.reduceMul, layAt, Nat.reduceLT, Nat.reduceEqDiff, setParams, Int.reduceLT, Int.reduceLE, Int.reduceGT, Int.reduceGE, Int.reduceEq, Int.reduceNe]
    refine X_drawn _ fun an => ?_
    simp (disch := first | assumption | omega | (simp only [wkD, oneCell, Option.isSome_some, *]; done) | (simp only [wkE, ne_eq]; omega)) only [g0, g1, g5, g6, g7, g10, h0', h1', hk0, Int.toNat_natCast, Nat.mul_one, rd1, rd2, y2, y3, y4, y5, y6, y7, wkF, X_region, X_seq, X_block, X_loop, X_cond, Y_box, Y_un, Y_store, Y_append, Y_makeMap, Y_buildSlice, ibin_shl, ibin_shr, ibin_and, ↓reduceIte, reduceCtorEq, oneCell, setAt, readN, Nat.reduceAdd, Nat.reduceLeDiff, Nat.reduceMul, layAt, Nat.reduceLT, Nat.reduceEqDiff, setParams, Int.reduceLT, Int.reduceLE, Int.reduceGT, Int.reduceGE, Int.reduceEq, Int.reduceNe]
    refine DB_is (request_h (n := 4988) (wt P U k) 0 i2.m.w (by omega) O3) ?_
    rintro v h5 ⟨wv, pv, bv, e, S', o', rfl, hreq, O5⟩
    simp only at O5
    simp (disch := first | assumption | omega | (simp only [wkD, oneCell, Option.isSome_some, *]; done) | (simp only [wkE, ne_eq]; omega)) only [y1, wkF, X_region, X_seq, X_block, X_loop, X_cond, Y_box, Y_un, Y_store, Y_append, Y_makeMap, Y_buildSlice, ibin_shl, ibin_shr, ibin_and, ↓reduceIte, reduceCtorEq, oneCell, setAt, readN, Nat.reduceAdd, Nat.reduceLeDiff, Nat.reduceMul, layAt, Nat.reduceLT, Nat.reduceEqDiff, setParams, Int.reduceLT, Int.reduceLE, Int.reduceGT, Int.reduceGE, Int.reduceEq, Int.reduceNe]
    refine Is_in ⟨P.length - (k + 1), by omega, k + 1, S', rfl, rfl, rfl, rfl, rfl, rfl, rfl, rfl, rfl, h0, i2.next h0 (by omega) rfl ⟨Int.emod_nonneg _ (by decide), ?_⟩ hreq, O5.rid 1 rfl⟩
    have := Int.emod_lt_of_pos (at0 P k) (b := 16) (by decide)
    show at0 P k % 16 ≤ 15
    omega
  have h0' : ¬ (k : Int) < (P.length : Int) := by omega
  have hkN : k = P.length := by omega
  subst hkN
  simp (disch := first | assumption | omega | (simp only [wkD, oneCell, Option.isSome_some, *]; done) | (simp only [wkE, ne_eq]; omega)) only [g0, g1, g5, g6, g7, g10, h0', wkF, X_region, X_seq, X_block, X_loop, X_cond, Y_box, Y_un, Y_store, Y_append, Y_makeMap, Y_buildSlice, ibin_shl, ibin_shr, ibin_and, ↓reduceIte, reduceCtorEq, oneCell, setAt, readN, Nat.reduceAdd, Nat.reduceLeDiff, Nat.reduceMul, layAt, Nat.reduceLT, Nat.reduceEqDiff, setParams, Int.reduceLT, Int.reduceLE, Int.reduceGT, Int.reduceGE, Int.reduceEq, Int.reduceNe]
  refine Is_in ?_
  simp (disch := first | assumption | omega | (simp only [wkD, oneCell, Option.isSome_some, *]; done) | (simp only [wkE, ne_eq]; omega)) only [g0, g1, g5, g6, g7, g10, wkF, X_region, X_seq, X_block, X_loop, X_cond, Y_box, Y_un, Y_store, Y_append, Y_makeMap, Y_buildSlice, ibin_shl, ibin_shr, ibin_and, ↓reduceIte, reduceCtorEq, oneCell, setAt, readN, Nat.reduceAdd, Nat.reduceLeDiff, Nat.reduceMul, layAt, Nat.reduceLT, Nat.reduceEqDiff, setParams, Int.reduceLT, Int.reduceLE, Int.reduceGT, Int.reduceGE, Int.reduceEq, Int.reduceNe]
  clear g0 g1 g5 g6 g7 g10
  refine Z_is (waiters_h (n := 4996) 0 i2.m.w O3) ?_
  rintro v5 h5 O5
  simp only at O5
  rw [if_pos i2.m.is] at O5
  obtain ⟨ie, il, ir⟩ := i2.p (by omega)
  have i3 : I3 S2 P.length (S2.W 0) 0 0 := ⟨i2.m, ie, rfl, by omega, by omega⟩
  generalize hL : S2.W 0 = L at O5 il ir i3
  obtain ⟨wp, wcap, hwv, _⟩ := O5.scVal 0 rfl
  subst hwv
  simp (disch := first | assumption | omega | (simp only [wkD, oneCell, Option.isSome_some, *]; done) | (simp only [wkE, ne_eq]; omega)) only [wkF, X_region, X_seq, X_block, X_loop, X_cond, Y_box, Y_un, Y_store, Y_append, Y_makeMap, Y_buildSlice, ibin_shl, ibin_shr, ibin_and, ↓reduceIte, reduceCtorEq, oneCell, setAt, readN, Nat.reduceAdd, Nat.reduceLeDiff, Nat.reduceMul, layAt, Nat.reduceLT, Nat.reduceEqDiff, setParams, Int.reduceLT, Int.reduceLE, Int.reduceGT, Int.reduceGE, Int.reduceEq, Int.reduceNe]
  refine Z_is (holder_h (n := 4996) 0 (O5.at 1 rfl)) ?_
  rintro v6 h6 ⟨hv6, O6⟩
  simp only at hv6 O6
  rw [if_pos i2.m.is, ie] at hv6
  subst hv6
  have m1 : ¬ (8 : Int) < (L.length : Int) := by omega
  have m2 : IntKind.i64.wrap ((P.length : Int) - 1) = (P.length : Int) - 1 := wrap_i64 (by omega) (by omega)
  have hL8 : L.length ≤ 8 := by omega
  simp (disch := first | assumption | omega | (simp only [wkD, oneCell, Option.isSome_some, *]; done) | (simp only [wkE, ne_eq]; omega)) only [m1, m2, wkF, X_region, X_seq, X_block, X_loop, X_cond, Y_box, Y_un, Y_store, Y_append, Y_makeMap, Y_buildSlice, ibin_shl, ibin_shr, ibin_and, ↓reduceIte, reduceCtorEq, oneCell, setAt, readN, Nat.reduceAdd, Nat.reduceLeDiff, Nat.reduceMul, layAt, Nat.reduceLT, Nat.reduceEqDiff, setParams, Int.reduceLT, Int.reduceLE, Int.reduceGT, Int.reduceGE, Int.reduceEq, Int.reduceNe]
  refine Is_ite (fun hbad => absurd (minlen il (by omega)) hbad) (fun hgood => ?_)
  clear hgood
  clear i2 hL ie O3 O5 il m2 m1
  refine L_is (fun q s => ∃ (i : Nat) (S : Ls) (hi : Int), q = L.length - i ∧ s.defers = [] ∧ s.tmps.length = 193 ∧ s.tmps.getD 5 undefV = .bool true ∧ s.tmps.getD 7 undefV = .pointer (some ⟨lb, 0, none⟩) ∧ s.tmps.getD 11 undefV = .slice wp L.length wcap ∧ s.tmps.getD 12 undefV = .int .i64 hi ∧ s.tmps.getD 13 undefV = .int .u32 (1 + (i : Int)) ∧ s.tmps.getD 14 undefV = .int .i64 (i : Int) ∧ i ≤ L.length ∧ I3 S P.length L i hi ∧ Has ro s.h [Lg lb S, Sc 3 ic (.slice wp L.length wcap) L]) L.length ?_ (by omega) ?_
  · exact ⟨0, _, _, rfl, rfl, rfl, rfl, rfl, rfl, rfl, rfl, rfl, Nat.zero_le _, i3, O6⟩
  clear O6 i3
  rintro q tm df h7 ⟨i, S3, hi, hk, hd, hlen_, g5, g7, g11, g12, g13, g14, hkl3, i3, O7⟩
  simp only at hd g5 g7 g11 g12 g13 g14 O7
  subst hd
  obtain ⟨w, hg_, rfl⟩ := explode hlen_
  simp only [hg_] at g5 g7 g11 g12 g13 g14
  clear hlen_ hg_
  have yi : IntKind.i64.wrap ((i : Int) + 1) = ((i + 1 : Nat) : Int) := by rw [wrap_i64 (by omega) (by omega)]; omega
  by_cases h0 : i < L.length
  · have h0' : (i : Int) < (L.length : Int) := by omega
    have hi0 : (0 : Int) ≤ (i : Int) := by omega
    simp (disch := first | assumption | omega | (simp only [wkD, oneCell, Option.isSome_some, *]; done) | (simp only [wkE, ne_eq]; omega)) only [g5, g7, g11, g12, g13, g14, h0', wkF, X_region, X_seq, X_block, X_loop, X_cond, Y_box, Y_un, Y_store, Y_append, Y_makeMap, Y_buildSlice, ibin_shl, ibin_shr, ibin_and, ↓reduceIte, reduceCtorEq, oneCell, setAt, readN, Nat.reduceAdd, Nat.reduceLeDiff, Nat.reduceMul, layAt, Nat.reduceLT, Nat.reduceEqDiff, setParams, Int.reduceLT, Int.reduceLE, Int.reduceGT, Int.reduceGE, Int.reduceEq, Int.reduceNe]
    refine Z_is (release_h (n := 4992) hi 0 (1 + (i : Int)) i3.m.w (by omega) O7) ?_
    rintro v8 h8 ⟨wv, pv, bv, e, S', o', rfl, hrel, O8⟩
    simp only at O8
    obtain ⟨rfl, i4, hps⟩ := i3.next hL8 ir h0 hrel
    simp (disch := first | assumption | omega | (simp only [wkD, oneCell, Option.isSome_some, *]; done) | (simp only [wkE, ne_eq]; omega)) only [wkF, X_region, X_seq, X_block, X_loop, X_cond, Y_un, Y_store, Y_append, Y_makeMap, Y_buildSlice, ibin_shl, ibin_shr, ibin_and, ↓reduceIte, reduceCtorEq, oneCell, setAt, readN, Nat.reduceAdd, Nat.reduceLeDiff, Nat.reduceMul, layAt, Nat.reduceLT, Nat.reduceEqDiff, setParams, Int.reduceLT, Int.reduceLE, Int.reduceGT, Int.reduceGE, Int.reduceEq, Int.reduceNe]
    refine Y_boxO O8 ?_
    intro b15 h9 O9 e9
    replace O9 : Has ro h9 (Ob b15 (.cells [.slice none 0 0, .slice none 0 0, .slice none 0 0] 1 false) :: Lg lb S' :: Oo wv pv bv o' :: Sc 3 ic (.slice wp L.length wcap) L :: []) := O9
    have one := os_one (O9.at 2 rfl)
    have g9 := O9.get 0 rfl
    have p9 := O9.can 0 rfl
    have O10 := O9.set 0 rfl (.cells [wv, pv, bv] 1 false)
    simp only [List.set_cons_zero] at O10
    simp (disch := first | assumption | omega | (simp only [wkD, oneCell, Option.isSome_some, *]; done) | (simp only [wkE, ne_eq]; omega)) only [g9, p9, one, c3, s3, wkF, X_region, X_seq, X_block, X_loop, X_cond, Y_box, Y_un, Y_store, Y_append, Y_makeMap, Y_buildSlice, ibin_shl, ibin_shr, ibin_and, ↓reduceIte, reduceCtorEq, setAt, readN, Nat.reduceAdd, Nat.reduceLeDiff, Nat.reduceMul, layAt, Nat.reduceLT, Nat.reduceEqDiff, setParams, Int.reduceLT, Int.reduceLE, Int.reduceGT, Int.reduceGE, Int.reduceEq, Int.reduceNe]
    clear g9 p9
    refine Z_is (holder_h (n := 4996) 0 (O10.at 1 rfl)) ?_
    rintro v11 h11 ⟨hv11, O11⟩
    simp only at hv11 O11
    rw [if_pos i4.m.is, i4.e] at hv11
    subst hv11
    have O12 : Has ro h11 (Sc 3 wc wv o'.ws :: Sc 10 pc pv o'.ps :: Sc 1 zc bv o'.bs :: Dts o'.ws :: Lg lb S' :: Ob b15 (.cells [wv, pv, bv] 1 false) :: Sc 3 ic (.slice wp L.length wcap) L :: []) := Has.all.1 (O11.at 2 rfl)
    clear O8 O9 O10 O11 e9
    rw [hps] at O12
    have g15 := O12.get 5 rfl
    obtain ⟨b1, off1, sp1, c1, rfl, k1, _⟩ := (O12.vw 1 rfl).rd pc_len (i := 0) rfl
    obtain ⟨b2, off2, sp2, c2, hv2, k2, _⟩ := (O12.vw 6 rfl).rd ic_len (nth_get h0)
    have e2 : wp = some ⟨b2, off2, sp2⟩ := by injection hv2
    subst e2
    have r1 := k1 0 1 (by decide)
    have r2 := k1 4 1 (by decide)
    have r3 := k2 0 1 (by decide)
    have r4 := k2 1 1 (by decide)
    simp only [Nat.zero_mul, Nat.add_zero] at r1 r2 r3 r4
    have q1 : readN (pc (grt (nth L i) 0 (1 + (i : Int) + 1))) 0 1 = some [.int .i64 (nth L i).r] := rfl
    have q2 : readN (pc (grt (nth L i) 0 (1 + (i : Int) + 1))) 4 1 = some [.int .u64 (nth L i).s] := rfl
    have q3 : readN (ic (nth L i)) 0 1 = some [.int .i64 (nth L i).r] := rfl
    have q4 : readN (ic (nth L i)) 1 1 = some [.int .u64 (nth L i).s] := rfl
    rw [q1] at r1
    rw [q2] at r2
    rw [q3] at r3
    rw [q4] at r4
    have z1 : ([grt (nth L i) 0 (1 + (i : Int) + 1)] : List Po).length = 1 := rfl
    have y1 : IntKind.u32.wrap (1 + (i : Int) + 1) = 1 + ((i + 1 : Nat) : Int) := by rw [wrap_u32_mod]; omega
    have y2 : IntKind.i64.wrap ((L.length : Int) - 1) = (L.length : Int) - 1 := wrap_i64 (by omega) (by omega)
    have y3 : IntKind.i64.wrap ((L.length : Int) - 1 - (i : Int)) = (L.length : Int) - 1 - (i : Int) := wrap_i64 (by omega) (by omega)
    simp (disch := first | assumption | omega | (simp only [wkD, oneCell, Option.isSome_some, *]; done) | (simp only [wkE, ne_eq]; omega)) only [wkF, X_region, X_seq, X_block, X_loop, X_cond, Y_box, Y_un, Y_store, Y_append, Y_makeMap, Y_buildSlice, ibin_shl, ibin_shr, ibin_and, ↓reduceIte, reduceCtorEq, oneCell, setAt, readN, Nat.reduceAdd, Nat.reduceLeDiff, Nat.reduceMul, layAt, Nat.reduceLT, Nat.reduceEqDiff, setParams, Int.reduceLT, Int.reduceLE, Int.reduceGT, Int.reduceGE, Int.reduceEq, Int.reduceNe]
    refine X_drawn _ fun an => ?_
    have nc1 : ((1 : Nat) : Int) = 1 := rfl
    simp (disch := first | assumption | omega | (simp only [wkD, oneCell, Option.isSome_some, *]; done) | (simp only [wkE, ne_eq]; omega)) only [h0', hi0, r1, r2, r3, r4, g15, z1, y1, nc1, Int.toNat_natCast, Int.toNat_zero, Nat.zero_mul, Nat.add_zero, Int.le_refl, wkF, X_region, X_seq, X_block, X_loop, X_cond, Y_box, Y_un, Y_store, Y_append, Y_makeMap, Y_buildSlice, ibin_shl, ibin_shr, ibin_and, ↓reduceIte, reduceCtorEq, oneCell, setAt, readN, Nat.reduceAdd, Nat.reduceLeDiff, Nat.reduceMul, layAt, Nat.reduceLT, Nat.reduceEqDiff, setParams, Int.reduceLT, Int.reduceLE, Int.reduceGT, Int.reduceGE, Int.reduceEq, Int.reduceNe]
    clear r1 r2 r3 r4 g15 k1 k2 one
    refine DB_is (waiters_h (n := 4996) 0 i4.m.w (O12.at 4 rfl)) ?_
    rintro v13 h13 O13
    simp only at O13
    rw [if_pos i4.m.is, i4.w] at O13
    obtain ⟨p13, c13, hv13, _⟩ := O13.scVal 0 rfl
    subst hv13
    have z2 : ((L.drop (i + 1)).length : Int) = (L.length : Int) - 1 - (i : Int) := by rw [List.length_drop]; omega
    simp (disch := first | assumption | omega | (simp only [wkD, oneCell, Option.isSome_some, *]; done) | (simp only [wkE, ne_eq]; omega)) only [z2, y2, y3, yi, wkF, X_region, X_seq, X_block, X_loop, X_cond, Y_box, Y_un, Y_store, Y_append, Y_makeMap, Y_buildSlice, ibin_shl, ibin_shr, ibin_and, ↓reduceIte, reduceCtorEq, oneCell, setAt, readN, Nat.reduceAdd, Nat.reduceLeDiff, Nat.reduceMul, layAt, Nat.reduceLT, Nat.reduceEqDiff, setParams, Int.reduceLT, Int.reduceLE, Int.reduceGT, Int.reduceGE, Int.reduceEq, Int.reduceNe]
    refine Is_in ⟨L.length - (i + 1), sub_lt' hk h0, i + 1, S', (nth L i).r, rfl, rfl, rfl, rfl, rfl, rfl, rfl, rfl, rfl, h0, i4, ((((((O13.rid 6 rfl).rid 5 rfl).rid 4 rfl).rid 3 rfl).rid 2 rfl).rid 0 rfl)⟩
  have h0' : ¬ (i : Int) < (L.length : Int) := by omega
  simp (disch := first | assumption | omega | (simp only [wkD, oneCell, Option.isSome_some, *]; done) | (simp only [wkE, ne_eq]; omega)) only [g5, g7, g11, g12, g13, g14, h0', wkF, X_region, X_seq, X_block, X_loop, X_cond, Y_box, Y_un, Y_store, Y_append, Y_makeMap, Y_buildSlice, ibin_shl, ibin_shr, ibin_and, ↓reduceIte, reduceCtorEq, oneCell, setAt, readN, Nat.reduceAdd, Nat.reduceLeDiff, Nat.reduceMul, layAt, Nat.reduceLT, Nat.reduceEqDiff, setParams, Int.reduceLT, Int.reduceLE, Int.reduceGT, Int.reduceGE, Int.reduceEq, Int.reduceNe]
  refine Is_in ?_
  simp (disch := first | assumption | omega | (simp only [wkD, oneCell, Option.isSome_some, *]; done) | (simp only [wkE, ne_eq]; omega)) only [g5, g7, g11, g12, g13, g14, wkF, X_region, X_seq, X_block, X_loop, X_cond, Y_box, Y_un, Y_store, Y_append, Y_makeMap, Y_buildSlice, ibin_shl, ibin_shr, ibin_and, ↓reduceIte, reduceCtorEq, oneCell, setAt, readN, Nat.reduceAdd, Nat.reduceLeDiff, Nat.reduceMul, layAt, Nat.reduceLT, Nat.reduceEqDiff, setParams, Int.reduceLT, Int.reduceLE, Int.reduceGT, Int.reduceGE, Int.reduceEq, Int.reduceNe]
  refine Z_is (release_h (n := 4992) hi 0 (1 + (i : Int)) i3.m.w (by omega) O7) ?_
  rintro v8 h8 ⟨wv, pv, bv, e, S', o', rfl, hrel, O8⟩
  simp only at O8
  obtain ⟨m4, e4⟩ := i3.last hL8 (by omega) hrel
  simp (disch := first | assumption | omega | (simp only [wkD, oneCell, Option.isSome_some, *]; done) | (simp only [wkE, ne_eq]; omega)) only [wkF, X_region, X_seq, X_block, X_loop, X_cond, Y_box, Y_un, Y_store, Y_append, Y_makeMap, Y_buildSlice, ibin_shl, ibin_shr, ibin_and, ↓reduceIte, reduceCtorEq, oneCell, setAt, readN, Nat.reduceAdd, Nat.reduceLeDiff, Nat.reduceMul, layAt, Nat.reduceLT, Nat.reduceEqDiff, setParams, Int.reduceLT, Int.reduceLE, Int.reduceGT, Int.reduceGE, Int.reduceEq, Int.reduceNe]
  refine Z_is (holder_h (n := 4996) 0 O8) ?_
  rintro v9 h9 ⟨hv9, O9⟩
  simp only at hv9 O9
  rw [if_pos m4.is, e4] at hv9
  subst hv9
  simp (disch := first | assumption | omega | (simp only [wkD, oneCell, Option.isSome_some, *]; done) | (simp only [wkE, ne_eq]; omega)) only [wkF, X_region, X_seq, X_block, X_loop, X_cond, Y_box, Y_un, Y_store, Y_append, Y_makeMap, Y_buildSlice, ibin_shl, ibin_shr, ibin_and, ↓reduceIte, reduceCtorEq, oneCell, setAt, readN, Nat.reduceAdd, Nat.reduceLeDiff, Nat.reduceMul, layAt, Nat.reduceLT, Nat.reduceEqDiff, setParams, Int.reduceLT, Int.reduceLE, Int.reduceGT, Int.reduceGE, Int.reduceEq, Int.reduceNe]
  exact leaf1 rfl
theorem u8_inv (vs : List Value) (h : Fits [.int .u8] vs) : ∃ s : Int, vs = u8c s ∧ (0 ≤ s ∧ s ≤ 255) := by
  match vs, h with
  | [x], h =>
    obtain ⟨⟨a, rfl, a1⟩, _⟩ := h
    exact ⟨a, rfl, a1⟩
  | [], h => exact h.elim
  | _ :: _ :: _, h => exact h.2.elim
theorem u16_inv (vs : List Value) (h : Fits [.int .u16] vs) : ∃ s : Int, vs = u16c s ∧ (0 ≤ s ∧ s ≤ 65535) := by
  match vs, h with
  | [x], h =>
    obtain ⟨⟨a, rfl, a1⟩, _⟩ := h
    exact ⟨a, rfl, a1⟩
  | [], h => exact h.elim
  | _ :: _ :: _, h => exact h.2.elim
theorem ledgerTurns_all (N : Nat) (ro : Nat → Option (List Value × Nat)) (vs : List Value) (ha : ArgsAre N ro 0 [.slice [.int .u8], .slice [.int .u16]] vs) : (run env 5000 5 vs (fresh ro)).True := by
  match vs, ha with
  | [v0, v1], ha =>
    obtain ⟨p, len, cap, cells, bb, rfl, hbb, hg, hl, hm, hf⟩ := argIs_slice ha.1
    obtain ⟨l, hl1, rfl, hok⟩ := fits_list u8c _ _ u8_inv _ _ hf
    obtain ⟨p2, len2, cap2, cells2, bb2, rfl, hbb2, hg2, hl2, hm2, hf2⟩ := argIs_slice ha.2.1
    obtain ⟨l2, hl21, rfl, hok2⟩ := fits_list u16c _ _ u16_inv _ _ hf2
    subst hl1 hl21
    exact run_true (ledgerTurns_run hok hok2 (fun M h O => O.vwa hbb hl hg) (fun M h O => O.vwa hbb2 hl2 hg2)).all
  | [], ha => exact ha.elim
  | [_], ha => exact ha.2.elim
  | _ :: _ :: _ :: _, ha => exact ha.2.2.elim
theorem own : ownKnob Try.prog.godebug = none := by kernel_rfl
theorem mixed : Try.prog.follows .mixedOrders = true := by kernel_rfl
theorem laid_out : laidOutB Try.prog = true := by kernel_rfl
theorem ledgerTurns_kinds : Try.f5.params.toList.mapM (pkOf Try.prog) = some [.slice [.int .u8], .slice [.int .u16]] := by kernel_rfl
theorem ledgerTurns_reads : Try.f5.params.toList.all (fun t => Try.prog.readableRec t && decide (t < Try.prog.types.size)) = true := by kernel_rfl
theorem ledgerTurns_size : Try.f5.params.size = 2 := by kernel_rfl
theorem ledgerTurns_lifted (os : Os) (started : os.Started) (H : Type) (enc : TypeId × Value → H) :
    ReturnsInHanded {} Try.checked os 5 .any (Rows.ledgerTurnsSpec.pre6 enc Try.prog Try.f5 [] false) (Rows.ledgerTurnsSpec.post enc Try.prog Try.f5 false true false false) :=
  open_lifted (C := Try.checked) (n := 5000) own started (by kernel_rfl) Try.func5 (ChangeSpec.witness6 false ⟨#[], #[.slice none 0 0, .slice none 0 0], []⟩ 8 (by kernel_rfl) (by kernel_rfl) (by kernel_rfl) (by kernel_rfl)) mixed env_ok laid_out ledgerTurns_kinds ledgerTurns_reads (by rfl) Try.underlying4 rfl
    (fun ds hds => by rw [ledgerTurns_size] at hds; match ds, hds with | [_, _], _ => rfl) ledgerTurns_all
theorem ledgerTurns_holds : Rows.LedgerTurnsSaid :=
  OpenClaim.holds_of_wide 5 Try.f5 rfl rfl rfl rfl rfl rfl rfl ⟨rfl, rfl, rfl, rfl, rfl⟩ rfl rfl rfl rfl rfl (by kernel_rfl) Try.func5 (by kernel_rfl)
    (of_decide_eq_true (by kernel_rfl)) (by unfold Func.isWrapper; rw [if_neg (of_decide_eq_false (by kernel_rfl))]; exact ⟨rfl, rfl⟩)
    (fun os started H enc _ => by rw [OpenClaim.pre_of_none rfl]; exact ledgerTurns_lifted os started H enc)

end Go.Proofs.Ytmpnldmdchchjaa
