/-
  The document's numbers read from bytes.
-/
import Derived.Test.YtpodmgbnldmlcaaDoorFk
import Derived.Test.YtpodmgbnldmlcaaDoorTak
namespace Go.Proofs.YtpodmgbnldmlcaaDoor
open Go Go.Ideal Go.ChangeShapes Go.RowKit
set_option maxHeartbeats 0
set_option linter.unusedSimpArgs false
set_option linter.unusedVariables false
set_option maxRecDepth 100000
attribute [local irreducible] callV T.All T.Is run
theorem env40 : env 40 = some ir40 := rfl
/-- The number of so many bytes at a place. -/
def gt (B : List Nat) (pl k : Nat) : Nat := nb 0 ((B.drop pl).take k)
section
variable {ro : Nat → Option (List Value × Nat)} {h : Heap} {R : List Rs} {B : List Nat}
theorem gt_lt {pl k : Nat} (hB : ∀ b ∈ B, b < 256) : gt B pl k < 256 ^ k := by
  have h := nb_lt ((B.drop pl).take k) 0 fun b hb => hB b (List.mem_of_mem_drop (List.mem_of_mem_take hb))
  have hl : ((B.drop pl).take k).length ≤ k := by rw [List.length_take]; omega
  have : 256 ^ ((B.drop pl).take k).length ≤ 256 ^ k := Nat.pow_le_pow_right (by omega) hl
  unfold gt
  omega
theorem gtake_h {n pl k : Nat} {v : Value} (hn : 20 < n) (hk : k ≤ 8) (hp : pl ≤ 100000) (hl : B.length ≤ 100000) (hB : ∀ b ∈ B, b < 256) (V : Vw 1 bc h v B) :
    (callV env (n + 1) (.func (.func 40) #[] #[]) [v, .int .i64 (pl : Int), .int .i64 (k : Int)] h).Is fun q => q = (.int .u64 ((gt B pl k : Nat) : Int), h) := by
  refine call_is env40 ?_
  obtain ⟨p, c, hv, hc⟩ := V.len
  subst hv
  simp (disch := first | assumption | omega | (simp only [wkD, oneCell, Option.isSome_some, *]; done) | (simp only [wkE, ne_eq]; omega)) only [ir40, List.append_nil, List.nil_append, List.cons_append, List.length_cons, List.length_nil, Nat.reduceAdd, Nat.reduceSub, List.replicate_succ, List.replicate_zero, wkF, X_region, X_seq, X_block, X_loop, X_cond, Y_box, Y_un, Y_store, Y_append, Y_makeMap, Y_buildSlice, ibin_shl, ibin_shr, ibin_and, ↓reduceIte, reduceCtorEq, oneCell, setAt, readN, Nat.reduceAdd, Nat.reduceLeDiff, Nat.reduceMul, layAt, Nat.reduceLT, Nat.reduceEqDiff, setParams, Int.reduceLT, Int.reduceLE, Int.reduceGT, Int.reduceGE, Int.reduceEq, Int.reduceNe]
  refine L_is (fun q s => ∃ (i : Nat), s.defers = [] ∧ s.tmps.length = 33 ∧ s.tmps.getD 0 undefV = .slice p B.length c ∧ s.tmps.getD 1 undefV = .int .i64 (pl : Int) ∧ s.tmps.getD 2 undefV = .int .i64 (k : Int) ∧ s.tmps.getD 7 undefV = .int .u64 ((gt B pl i : Nat) : Int) ∧ s.tmps.getD 8 undefV = .int .i64 (i : Int) ∧ q = k - i ∧ i ≤ k ∧ (i = 0 ∨ pl + i ≤ B.length) ∧ s.h = h) k ?_ (by omega) ?_
  · exact ⟨0, rfl, rfl, rfl, rfl, rfl, rfl, rfl, rfl, by omega, Or.inl rfl, rfl⟩
  rintro q_ tm df h2 ⟨i, hd, hlen_, g0, g1, g2, g7, g8, hq, hi, hpi, hh⟩
  simp only at hd g0 g1 g2 g7 g8 hh
  subst hd
  obtain ⟨w, hg_, rfl⟩ := explode hlen_
  simp only [hg_] at g0 g1 g2 g7 g8
  clear hlen_ hg_
  subst hh
  have y0 : IntKind.i64.wrap ((pl : Int) + (i : Int)) = ((pl + i : Nat) : Int) := by rw [wrap_i64 (by omega) (by omega)]; omega
  by_cases hlt : i < k
  · have hlt' : (i : Int) < (k : Int) := by omega
    by_cases hin : pl + i < B.length
    · have hin' : ((pl + i : Nat) : Int) < (B.length : Int) := by omega
      have c0 : (0 : Int) ≤ ((pl + i : Nat) : Int) := by omega
      have y1 : IntKind.i64.wrap ((i : Int) + 1) = ((i + 1 : Nat) : Int) := by rw [wrap_i64 (by omega) (by omega)]; omega
      obtain ⟨b1, o1, s1, c1, hv1, r1⟩ := rdW bc_len V (i := pl + i) hin
      cases hv1
      have r1' : readC (h2.get b1) (o1 + (pl + i) * 1) 1 = some [.int .u8 (B[pl + i] : Int)] := r1
      have hb := hB _ (List.getElem_mem hin)
      have ql1 := gt_lt (pl := pl) (k := i) hB
      have ql2 := gt_lt (pl := pl) (k := i + 1) hB
      have p8 := pow_le8 (k := i + 1) (by omega)
      have hg : gt B pl (i + 1) = gt B pl i * 256 + B[pl + i] := by
        unfold gt
        have hdl : i < (B.drop pl).length := by rw [List.length_drop]; omega
        rw [nb_take hdl, List.getElem_drop]
      have m1 : IntKind.u64.wrap (((gt B pl i : Nat) : Int) * 256) = ((gt B pl i * 256 : Nat) : Int) := by rw [wrap_u64 (by omega) (by omega)]; omega
      have m2 : IntKind.u64.wrap (((gt B pl i * 256 : Nat) : Int) + ((B[pl + i] : Nat) : Int)) = ((gt B pl (i + 1) : Nat) : Int) := by rw [wrap_u64 (by omega) (by omega), hg]; omega
      have wu : IntKind.u64.wrap (B[pl + i] : Int) = (B[pl + i] : Int) := wrap_u64 (by omega) (by omega)
      simp (disch := first | assumption | omega | (simp only [wkD, oneCell, Option.isSome_some, *]; done) | (simp only [wkE, ne_eq]; omega)) only [g0, g1, g2, g7, g8, hlt', y0, hin', c0, r1', Int.toNat_natCast, m1, wu, m2, y1, wkF, X_region, X_seq, X_block, X_loop, X_cond, Y_box, Y_un, Y_store, Y_append, Y_makeMap, Y_buildSlice, ibin_shl, ibin_shr, ibin_and, ↓reduceIte, reduceCtorEq, oneCell, setAt, readN, Nat.reduceAdd, Nat.reduceLeDiff, Nat.reduceMul, layAt, Nat.reduceLT, Nat.reduceEqDiff, setParams, Int.reduceLT, Int.reduceLE, Int.reduceGT, Int.reduceGE, Int.reduceEq, Int.reduceNe]
      exact Is_in ⟨k - (i + 1), by omega, i + 1, rfl, rfl, rfl, rfl, rfl, rfl, rfl, rfl, by omega, Or.inr (by omega), rfl⟩
    · have hin' : ¬ ((pl + i : Nat) : Int) < (B.length : Int) := by omega
      simp (disch := first | assumption | omega | (simp only [wkD, oneCell, Option.isSome_some, *]; done) | (simp only [wkE, ne_eq]; omega)) only [g0, g1, g2, g7, g8, hlt', y0, hin', wkF, X_region, X_seq, X_block, X_loop, X_cond, Y_box, Y_un, Y_store, Y_append, Y_makeMap, Y_buildSlice, ibin_shl, ibin_shr, ibin_and, ↓reduceIte, reduceCtorEq, oneCell, setAt, readN, Nat.reduceAdd, Nat.reduceLeDiff, Nat.reduceMul, layAt, Nat.reduceLT, Nat.reduceEqDiff, setParams, Int.reduceLT, Int.reduceLE, Int.reduceGT, Int.reduceGE, Int.reduceEq, Int.reduceNe]
      refine Is_in ?_
      simp (disch := first | assumption | omega | (simp only [wkD, oneCell, Option.isSome_some, *]; done) | (simp only [wkE, ne_eq]; omega)) only [g0, g1, g2, g7, g8, wkF, X_region, X_seq, X_block, X_loop, X_cond, Y_box, Y_un, Y_store, Y_append, Y_makeMap, Y_buildSlice, ibin_shl, ibin_shr, ibin_and, ↓reduceIte, reduceCtorEq, oneCell, setAt, readN, Nat.reduceAdd, Nat.reduceLeDiff, Nat.reduceMul, layAt, Nat.reduceLT, Nat.reduceEqDiff, setParams, Int.reduceLT, Int.reduceLE, Int.reduceGT, Int.reduceGE, Int.reduceEq, Int.reduceNe]
      have e : gt B pl i = gt B pl k := by
        unfold gt
        have h1 : (B.drop pl).take i = B.drop pl := List.take_of_length_le (by rw [List.length_drop]; omega)
        have h2 : (B.drop pl).take k = B.drop pl := List.take_of_length_le (by rw [List.length_drop]; omega)
        rw [h1, h2]
      exact leaf1 (by rw [← e]; rfl)
  · have hlt' : ¬ (i : Int) < (k : Int) := by omega
    have hik : i = k := by omega
    subst hik
    simp (disch := first | assumption | omega | (simp only [wkD, oneCell, Option.isSome_some, *]; done) | (simp only [wkE, ne_eq]; omega)) only [g0, g1, g2, g7, g8, hlt', wkF, X_region, X_seq, X_block, X_loop, X_cond, Y_box, Y_un, Y_store, Y_append, Y_makeMap, Y_buildSlice, ibin_shl, ibin_shr, ibin_and, ↓reduceIte, reduceCtorEq, oneCell, setAt, readN, Nat.reduceAdd, Nat.reduceLeDiff, Nat.reduceMul, layAt, Nat.reduceLT, Nat.reduceEqDiff, setParams, Int.reduceLT, Int.reduceLE, Int.reduceGT, Int.reduceGE, Int.reduceEq, Int.reduceNe]
    refine Is_in ?_
    simp (disch := first | assumption | omega | (simp only [wkD, oneCell, Option.isSome_some, *]; done) | (simp only [wkE, ne_eq]; omega)) only [g0, g1, g2, g7, g8, wkF, X_region, X_seq, X_block, X_loop, X_cond, Y_box, Y_un, Y_store, Y_append, Y_makeMap, Y_buildSlice, ibin_shl, ibin_shr, ibin_and, ↓reduceIte, reduceCtorEq, oneCell, setAt, readN, Nat.reduceAdd, Nat.reduceLeDiff, Nat.reduceMul, layAt, Nat.reduceLT, Nat.reduceEqDiff, setParams, Int.reduceLT, Int.reduceLE, Int.reduceGT, Int.reduceGE, Int.reduceEq, Int.reduceNe]
    exact leaf1 rfl
end
end Go.Proofs.YtpodmgbnldmlcaaDoor
