/-
  Numbers as sets of bits: what the package window computes with.
-/
import Derived.Test.YtjfhgjchocdhmaaDoorFj
import Derived.Test.YtjfhgjchocdhmaaDoorIr
namespace Go.Proofs.YtjfhgjchocdhmaaDoor
open Go Go.Ideal Go.ChangeShapes Go.RowKit
set_option maxHeartbeats 0
set_option linter.unusedSimpArgs false
set_option linter.unusedVariables false
set_option maxRecDepth 100000

theorem ofInt_nat (n : Nat) (hn : n < 2 ^ 64) : (BitVec.ofInt IntKind.u64.bits (n : Int)).toNat = n := by
  rw [BitVec.toNat_ofInt]
  show ((n : Int) % 18446744073709551616).toNat = n
  omega

theorem and_u64 (a b : Nat) (ha : a < 2 ^ 64) (hb : b < 2 ^ 64) : IntKind.u64.wrap ((BitVec.ofInt IntKind.u64.bits (a : Int) &&& BitVec.ofInt IntKind.u64.bits (b : Int)).toNat : Int) = ((a &&& b : Nat) : Int) := by
  rw [BitVec.toNat_and, ofInt_nat a ha, ofInt_nat b hb]
  have : a &&& b ≤ a := Nat.and_le_left
  exact wrap_u64 (by omega) (by omega)

theorem or_u64 (a b : Nat) (ha : a < 2 ^ 64) (hb : b < 2 ^ 64) : IntKind.u64.wrap ((BitVec.ofInt IntKind.u64.bits (a : Int) ||| BitVec.ofInt IntKind.u64.bits (b : Int)).toNat : Int) = ((a ||| b : Nat) : Int) := by
  rw [BitVec.toNat_or, ofInt_nat a ha, ofInt_nat b hb]
  have : a ||| b < 2 ^ 64 := Nat.or_lt_two_pow ha hb
  exact wrap_u64 (by omega) (by omega)

theorem not_u64 (a : Nat) (ha : a < 2 ^ 64) : IntKind.u64.wrap ((BitVec.ofInt IntKind.u64.bits (if IntKind.u64.signed = true then -1 else IntKind.u64.max) ^^^ BitVec.ofInt IntKind.u64.bits (a : Int)).toNat : Int) = ((2 ^ 64 - 1 - a : Nat) : Int) := by
  have e : (if IntKind.u64.signed = true then (-1 : Int) else IntKind.u64.max) = ((2 ^ 64 - 1 : Nat) : Int) := rfl
  rw [e, BitVec.toNat_xor, ofInt_nat a ha, ofInt_nat (2 ^ 64 - 1) (by omega)]
  have : (2 ^ 64 - 1) ^^^ a = 2 ^ 64 - 1 - a := by
    refine Nat.eq_of_testBit_eq fun i => ?_
    have h1 : 2 ^ 64 - 1 - a = 2 ^ 64 - (a + 1) := by omega
    rw [Nat.testBit_xor, Nat.testBit_two_pow_sub_one, h1, Nat.testBit_two_pow_sub_succ ha]
    by_cases hi : i < 64
    · simp [hi]
    · simp only [hi, decide_false, Bool.false_xor, Bool.false_and]
      exact Nat.testBit_lt_two_pow (Nat.lt_of_lt_of_le ha (Nat.pow_le_pow_right (by omega) (by omega)))
  rw [this]
  exact wrap_u64 (by omega) (by omega)

/-- The least bit that is set. -/
theorem low_bit : ∀ (n : Nat), 0 < n → ∃ k m, n = 2 ^ k * (2 * m + 1)
  | 0, h => by omega
  | n + 1, _ => by
    by_cases h : (n + 1) % 2 = 1
    · exact ⟨0, n / 2, by omega⟩
    · obtain ⟨k, m, hk⟩ := low_bit ((n + 1) / 2) (by omega)
      refine ⟨k + 1, m, ?_⟩
      rw [Nat.pow_succ, Nat.mul_assoc, Nat.mul_comm 2, ← Nat.mul_assoc, ← hk]
      omega

theorem low_test (k m : Nat) : (2 ^ k * (2 * m + 1)).testBit k = true ∧ ∀ j, j < k → (2 ^ k * (2 * m + 1)).testBit j = false := by
  rw [Nat.mul_comm]
  refine ⟨?_, fun j hj => ?_⟩
  · rw [Nat.testBit_mul_two_pow]
    simp [Nat.testBit_zero]
  · rw [Nat.testBit_mul_two_pow]
    simp; omega

/-- x and its negative have the least bit in common. -/
theorem and_neg (k m : Nat) (hk : 2 ^ k * (2 * m + 1) < 2 ^ 64) : (2 ^ k * (2 * m + 1)) &&& (2 ^ 64 - 2 ^ k * (2 * m + 1)) = 2 ^ k := by
  have hpos : 0 < 2 ^ k * (2 * m + 1) := Nat.mul_pos (Nat.two_pow_pos k) (by omega)
  have h64 : k < 64 := by
    rcases Nat.lt_or_ge k 64 with h | h
    · exact h
    · have h1 : 2 ^ 64 ≤ 2 ^ k := Nat.pow_le_pow_right (by omega) h
      have h2 : 2 ^ k * 1 ≤ 2 ^ k * (2 * m + 1) := Nat.mul_le_mul_left _ (by omega)
      omega
  obtain ⟨t1, t2⟩ := low_test k m
  generalize hx : 2 ^ k * (2 * m + 1) = x at hk hpos t1 t2 ⊢
  -- 2^64 - x = (2^64 - 1 - (x - 1))
  have e1 : 2 ^ 64 - x = 2 ^ 64 - ((x - 1) + 1) := by omega
  have hx1 : x - 1 < 2 ^ 64 := by omega
  -- x - 1 = 2^(k+1) * m + (2^k - 1)
  have e2 : x - 1 = 2 ^ (k + 1) * m + (2 ^ k - 1) := by
    have : 0 < 2 ^ k := Nat.two_pow_pos k
    rw [← hx, Nat.pow_succ, Nat.mul_add, Nat.mul_one, Nat.mul_assoc]
    omega
  have e3 : x = 2 ^ (k + 1) * m + 2 ^ k := by
    rw [← hx, Nat.pow_succ, Nat.mul_add, Nat.mul_one, Nat.mul_assoc]
  have lt1 : 2 ^ k - 1 < 2 ^ (k + 1) := by rw [Nat.pow_succ]; omega
  have lt2 : 2 ^ k < 2 ^ (k + 1) := by rw [Nat.pow_succ]; have := Nat.two_pow_pos k; omega
  refine Nat.eq_of_testBit_eq fun i => ?_
  rw [Nat.testBit_and, e1, Nat.testBit_two_pow_sub_succ hx1]
  have b1 : (x - 1).testBit i = if i < k + 1 then (2 ^ k - 1).testBit i else m.testBit (i - (k + 1)) := by rw [e2, Nat.testBit_two_pow_mul_add _ lt1]
  have b2 : x.testBit i = if i < k + 1 then (2 ^ k).testBit i else m.testBit (i - (k + 1)) := by rw [e3, Nat.testBit_two_pow_mul_add _ lt2]
  rw [b1, b2, Nat.testBit_two_pow]
  by_cases hi : i < k + 1
  · simp only [hi, if_true, Nat.testBit_two_pow_sub_one]
    by_cases hik : k = i
    · subst hik; simp [h64, Nat.testBit_two_pow]
    · simp [hik, Nat.testBit_two_pow]
  · have hik : ¬ k = i := by omega
    simp only [hi, if_false, hik, decide_false]
    cases m.testBit (i - (k + 1)) <;> simp
/-- The cells of math/bits.deBruijn64tab. -/
def tab0 : List Value := [.int .u8 0, .int .u8 1, .int .u8 56, .int .u8 2, .int .u8 57, .int .u8 49, .int .u8 28, .int .u8 3, .int .u8 61, .int .u8 58, .int .u8 42, .int .u8 50, .int .u8 38, .int .u8 29, .int .u8 17, .int .u8 4, .int .u8 62, .int .u8 47, .int .u8 59, .int .u8 36, .int .u8 45, .int .u8 43, .int .u8 51, .int .u8 22, .int .u8 53, .int .u8 39, .int .u8 33, .int .u8 30, .int .u8 24, .int .u8 18, .int .u8 12, .int .u8 5, .int .u8 63, .int .u8 55, .int .u8 48, .int .u8 27, .int .u8 60, .int .u8 41, .int .u8 37, .int .u8 16, .int .u8 46, .int .u8 35, .int .u8 44, .int .u8 21, .int .u8 52, .int .u8 32, .int .u8 23, .int .u8 11, .int .u8 54, .int .u8 26, .int .u8 40, .int .u8 15, .int .u8 34, .int .u8 20, .int .u8 31, .int .u8 10, .int .u8 25, .int .u8 14, .int .u8 19, .int .u8 9, .int .u8 13, .int .u8 8, .int .u8 7, .int .u8 6]

def debruijn (k : Nat) : Nat := 2 ^ k * 285870213051353865 % 18446744073709551616 / 288230376151711744
theorem tab_lt : (List.range 64).all (fun k => decide (debruijn k < 64)) = true := by decide +kernel
theorem tab_get (k : Nat) (hk : k < 64) : tab0[debruijn k]? = some (.int .u8 (k : Int)) := by
  match k, hk with
  | 0, _ => rfl
  | 1, _ => rfl
  | 2, _ => rfl
  | 3, _ => rfl
  | 4, _ => rfl
  | 5, _ => rfl
  | 6, _ => rfl
  | 7, _ => rfl
  | 8, _ => rfl
  | 9, _ => rfl
  | 10, _ => rfl
  | 11, _ => rfl
  | 12, _ => rfl
  | 13, _ => rfl
  | 14, _ => rfl
  | 15, _ => rfl
  | 16, _ => rfl
  | 17, _ => rfl
  | 18, _ => rfl
  | 19, _ => rfl
  | 20, _ => rfl
  | 21, _ => rfl
  | 22, _ => rfl
  | 23, _ => rfl
  | 24, _ => rfl
  | 25, _ => rfl
  | 26, _ => rfl
  | 27, _ => rfl
  | 28, _ => rfl
  | 29, _ => rfl
  | 30, _ => rfl
  | 31, _ => rfl
  | 32, _ => rfl
  | 33, _ => rfl
  | 34, _ => rfl
  | 35, _ => rfl
  | 36, _ => rfl
  | 37, _ => rfl
  | 38, _ => rfl
  | 39, _ => rfl
  | 40, _ => rfl
  | 41, _ => rfl
  | 42, _ => rfl
  | 43, _ => rfl
  | 44, _ => rfl
  | 45, _ => rfl
  | 46, _ => rfl
  | 47, _ => rfl
  | 48, _ => rfl
  | 49, _ => rfl
  | 50, _ => rfl
  | 51, _ => rfl
  | 52, _ => rfl
  | 53, _ => rfl
  | 54, _ => rfl
  | 55, _ => rfl
  | 56, _ => rfl
  | 57, _ => rfl
  | 58, _ => rfl
  | 59, _ => rfl
  | 60, _ => rfl
  | 61, _ => rfl
  | 62, _ => rfl
  | 63, _ => rfl
  | k + 64, h => omega
theorem tab_at {k : Nat} (hk : k < 64) : debruijn k < 64 ∧ tab0[debruijn k]? = some (.int .u8 (k : Int)) :=
  ⟨of_decide_eq_true (List.all_eq_true.1 tab_lt k (List.mem_range.2 hk)), tab_get k hk⟩

theorem env9 : env 9 = some ir9 := rfl
theorem env10 : env 10 = some ir10 := rfl
theorem env11 : env 11 = some ir11 := rfl
theorem env20 : env 20 = some ir20 := rfl

attribute [local irreducible] callV T.All T.Is run tab0

theorem tz_e1 (x : Nat) (hx : x < 2 ^ 64) (h0 : 0 < x) : IntKind.u64.wrap (0 - (x : Int)) = ((2 ^ 64 - x : Nat) : Int) := by rw [wrap_u64_mod]; omega
theorem tz_e3 (p : Nat) : IntKind.u64.wrap ((p : Int) * 285870213051353865) = ((p * 285870213051353865 % 18446744073709551616 : Nat) : Int) := by
  rw [wrap_u64_mod]; omega
theorem tz_e4 (q : Nat) : ((q : Int)).fdiv (2 ^ min (Int.toNat 58) IntKind.u64.bits) = ((q / 288230376151711744 : Nat) : Int) := by
  have e : (2 : Int) ^ min (Int.toNat 58) IntKind.u64.bits = 288230376151711744 := by decide +kernel
  rw [e, Int.fdiv_eq_ediv_of_nonneg _ (by omega)]
  omega
theorem tz_e5 {i : Nat} {v : Value} {l : List Value} (h : l[i]? = some v) : readC (some (.cells l 1 true)) (i * 1) 1 = some [v] := by
  obtain ⟨hlt, hge⟩ := List.getElem?_eq_some_iff.1 h
  simp only [readC, readN, Nat.mul_one]
  rw [if_pos (by omega), List.drop_eq_getElem_cons hlt, hge]
  simp only [List.take_succ_cons, List.take_zero]
theorem tz_e2 (x k m : Nat) (hx : x < 2 ^ 64) (h0 : 0 < x) (hk : x = 2 ^ k * (2 * m + 1)) : IntKind.u64.wrap ((BitVec.ofInt IntKind.u64.bits (x : Int) &&& BitVec.ofInt IntKind.u64.bits ((2 ^ 64 - x : Nat) : Int)).toNat : Int) = ((2 ^ k : Nat) : Int) := by
  rw [and_u64 _ _ hx (by omega), hk, and_neg k m (by rw [← hk]; exact hx)]
theorem tz_k (x k m : Nat) (hx : x < 2 ^ 64) (hk : x = 2 ^ k * (2 * m + 1)) : k < 64 := by
  rcases Nat.lt_or_ge k 64 with h | h
  · exact h
  · have h1 : 2 ^ 64 ≤ 2 ^ k := Nat.pow_le_pow_right (by omega) h
    have h2 : 2 ^ k * 1 ≤ 2 ^ k * (2 * m + 1) := Nat.mul_le_mul_left _ (by omega)
    omega

theorem tz_walk {n : Nat} {h : Heap} {X Y A B : Int} {q k : Nat} (h0 : ¬ X = 0) (e1 : IntKind.u64.wrap (0 - X) = Y) (e2 : IntKind.u64.wrap ((BitVec.ofInt IntKind.u64.bits X &&& BitVec.ofInt IntKind.u64.bits Y).toNat : Int) = A) (e3 : IntKind.u64.wrap (A * 285870213051353865) = B) (e4 : B.fdiv (2 ^ min (Int.toNat 58) IntKind.u64.bits) = (q : Int))
    (e7 : (q : Int) < ((64 : Nat) : Int)) (e5 : readC (some (.cells tab0 1 true)) (q * 1) 1 = some [.int .u8 (k : Int)]) (e8 : IntKind.i64.wrap (k : Int) = (k : Int)) (ht : h.get 1 = some (.cells tab0 1 true)) :
    (callV env (n + 1) (.func (.func 20) #[] #[]) [.int .u64 X] h).Is fun p => p.1 = .int .i64 (k : Int) ∧ p.2 = h := by
  refine call_is env20 ?_
  have e6 : (0 : Int) ≤ (q : Int) := Int.natCast_nonneg q
  simp (disch := first | assumption | omega | (simp only [alloc_fine, setB_fine, alloc_next, alloc_floor, setB_next, setB_floor, get_alloc_new, get_setB_same, Option.isSome_some, Nat.mul_mod_right, oneCell, List.all_cons, List.all_nil, Bool.and_self, *]; done) | (simp only [alloc_next, alloc_floor, setB_next, setB_floor, List.length_cons, List.length_nil, ne_eq]; omega)) only [ir20, List.append_nil, List.nil_append, List.cons_append, List.length_cons, List.length_nil, Nat.reduceAdd, Nat.reduceSub, List.replicate_succ, List.replicate_zero, h0, e1, e2, e3, e4, e5, e6, e7, e8, ht, Int.toNat_natCast, exec_X, kont_nil, kont_code, kont_code_exit, kont_code_ret, kont_blk, kont_blk_ret, kont_blk_exit, kont_blk_other, X_skip, X_ret, X_exit, X_region, X_seq, X_block, X_loop, X_cond, CK_bool, GK_bool, GK_tt, GK_tf, GK_ft, GK_ff, GK_undef, Y_nil, Y_guard, Z_ret, ZO_some, ZH_some, ZP_some, Y_move, Y_box, Y_bin, Y_un, Y_call, Y_func, Y_pick, Y_build, Y_load1, Y_loadN, Y_store, Y_nilCheck, Y_eqAgg, Y_eqBool, Y_eqPtr, Y_conv, Y_fieldAddr, Y_field1, Y_fieldN, Y_indexAddr, Y_indexAddrArr, Y_extract, Y_lenSlice, Y_minmax, Y_append, Y_makeMap, Y_buildSlice, alloc_next, alloc_floor, alloc_may, alloc_hid, alloc_ro, setB_next, setB_floor, setB_may, setB_hid, setB_ro, get_alloc_new, get_alloc_old, get_setB_same, get_setB_other, alloc_fine, setB_fine, read_eq, readC_cells, write_eq, writeC_cells, canPut_new, canPut_even, ibin_add, ibin_sub, ibin_mul, ibin_quo, ibin_rem, ibin_shl, ibin_shr, ibin_or, ibin_and, ibin_eql, ibin_neq, ibin_lss, ibin_leq, ibin_gtr, ibin_geq, iun_not, iun_neg, vPick_tt, vPick_ff, vPick_b, vLoad1_ptr, vLoadN_ptr, vStore_ptr, vFieldAddr_ptr, vIndexAddr_slice, vIndexAddrArr_ptr, vConv_int, vLenSlice_slice, vField1_agg, vExtract_tuple, vNil_ptr, vEqBool_b, vMin2, vMax2, cellsOf_agg, cellsOf_int, cellsOf_bool, eval_tmp, eval_const, putDst_some, putDst_none, List.set_cons_zero, List.set_cons_succ, List.getD_cons_zero, List.getD_cons_succ, List.map_cons, List.map_nil, ↓reduceIte, reduceCtorEq, Bool.not_true, Bool.not_false, decide_eq_true_eq, decide_eq_false_iff_not, decide_true, decide_false, Nat.zero_add, Nat.add_zero, oneCell, List.all_cons, List.all_nil, Bool.and_true, Bool.true_and, Bool.and_self, List.length_cons, List.length_nil, setAt, readN, List.drop_zero, List.drop_succ_cons, List.take_succ_cons, List.take_zero, Bool.and_eq_true, Bool.or_eq_true, Bool.not_eq_true', not_true_eq_false, not_false_eq_true, and_true, true_and, and_false, false_and, bne_iff_ne, ne_eq, Nat.reduceAdd, Nat.reduceLeDiff, List.getElem?_cons_zero, List.getElem?_cons_succ, Bool.not_eq_false', Bool.not_eq_true, Nat.reduceMul, Int.toNat_zero, Option.isSome_some, List.toList_toArray, List.size_toArray, Nat.mul_mod_right, Nat.lt_irrefl, canPut_alloc, canPut_setB, expand_succ, expand_zero, D_nil, D_guard, DGK_bool, DGK_undef, DO_some, DB_ret, DF_ret, D_move, D_build, D_bin, D_un, D_pick, D_nilCheck, D_eqAgg, D_eqBool, D_eqPtr, D_conv, D_fieldAddr, D_field1, D_fieldN, D_indexAddr, D_indexAddrArr, D_extract, D_lenSlice, D_minmax, D_load1B, D_load1F, D_loadNB, D_loadNF, D_callB, D_callF, seen0_next, seen0_nil_get, vEqPtr_some, vBuild_def, layAt, Nat.reduceLT, List.set_nil, Bool.false_bne, Bool.bne_false, Option.isNone_some, Option.isNone_none, beq_self_eq_true, Bool.not_eq_eq_eq_not, Nat.reduceEqDiff, false_implies, List.append_nil, Bool.and_false, Bool.false_and, Bool.or_false, Bool.or_true, Bool.true_or, Bool.false_or, Bool.false_eq_true, setParams, Y_lookup, D_lookupB, D_lookupF, Y_mapUpdate, DHB_some, D_storeB, Int.reduceLT, Int.reduceLE, Int.reduceGT, Int.reduceGE, Int.reduceEq, Int.reduceNe, Int.lt_irrefl, Int.le_refl]
  exact leaf1 ⟨rfl, rfl⟩

theorem wrap_small {k : Nat} (h : k < 64) : IntKind.i64.wrap (k : Int) = (k : Int) := wrap_i64 (by omega) (by omega)
theorem cast_ne {x : Nat} (h : ¬ x = 0) : ¬ ((x : Int) = 0) := by omega

theorem tz_ok {n : Nat} {h : Heap} {x : Nat} (hx : x < 2 ^ 64) (ht : h.get 1 = some (.cells tab0 1 true)) : (callV env (n + 1) (.func (.func 20) #[] #[]) [.int .u64 (x : Int)] h).Is fun p => (∃ k, k ≤ 64 ∧ p.1 = .int .i64 (k : Int) ∧ (∀ j, j < k → x.testBit j = false) ∧ (k < 64 → x.testBit k = true)) ∧ p.2 = h := by
  by_cases h0 : x = 0
  · refine call_is env20 ?_
    have h0' : (x : Int) = 0 := by rw [h0]; rfl
    simp (disch := first | assumption | omega | (simp only [alloc_fine, setB_fine, alloc_next, alloc_floor, setB_next, setB_floor, get_alloc_new, get_setB_same, Option.isSome_some, Nat.mul_mod_right, oneCell, List.all_cons, List.all_nil, Bool.and_self, *]; done) | (simp only [alloc_next, alloc_floor, setB_next, setB_floor, List.length_cons, List.length_nil, ne_eq]; omega)) only [ir20, List.append_nil, List.nil_append, List.cons_append, List.length_cons, List.length_nil, Nat.reduceAdd, Nat.reduceSub, List.replicate_succ, List.replicate_zero, h0', exec_X, kont_nil, kont_code, kont_code_exit, kont_code_ret, kont_blk, kont_blk_ret, kont_blk_exit, kont_blk_other, X_skip, X_ret, X_exit, X_region, X_seq, X_block, X_loop, X_cond, CK_bool, GK_bool, GK_tt, GK_tf, GK_ft, GK_ff, GK_undef, Y_nil, Y_guard, Z_ret, ZO_some, ZH_some, ZP_some, Y_move, Y_box, Y_bin, Y_un, Y_call, Y_func, Y_pick, Y_build, Y_load1, Y_loadN, Y_store, Y_nilCheck, Y_eqAgg, Y_eqBool, Y_eqPtr, Y_conv, Y_fieldAddr, Y_field1, Y_fieldN, Y_indexAddr, Y_indexAddrArr, Y_extract, Y_lenSlice, Y_minmax, Y_append, Y_makeMap, Y_buildSlice, alloc_next, alloc_floor, alloc_may, alloc_hid, alloc_ro, setB_next, setB_floor, setB_may, setB_hid, setB_ro, get_alloc_new, get_alloc_old, get_setB_same, get_setB_other, alloc_fine, setB_fine, read_eq, readC_cells, write_eq, writeC_cells, canPut_new, canPut_even, ibin_add, ibin_sub, ibin_mul, ibin_quo, ibin_rem, ibin_shl, ibin_shr, ibin_or, ibin_and, ibin_eql, ibin_neq, ibin_lss, ibin_leq, ibin_gtr, ibin_geq, iun_not, iun_neg, vPick_tt, vPick_ff, vPick_b, vLoad1_ptr, vLoadN_ptr, vStore_ptr, vFieldAddr_ptr, vIndexAddr_slice, vIndexAddrArr_ptr, vConv_int, vLenSlice_slice, vField1_agg, vExtract_tuple, vNil_ptr, vEqBool_b, vMin2, vMax2, cellsOf_agg, cellsOf_int, cellsOf_bool, eval_tmp, eval_const, putDst_some, putDst_none, List.set_cons_zero, List.set_cons_succ, List.getD_cons_zero, List.getD_cons_succ, List.map_cons, List.map_nil, ↓reduceIte, reduceCtorEq, Bool.not_true, Bool.not_false, decide_eq_true_eq, decide_eq_false_iff_not, decide_true, decide_false, Nat.zero_add, Nat.add_zero, oneCell, List.all_cons, List.all_nil, Bool.and_true, Bool.true_and, Bool.and_self, List.length_cons, List.length_nil, setAt, readN, List.drop_zero, List.drop_succ_cons, List.take_succ_cons, List.take_zero, Bool.and_eq_true, Bool.or_eq_true, Bool.not_eq_true', not_true_eq_false, not_false_eq_true, and_true, true_and, and_false, false_and, bne_iff_ne, ne_eq, Nat.reduceAdd, Nat.reduceLeDiff, List.getElem?_cons_zero, List.getElem?_cons_succ, Bool.not_eq_false', Bool.not_eq_true, Nat.reduceMul, Int.toNat_zero, Option.isSome_some, List.toList_toArray, List.size_toArray, Nat.mul_mod_right, Nat.lt_irrefl, canPut_alloc, canPut_setB, expand_succ, expand_zero, D_nil, D_guard, DGK_bool, DGK_undef, DO_some, DB_ret, DF_ret, D_move, D_build, D_bin, D_un, D_pick, D_nilCheck, D_eqAgg, D_eqBool, D_eqPtr, D_conv, D_fieldAddr, D_field1, D_fieldN, D_indexAddr, D_indexAddrArr, D_extract, D_lenSlice, D_minmax, D_load1B, D_load1F, D_loadNB, D_loadNF, D_callB, D_callF, seen0_next, seen0_nil_get, vEqPtr_some, vBuild_def, layAt, Nat.reduceLT, List.set_nil, Bool.false_bne, Bool.bne_false, Option.isNone_some, Option.isNone_none, beq_self_eq_true, Bool.not_eq_eq_eq_not, Nat.reduceEqDiff, false_implies, List.append_nil, Bool.and_false, Bool.false_and, Bool.or_false, Bool.or_true, Bool.true_or, Bool.false_or, Bool.false_eq_true, setParams, Y_lookup, D_lookupB, D_lookupF, Y_mapUpdate, DHB_some, D_storeB, Int.reduceLT, Int.reduceLE, Int.reduceGT, Int.reduceGE, Int.reduceEq, Int.reduceNe, Int.lt_irrefl, Int.le_refl]
    exact leaf1 ⟨⟨64, Nat.le_refl _, rfl, fun j _ => by rw [h0]; exact Nat.zero_testBit j, fun h => absurd h (Nat.lt_irrefl _)⟩, rfl⟩
  · obtain ⟨k, m, hk⟩ := low_bit x (Nat.pos_of_ne_zero h0)
    have hk64 := tz_k x k m hx hk
    obtain ⟨t1, t2⟩ := tab_at hk64
    have hdb : 2 ^ k * 285870213051353865 % 18446744073709551616 / 288230376151711744 = debruijn k := by unfold debruijn; exact Eq.refl _
    have e4 := tz_e4 (2 ^ k * 285870213051353865 % 18446744073709551616)
    rw [hdb] at e4
    refine T.Is.mono (fun p hp => ?_) (tz_walk (n := n) (h := h) (k := k) (cast_ne h0) (tz_e1 x hx (Nat.pos_of_ne_zero h0)) (tz_e2 x k m hx (Nat.pos_of_ne_zero h0) hk) (tz_e3 (2 ^ k)) e4 (Int.ofNat_lt.2 t1) (tz_e5 t2) (wrap_small hk64) ht)
    obtain ⟨b1, b2⟩ := low_test k m
    rw [← hk] at b1 b2
    exact ⟨⟨k, Nat.le_of_lt hk64, hp.1, b2, fun _ => b1⟩, hp.2⟩

structure WOK (last s : Nat) : Prop where
  l : last < 4294967296
  sz : s < 2 ^ 64
  top : ∀ k, s.testBit k = true → last + 1 + k < 4294967296

def winO (last s : Nat) : IObj := .cells [.int .u32 (last : Int), .int .u64 (s : Int)] 1 false
def Met (last s x : Nat) : Prop := 1 ≤ x ∧ (x ≤ last ∨ last < x ∧ s.testBit (x - last - 1) = true)
instance (last s x : Nat) : Decidable (Met last s x) := by unfold Met; infer_instance

theorem shr_u64 (s j : Nat) (hj : j ≤ 64) : ((s : Int)).fdiv (2 ^ min ((j : Nat) : Int).toNat IntKind.u64.bits) = ((s / 2 ^ j : Nat) : Int) := by
  have e : min ((j : Nat) : Int).toNat IntKind.u64.bits = j := by
    show min ((j : Nat) : Int).toNat 64 = j
    omega
  rw [e, Int.fdiv_eq_ediv_of_nonneg _ (Int.le_of_lt (Int.pow_pos (by omega)))]
  simp

theorem wrap_nat {n : Nat} (h : n < 2 ^ 64) : IntKind.u64.wrap (n : Int) = (n : Int) := wrap_u64 (by omega) (by omega)
theorem iun_xor (k : IntKind) (n : Int) : iun .xor (.int k n) = some (.int k (k.wrap (BitVec.ofInt k.bits (if k.signed then -1 else k.max) ^^^ BitVec.ofInt k.bits n).toNat)) := nr rfl

theorem last_ok {n wb : Nat} {h : Heap} {last s : Nat} (hg : h.get wb = some (winO last s)) : (callV env (n + 1) (.func (.func 10) #[] #[]) [.pointer (some ⟨wb, 0, none⟩)] h).Is fun p => p.1 = .int .u32 (last : Int) ∧ p.2 = h := by
  refine call_is env10 ?_
  unfold winO at hg
  simp (disch := first | assumption | omega | (simp only [alloc_fine, setB_fine, alloc_next, alloc_floor, setB_next, setB_floor, get_alloc_new, get_setB_same, Option.isSome_some, Nat.mul_mod_right, oneCell, List.all_cons, List.all_nil, Bool.and_self, *]; done) | (simp only [alloc_next, alloc_floor, setB_next, setB_floor, List.length_cons, List.length_nil, ne_eq]; omega)) only [ir10, List.append_nil, List.nil_append, List.cons_append, List.length_cons, List.length_nil, Nat.reduceAdd, Nat.reduceSub, List.replicate_succ, List.replicate_zero, hg, exec_X, kont_nil, kont_code, kont_code_exit, kont_code_ret, kont_blk, kont_blk_ret, kont_blk_exit, kont_blk_other, X_skip, X_ret, X_exit, X_region, X_seq, X_block, X_loop, X_cond, CK_bool, GK_bool, GK_tt, GK_tf, GK_ft, GK_ff, GK_undef, Y_nil, Y_guard, Z_ret, ZO_some, ZH_some, ZP_some, Y_move, Y_box, Y_bin, Y_un, Y_call, Y_func, Y_pick, Y_build, Y_load1, Y_loadN, Y_store, Y_nilCheck, Y_eqAgg, Y_eqBool, Y_eqPtr, Y_conv, Y_fieldAddr, Y_field1, Y_fieldN, Y_indexAddr, Y_indexAddrArr, Y_extract, Y_lenSlice, Y_minmax, Y_append, Y_makeMap, Y_buildSlice, alloc_next, alloc_floor, alloc_may, alloc_hid, alloc_ro, setB_next, setB_floor, setB_may, setB_hid, setB_ro, get_alloc_new, get_alloc_old, get_setB_same, get_setB_other, alloc_fine, setB_fine, read_eq, readC_cells, write_eq, writeC_cells, canPut_new, canPut_even, ibin_add, ibin_sub, ibin_mul, ibin_quo, ibin_rem, ibin_shl, ibin_shr, ibin_or, ibin_and, ibin_eql, ibin_neq, ibin_lss, ibin_leq, ibin_gtr, ibin_geq, iun_not, iun_neg, vPick_tt, vPick_ff, vPick_b, vLoad1_ptr, vLoadN_ptr, vStore_ptr, vFieldAddr_ptr, vIndexAddr_slice, vIndexAddrArr_ptr, vConv_int, vLenSlice_slice, vField1_agg, vExtract_tuple, vNil_ptr, vEqBool_b, vMin2, vMax2, cellsOf_agg, cellsOf_int, cellsOf_bool, eval_tmp, eval_const, putDst_some, putDst_none, List.set_cons_zero, List.set_cons_succ, List.getD_cons_zero, List.getD_cons_succ, List.map_cons, List.map_nil, ↓reduceIte, reduceCtorEq, Bool.not_true, Bool.not_false, decide_eq_true_eq, decide_eq_false_iff_not, decide_true, decide_false, Nat.zero_add, Nat.add_zero, oneCell, List.all_cons, List.all_nil, Bool.and_true, Bool.true_and, Bool.and_self, List.length_cons, List.length_nil, setAt, readN, List.drop_zero, List.drop_succ_cons, List.take_succ_cons, List.take_zero, Bool.and_eq_true, Bool.or_eq_true, Bool.not_eq_true', not_true_eq_false, not_false_eq_true, and_true, true_and, and_false, false_and, bne_iff_ne, ne_eq, Nat.reduceAdd, Nat.reduceLeDiff, List.getElem?_cons_zero, List.getElem?_cons_succ, Bool.not_eq_false', Bool.not_eq_true, Nat.reduceMul, Int.toNat_zero, Option.isSome_some, List.toList_toArray, List.size_toArray, Nat.mul_mod_right, Nat.lt_irrefl, canPut_alloc, canPut_setB, expand_succ, expand_zero, D_nil, D_guard, DGK_bool, DGK_undef, DO_some, DB_ret, DF_ret, D_move, D_build, D_bin, D_un, D_pick, D_nilCheck, D_eqAgg, D_eqBool, D_eqPtr, D_conv, D_fieldAddr, D_field1, D_fieldN, D_indexAddr, D_indexAddrArr, D_extract, D_lenSlice, D_minmax, D_load1B, D_load1F, D_loadNB, D_loadNF, D_callB, D_callF, seen0_next, seen0_nil_get, vEqPtr_some, vBuild_def, layAt, Nat.reduceLT, List.set_nil, Bool.false_bne, Bool.bne_false, Option.isNone_some, Option.isNone_none, beq_self_eq_true, Bool.not_eq_eq_eq_not, Nat.reduceEqDiff, false_implies, List.append_nil, Bool.and_false, Bool.false_and, Bool.or_false, Bool.or_true, Bool.true_or, Bool.false_or, Bool.false_eq_true, setParams, Y_lookup, D_lookupB, D_lookupF, Y_mapUpdate, DHB_some, D_storeB, Int.reduceLT, Int.reduceLE, Int.reduceGT, Int.reduceGE, Int.reduceEq, Int.reduceNe, Int.lt_irrefl, Int.le_refl]
  exact leaf1 ⟨rfl, rfl⟩

theorem has_ok {n wb : Nat} {h : Heap} {last s x : Nat} (hw : WOK last s) (hx : x < 4294967296) (hg : h.get wb = some (winO last s)) : (callV env (n + 1) (.func (.func 11) #[] #[]) [.pointer (some ⟨wb, 0, none⟩), .int .u32 (x : Int)] h).Is fun p => p.1 = .bool (decide (Met last s x)) ∧ p.2 = h := by
  refine call_is env11 ?_
  unfold winO at hg
  by_cases h0 : x = 0
  · subst h0
    simp (disch := first | assumption | omega | (simp only [alloc_fine, setB_fine, alloc_next, alloc_floor, setB_next, setB_floor, get_alloc_new, get_setB_same, Option.isSome_some, Nat.mul_mod_right, oneCell, List.all_cons, List.all_nil, Bool.and_self, *]; done) | (simp only [alloc_next, alloc_floor, setB_next, setB_floor, List.length_cons, List.length_nil, ne_eq]; omega)) only [ir11, List.append_nil, List.nil_append, List.cons_append, List.length_cons, List.length_nil, Nat.reduceAdd, Nat.reduceSub, List.replicate_succ, List.replicate_zero, hg, show ((0 : Nat) : Int) = 0 from rfl, exec_X, kont_nil, kont_code, kont_code_exit, kont_code_ret, kont_blk, kont_blk_ret, kont_blk_exit, kont_blk_other, X_skip, X_ret, X_exit, X_region, X_seq, X_block, X_loop, X_cond, CK_bool, GK_bool, GK_tt, GK_tf, GK_ft, GK_ff, GK_undef, Y_nil, Y_guard, Z_ret, ZO_some, ZH_some, ZP_some, Y_move, Y_box, Y_bin, Y_un, Y_call, Y_func, Y_pick, Y_build, Y_load1, Y_loadN, Y_store, Y_nilCheck, Y_eqAgg, Y_eqBool, Y_eqPtr, Y_conv, Y_fieldAddr, Y_field1, Y_fieldN, Y_indexAddr, Y_indexAddrArr, Y_extract, Y_lenSlice, Y_minmax, Y_append, Y_makeMap, Y_buildSlice, alloc_next, alloc_floor, alloc_may, alloc_hid, alloc_ro, setB_next, setB_floor, setB_may, setB_hid, setB_ro, get_alloc_new, get_alloc_old, get_setB_same, get_setB_other, alloc_fine, setB_fine, read_eq, readC_cells, write_eq, writeC_cells, canPut_new, canPut_even, ibin_add, ibin_sub, ibin_mul, ibin_quo, ibin_rem, ibin_shl, ibin_shr, ibin_or, ibin_and, ibin_eql, ibin_neq, ibin_lss, ibin_leq, ibin_gtr, ibin_geq, iun_not, iun_neg, vPick_tt, vPick_ff, vPick_b, vLoad1_ptr, vLoadN_ptr, vStore_ptr, vFieldAddr_ptr, vIndexAddr_slice, vIndexAddrArr_ptr, vConv_int, vLenSlice_slice, vField1_agg, vExtract_tuple, vNil_ptr, vEqBool_b, vMin2, vMax2, cellsOf_agg, cellsOf_int, cellsOf_bool, eval_tmp, eval_const, putDst_some, putDst_none, List.set_cons_zero, List.set_cons_succ, List.getD_cons_zero, List.getD_cons_succ, List.map_cons, List.map_nil, ↓reduceIte, reduceCtorEq, Bool.not_true, Bool.not_false, decide_eq_true_eq, decide_eq_false_iff_not, decide_true, decide_false, Nat.zero_add, Nat.add_zero, oneCell, List.all_cons, List.all_nil, Bool.and_true, Bool.true_and, Bool.and_self, List.length_cons, List.length_nil, setAt, readN, List.drop_zero, List.drop_succ_cons, List.take_succ_cons, List.take_zero, Bool.and_eq_true, Bool.or_eq_true, Bool.not_eq_true', not_true_eq_false, not_false_eq_true, and_true, true_and, and_false, false_and, bne_iff_ne, ne_eq, Nat.reduceAdd, Nat.reduceLeDiff, List.getElem?_cons_zero, List.getElem?_cons_succ, Bool.not_eq_false', Bool.not_eq_true, Nat.reduceMul, Int.toNat_zero, Option.isSome_some, List.toList_toArray, List.size_toArray, Nat.mul_mod_right, Nat.lt_irrefl, canPut_alloc, canPut_setB, expand_succ, expand_zero, D_nil, D_guard, DGK_bool, DGK_undef, DO_some, DB_ret, DF_ret, D_move, D_build, D_bin, D_un, D_pick, D_nilCheck, D_eqAgg, D_eqBool, D_eqPtr, D_conv, D_fieldAddr, D_field1, D_fieldN, D_indexAddr, D_indexAddrArr, D_extract, D_lenSlice, D_minmax, D_load1B, D_load1F, D_loadNB, D_loadNF, D_callB, D_callF, seen0_next, seen0_nil_get, vEqPtr_some, vBuild_def, layAt, Nat.reduceLT, List.set_nil, Bool.false_bne, Bool.bne_false, Option.isNone_some, Option.isNone_none, beq_self_eq_true, Bool.not_eq_eq_eq_not, Nat.reduceEqDiff, false_implies, List.append_nil, Bool.and_false, Bool.false_and, Bool.or_false, Bool.or_true, Bool.true_or, Bool.false_or, Bool.false_eq_true, setParams, Y_lookup, D_lookupB, D_lookupF, Y_mapUpdate, DHB_some, D_storeB, Int.reduceLT, Int.reduceLE, Int.reduceGT, Int.reduceGE, Int.reduceEq, Int.reduceNe, Int.lt_irrefl, Int.le_refl]
    exact leaf1 ⟨by rw [decide_eq_false (by unfold Met; omega)]; rfl, rfl⟩
  have h0' : ¬ ((x : Int) = 0) := by omega
  by_cases h1 : x ≤ last
  · have h1' : (x : Int) ≤ (last : Int) := by omega
    simp (disch := first | assumption | omega | (simp only [alloc_fine, setB_fine, alloc_next, alloc_floor, setB_next, setB_floor, get_alloc_new, get_setB_same, Option.isSome_some, Nat.mul_mod_right, oneCell, List.all_cons, List.all_nil, Bool.and_self, *]; done) | (simp only [alloc_next, alloc_floor, setB_next, setB_floor, List.length_cons, List.length_nil, ne_eq]; omega)) only [ir11, List.append_nil, List.nil_append, List.cons_append, List.length_cons, List.length_nil, Nat.reduceAdd, Nat.reduceSub, List.replicate_succ, List.replicate_zero, hg, h0', h1', exec_X, kont_nil, kont_code, kont_code_exit, kont_code_ret, kont_blk, kont_blk_ret, kont_blk_exit, kont_blk_other, X_skip, X_ret, X_exit, X_region, X_seq, X_block, X_loop, X_cond, CK_bool, GK_bool, GK_tt, GK_tf, GK_ft, GK_ff, GK_undef, Y_nil, Y_guard, Z_ret, ZO_some, ZH_some, ZP_some, Y_move, Y_box, Y_bin, Y_un, Y_call, Y_func, Y_pick, Y_build, Y_load1, Y_loadN, Y_store, Y_nilCheck, Y_eqAgg, Y_eqBool, Y_eqPtr, Y_conv, Y_fieldAddr, Y_field1, Y_fieldN, Y_indexAddr, Y_indexAddrArr, Y_extract, Y_lenSlice, Y_minmax, Y_append, Y_makeMap, Y_buildSlice, alloc_next, alloc_floor, alloc_may, alloc_hid, alloc_ro, setB_next, setB_floor, setB_may, setB_hid, setB_ro, get_alloc_new, get_alloc_old, get_setB_same, get_setB_other, alloc_fine, setB_fine, read_eq, readC_cells, write_eq, writeC_cells, canPut_new, canPut_even, ibin_add, ibin_sub, ibin_mul, ibin_quo, ibin_rem, ibin_shl, ibin_shr, ibin_or, ibin_and, ibin_eql, ibin_neq, ibin_lss, ibin_leq, ibin_gtr, ibin_geq, iun_not, iun_neg, vPick_tt, vPick_ff, vPick_b, vLoad1_ptr, vLoadN_ptr, vStore_ptr, vFieldAddr_ptr, vIndexAddr_slice, vIndexAddrArr_ptr, vConv_int, vLenSlice_slice, vField1_agg, vExtract_tuple, vNil_ptr, vEqBool_b, vMin2, vMax2, cellsOf_agg, cellsOf_int, cellsOf_bool, eval_tmp, eval_const, putDst_some, putDst_none, List.set_cons_zero, List.set_cons_succ, List.getD_cons_zero, List.getD_cons_succ, List.map_cons, List.map_nil, ↓reduceIte, reduceCtorEq, Bool.not_true, Bool.not_false, decide_eq_true_eq, decide_eq_false_iff_not, decide_true, decide_false, Nat.zero_add, Nat.add_zero, oneCell, List.all_cons, List.all_nil, Bool.and_true, Bool.true_and, Bool.and_self, List.length_cons, List.length_nil, setAt, readN, List.drop_zero, List.drop_succ_cons, List.take_succ_cons, List.take_zero, Bool.and_eq_true, Bool.or_eq_true, Bool.not_eq_true', not_true_eq_false, not_false_eq_true, and_true, true_and, and_false, false_and, bne_iff_ne, ne_eq, Nat.reduceAdd, Nat.reduceLeDiff, List.getElem?_cons_zero, List.getElem?_cons_succ, Bool.not_eq_false', Bool.not_eq_true, Nat.reduceMul, Int.toNat_zero, Option.isSome_some, List.toList_toArray, List.size_toArray, Nat.mul_mod_right, Nat.lt_irrefl, canPut_alloc, canPut_setB, expand_succ, expand_zero, D_nil, D_guard, DGK_bool, DGK_undef, DO_some, DB_ret, DF_ret, D_move, D_build, D_bin, D_un, D_pick, D_nilCheck, D_eqAgg, D_eqBool, D_eqPtr, D_conv, D_fieldAddr, D_field1, D_fieldN, D_indexAddr, D_indexAddrArr, D_extract, D_lenSlice, D_minmax, D_load1B, D_load1F, D_loadNB, D_loadNF, D_callB, D_callF, seen0_next, seen0_nil_get, vEqPtr_some, vBuild_def, layAt, Nat.reduceLT, List.set_nil, Bool.false_bne, Bool.bne_false, Option.isNone_some, Option.isNone_none, beq_self_eq_true, Bool.not_eq_eq_eq_not, Nat.reduceEqDiff, false_implies, List.append_nil, Bool.and_false, Bool.false_and, Bool.or_false, Bool.or_true, Bool.true_or, Bool.false_or, Bool.false_eq_true, setParams, Y_lookup, D_lookupB, D_lookupF, Y_mapUpdate, DHB_some, D_storeB, Int.reduceLT, Int.reduceLE, Int.reduceGT, Int.reduceGE, Int.reduceEq, Int.reduceNe, Int.lt_irrefl, Int.le_refl]
    exact leaf1 ⟨by rw [decide_eq_true (by unfold Met; omega)]; rfl, rfl⟩
  have h1' : ¬ (x : Int) ≤ (last : Int) := by omega
  have e1 : IntKind.u32.wrap ((x : Int) - (last : Int)) = ((x - last : Nat) : Int) := by rw [wrap_u32_mod]; omega
  simp (disch := first | assumption | omega | (simp only [alloc_fine, setB_fine, alloc_next, alloc_floor, setB_next, setB_floor, get_alloc_new, get_setB_same, Option.isSome_some, Nat.mul_mod_right, oneCell, List.all_cons, List.all_nil, Bool.and_self, *]; done) | (simp only [alloc_next, alloc_floor, setB_next, setB_floor, List.length_cons, List.length_nil, ne_eq]; omega)) only [ir11, List.append_nil, List.nil_append, List.cons_append, List.length_cons, List.length_nil, Nat.reduceAdd, Nat.reduceSub, List.replicate_succ, List.replicate_zero, hg, h0', h1', exec_X, kont_nil, kont_code, kont_code_exit, kont_code_ret, kont_blk, kont_blk_ret, kont_blk_exit, kont_blk_other, X_skip, X_ret, X_exit, X_region, X_seq, X_block, X_loop, X_cond, CK_bool, GK_bool, GK_tt, GK_tf, GK_ft, GK_ff, GK_undef, Y_nil, Y_guard, Z_ret, ZO_some, ZH_some, ZP_some, Y_move, Y_box, Y_bin, Y_un, Y_call, Y_func, Y_pick, Y_build, Y_load1, Y_loadN, Y_store, Y_nilCheck, Y_eqAgg, Y_eqBool, Y_eqPtr, Y_conv, Y_fieldAddr, Y_field1, Y_fieldN, Y_indexAddr, Y_indexAddrArr, Y_extract, Y_lenSlice, Y_minmax, Y_append, Y_makeMap, Y_buildSlice, alloc_next, alloc_floor, alloc_may, alloc_hid, alloc_ro, setB_next, setB_floor, setB_may, setB_hid, setB_ro, get_alloc_new, get_alloc_old, get_setB_same, get_setB_other, alloc_fine, setB_fine, read_eq, readC_cells, write_eq, writeC_cells, canPut_new, canPut_even, ibin_add, ibin_sub, ibin_mul, ibin_quo, ibin_rem, ibin_shl, ibin_shr, ibin_or, ibin_and, ibin_eql, ibin_neq, ibin_lss, ibin_leq, ibin_gtr, ibin_geq, iun_not, iun_neg, vPick_tt, vPick_ff, vPick_b, vLoad1_ptr, vLoadN_ptr, vStore_ptr, vFieldAddr_ptr, vIndexAddr_slice, vIndexAddrArr_ptr, vConv_int, vLenSlice_slice, vField1_agg, vExtract_tuple, vNil_ptr, vEqBool_b, vMin2, vMax2, cellsOf_agg, cellsOf_int, cellsOf_bool, eval_tmp, eval_const, putDst_some, putDst_none, List.set_cons_zero, List.set_cons_succ, List.getD_cons_zero, List.getD_cons_succ, List.map_cons, List.map_nil, ↓reduceIte, reduceCtorEq, Bool.not_true, Bool.not_false, decide_eq_true_eq, decide_eq_false_iff_not, decide_true, decide_false, Nat.zero_add, Nat.add_zero, oneCell, List.all_cons, List.all_nil, Bool.and_true, Bool.true_and, Bool.and_self, List.length_cons, List.length_nil, setAt, readN, List.drop_zero, List.drop_succ_cons, List.take_succ_cons, List.take_zero, Bool.and_eq_true, Bool.or_eq_true, Bool.not_eq_true', not_true_eq_false, not_false_eq_true, and_true, true_and, and_false, false_and, bne_iff_ne, ne_eq, Nat.reduceAdd, Nat.reduceLeDiff, List.getElem?_cons_zero, List.getElem?_cons_succ, Bool.not_eq_false', Bool.not_eq_true, Nat.reduceMul, Int.toNat_zero, Option.isSome_some, List.toList_toArray, List.size_toArray, Nat.mul_mod_right, Nat.lt_irrefl, canPut_alloc, canPut_setB, expand_succ, expand_zero, D_nil, D_guard, DGK_bool, DGK_undef, DO_some, DB_ret, DF_ret, D_move, D_build, D_bin, D_un, D_pick, D_nilCheck, D_eqAgg, D_eqBool, D_eqPtr, D_conv, D_fieldAddr, D_field1, D_fieldN, D_indexAddr, D_indexAddrArr, D_extract, D_lenSlice, D_minmax, D_load1B, D_load1F, D_loadNB, D_loadNF, D_callB, D_callF, seen0_next, seen0_nil_get, vEqPtr_some, vBuild_def, layAt, Nat.reduceLT, List.set_nil, Bool.false_bne, Bool.bne_false, Option.isNone_some, Option.isNone_none, beq_self_eq_true, Bool.not_eq_eq_eq_not, Nat.reduceEqDiff, false_implies, List.append_nil, Bool.and_false, Bool.false_and, Bool.or_false, Bool.or_true, Bool.true_or, Bool.false_or, Bool.false_eq_true, setParams, Y_lookup, D_lookupB, D_lookupF, Y_mapUpdate, DHB_some, D_storeB, Int.reduceLT, Int.reduceLE, Int.reduceGT, Int.reduceGE, Int.reduceEq, Int.reduceNe, Int.lt_irrefl, Int.le_refl]
  refine X_drawn _ fun an => ?_
  by_cases h2 : x - last ≤ 64
  · have h2' : ((x - last : Nat) : Int) ≤ 64 := by omega
    have e2 : IntKind.u32.wrap (((x - last : Nat) : Int) - 1) = ((x - last - 1 : Nat) : Int) := by rw [wrap_u32_mod]; omega
    have e3 : (0 : Int) ≤ ((x - last - 1 : Nat) : Int) := by omega
    have e4 := shr_u64 s (x - last - 1) (by omega)
    have e5 : IntKind.u64.wrap ((BitVec.ofInt IntKind.u64.bits ((s / 2 ^ (x - last - 1) : Nat) : Int) &&& BitVec.ofInt IntKind.u64.bits 1).toNat : Int) = (((s / 2 ^ (x - last - 1)) % 2 : Nat) : Int) := by
      have := and_u64 (s / 2 ^ (x - last - 1)) 1 (Nat.lt_of_le_of_lt (Nat.div_le_self _ _) hw.sz) (by omega)
      rw [Nat.and_one_is_mod] at this
      exact this
    have e6 : decide ((((s / 2 ^ (x - last - 1)) % 2 : Nat) : Int) = 1) = decide (Met last s x) := by
      rw [decide_eq_decide]
      unfold Met
      rw [Nat.testBit_eq_decide_div_mod_eq]
      simp only [decide_eq_true_eq]
      omega
    simp (disch := first | assumption | omega | (simp only [alloc_fine, setB_fine, alloc_next, alloc_floor, setB_next, setB_floor, get_alloc_new, get_setB_same, Option.isSome_some, Nat.mul_mod_right, oneCell, List.all_cons, List.all_nil, Bool.and_self, *]; done) | (simp only [alloc_next, alloc_floor, setB_next, setB_floor, List.length_cons, List.length_nil, ne_eq]; omega)) only [hg, e1, h2', e2, e3, e4, e5, e6, exec_X, kont_nil, kont_code, kont_code_exit, kont_code_ret, kont_blk, kont_blk_ret, kont_blk_exit, kont_blk_other, X_skip, X_ret, X_exit, X_region, X_seq, X_block, X_loop, X_cond, CK_bool, GK_bool, GK_tt, GK_tf, GK_ft, GK_ff, GK_undef, Y_nil, Y_guard, Z_ret, ZO_some, ZH_some, ZP_some, Y_move, Y_box, Y_bin, Y_un, Y_call, Y_func, Y_pick, Y_build, Y_load1, Y_loadN, Y_store, Y_nilCheck, Y_eqAgg, Y_eqBool, Y_eqPtr, Y_conv, Y_fieldAddr, Y_field1, Y_fieldN, Y_indexAddr, Y_indexAddrArr, Y_extract, Y_lenSlice, Y_minmax, Y_append, Y_makeMap, Y_buildSlice, alloc_next, alloc_floor, alloc_may, alloc_hid, alloc_ro, setB_next, setB_floor, setB_may, setB_hid, setB_ro, get_alloc_new, get_alloc_old, get_setB_same, get_setB_other, alloc_fine, setB_fine, read_eq, readC_cells, write_eq, writeC_cells, canPut_new, canPut_even, ibin_add, ibin_sub, ibin_mul, ibin_quo, ibin_rem, ibin_shl, ibin_shr, ibin_or, ibin_and, ibin_eql, ibin_neq, ibin_lss, ibin_leq, ibin_gtr, ibin_geq, iun_not, iun_neg, vPick_tt, vPick_ff, vPick_b, vLoad1_ptr, vLoadN_ptr, vStore_ptr, vFieldAddr_ptr, vIndexAddr_slice, vIndexAddrArr_ptr, vConv_int, vLenSlice_slice, vField1_agg, vExtract_tuple, vNil_ptr, vEqBool_b, vMin2, vMax2, cellsOf_agg, cellsOf_int, cellsOf_bool, eval_tmp, eval_const, putDst_some, putDst_none, List.set_cons_zero, List.set_cons_succ, List.getD_cons_zero, List.getD_cons_succ, List.map_cons, List.map_nil, ↓reduceIte, reduceCtorEq, Bool.not_true, Bool.not_false, decide_eq_true_eq, decide_eq_false_iff_not, decide_true, decide_false, Nat.zero_add, Nat.add_zero, oneCell, List.all_cons, List.all_nil, Bool.and_true, Bool.true_and, Bool.and_self, List.length_cons, List.length_nil, setAt, readN, List.drop_zero, List.drop_succ_cons, List.take_succ_cons, List.take_zero, Bool.and_eq_true, Bool.or_eq_true, Bool.not_eq_true', not_true_eq_false, not_false_eq_true, and_true, true_and, and_false, false_and, bne_iff_ne, ne_eq, Nat.reduceAdd, Nat.reduceLeDiff, List.getElem?_cons_zero, List.getElem?_cons_succ, Bool.not_eq_false', Bool.not_eq_true, Nat.reduceMul, Int.toNat_zero, Option.isSome_some, List.toList_toArray, List.size_toArray, Nat.mul_mod_right, Nat.lt_irrefl, canPut_alloc, canPut_setB, expand_succ, expand_zero, D_nil, D_guard, DGK_bool, DGK_undef, DO_some, DB_ret, DF_ret, D_move, D_build, D_bin, D_un, D_pick, D_nilCheck, D_eqAgg, D_eqBool, D_eqPtr, D_conv, D_fieldAddr, D_field1, D_fieldN, D_indexAddr, D_indexAddrArr, D_extract, D_lenSlice, D_minmax, D_load1B, D_load1F, D_loadNB, D_loadNF, D_callB, D_callF, seen0_next, seen0_nil_get, vEqPtr_some, vBuild_def, layAt, Nat.reduceLT, List.set_nil, Bool.false_bne, Bool.bne_false, Option.isNone_some, Option.isNone_none, beq_self_eq_true, Bool.not_eq_eq_eq_not, Nat.reduceEqDiff, false_implies, List.append_nil, Bool.and_false, Bool.false_and, Bool.or_false, Bool.or_true, Bool.true_or, Bool.false_or, Bool.false_eq_true, setParams, Y_lookup, D_lookupB, D_lookupF, Y_mapUpdate, DHB_some, D_storeB, Int.reduceLT, Int.reduceLE, Int.reduceGT, Int.reduceGE, Int.reduceEq, Int.reduceNe, Int.lt_irrefl, Int.le_refl]
    exact leaf1 ⟨rfl, rfl⟩
  · have h2' : ¬ ((x - last : Nat) : Int) ≤ 64 := by omega
    simp (disch := first | assumption | omega | (simp only [alloc_fine, setB_fine, alloc_next, alloc_floor, setB_next, setB_floor, get_alloc_new, get_setB_same, Option.isSome_some, Nat.mul_mod_right, oneCell, List.all_cons, List.all_nil, Bool.and_self, *]; done) | (simp only [alloc_next, alloc_floor, setB_next, setB_floor, List.length_cons, List.length_nil, ne_eq]; omega)) only [hg, e1, h2', exec_X, kont_nil, kont_code, kont_code_exit, kont_code_ret, kont_blk, kont_blk_ret, kont_blk_exit, kont_blk_other, X_skip, X_ret, X_exit, X_region, X_seq, X_block, X_loop, X_cond, CK_bool, GK_bool, GK_tt, GK_tf, GK_ft, GK_ff, GK_undef, Y_nil, Y_guard, Z_ret, ZO_some, ZH_some, ZP_some, Y_move, Y_box, Y_bin, Y_un, Y_call, Y_func, Y_pick, Y_build, Y_load1, Y_loadN, Y_store, Y_nilCheck, Y_eqAgg, Y_eqBool, Y_eqPtr, Y_conv, Y_fieldAddr, Y_field1, Y_fieldN, Y_indexAddr, Y_indexAddrArr, Y_extract, Y_lenSlice, Y_minmax, Y_append, Y_makeMap, Y_buildSlice, alloc_next, alloc_floor, alloc_may, alloc_hid, alloc_ro, setB_next, setB_floor, setB_may, setB_hid, setB_ro, get_alloc_new, get_alloc_old, get_setB_same, get_setB_other, alloc_fine, setB_fine, read_eq, readC_cells, write_eq, writeC_cells, canPut_new, canPut_even, ibin_add, ibin_sub, ibin_mul, ibin_quo, ibin_rem, ibin_shl, ibin_shr, ibin_or, ibin_and, ibin_eql, ibin_neq, ibin_lss, ibin_leq, ibin_gtr, ibin_geq, iun_not, iun_neg, vPick_tt, vPick_ff, vPick_b, vLoad1_ptr, vLoadN_ptr, vStore_ptr, vFieldAddr_ptr, vIndexAddr_slice, vIndexAddrArr_ptr, vConv_int, vLenSlice_slice, vField1_agg, vExtract_tuple, vNil_ptr, vEqBool_b, vMin2, vMax2, cellsOf_agg, cellsOf_int, cellsOf_bool, eval_tmp, eval_const, putDst_some, putDst_none, List.set_cons_zero, List.set_cons_succ, List.getD_cons_zero, List.getD_cons_succ, List.map_cons, List.map_nil, ↓reduceIte, reduceCtorEq, Bool.not_true, Bool.not_false, decide_eq_true_eq, decide_eq_false_iff_not, decide_true, decide_false, Nat.zero_add, Nat.add_zero, oneCell, List.all_cons, List.all_nil, Bool.and_true, Bool.true_and, Bool.and_self, List.length_cons, List.length_nil, setAt, readN, List.drop_zero, List.drop_succ_cons, List.take_succ_cons, List.take_zero, Bool.and_eq_true, Bool.or_eq_true, Bool.not_eq_true', not_true_eq_false, not_false_eq_true, and_true, true_and, and_false, false_and, bne_iff_ne, ne_eq, Nat.reduceAdd, Nat.reduceLeDiff, List.getElem?_cons_zero, List.getElem?_cons_succ, Bool.not_eq_false', Bool.not_eq_true, Nat.reduceMul, Int.toNat_zero, Option.isSome_some, List.toList_toArray, List.size_toArray, Nat.mul_mod_right, Nat.lt_irrefl, canPut_alloc, canPut_setB, expand_succ, expand_zero, D_nil, D_guard, DGK_bool, DGK_undef, DO_some, DB_ret, DF_ret, D_move, D_build, D_bin, D_un, D_pick, D_nilCheck, D_eqAgg, D_eqBool, D_eqPtr, D_conv, D_fieldAddr, D_field1, D_fieldN, D_indexAddr, D_indexAddrArr, D_extract, D_lenSlice, D_minmax, D_load1B, D_load1F, D_loadNB, D_loadNF, D_callB, D_callF, seen0_next, seen0_nil_get, vEqPtr_some, vBuild_def, layAt, Nat.reduceLT, List.set_nil, Bool.false_bne, Bool.bne_false, Option.isNone_some, Option.isNone_none, beq_self_eq_true, Bool.not_eq_eq_eq_not, Nat.reduceEqDiff, false_implies, List.append_nil, Bool.and_false, Bool.false_and, Bool.or_false, Bool.or_true, Bool.true_or, Bool.false_or, Bool.false_eq_true, setParams, Y_lookup, D_lookupB, D_lookupF, Y_mapUpdate, DHB_some, D_storeB, Int.reduceLT, Int.reduceLE, Int.reduceGT, Int.reduceGE, Int.reduceEq, Int.reduceNe, Int.lt_irrefl, Int.le_refl]
    refine leaf1 ⟨?_, rfl⟩
    rw [decide_eq_false]
    · rfl
    · unfold Met
      have : s.testBit (x - last - 1) = false := Nat.testBit_lt_two_pow (Nat.lt_of_lt_of_le hw.sz (Nat.pow_le_pow_right (by omega) (by omega)))
      rw [this]
      simp; omega

/-- Behind a new number: what the window holds. -/
theorem meet_math {last s x k : Nat} (hw : WOK last s) (hx : x < 4294967296) (hm : ¬ Met last s x) (h0 : 1 ≤ x) (hf : x - last ≤ 64) (hk : k ≤ 64) (h1 : ∀ j, j < k → (s ||| 2 ^ (x - last - 1)).testBit j = true) (h2 : k < 64 → (s ||| 2 ^ (x - last - 1)).testBit k = false) :
    WOK (last + k) ((s ||| 2 ^ (x - last - 1)) / 2 ^ k) ∧ ∀ y, Met (last + k) ((s ||| 2 ^ (x - last - 1)) / 2 ^ k) y ↔ Met last s y ∨ y = x := by
  have hlx : last < x := by unfold Met at hm; omega
  have hs1 : (s ||| 2 ^ (x - last - 1)) < 2 ^ 64 := Nat.or_lt_two_pow hw.sz (Nat.pow_lt_pow_right (by omega) (by omega))
  have hb : ∀ j, (s ||| 2 ^ (x - last - 1)).testBit j = (s.testBit j || decide (x - last - 1 = j)) := fun j => by rw [Nat.testBit_or, Nat.testBit_two_pow]
  have htop : ∀ j, (s ||| 2 ^ (x - last - 1)).testBit j = true → last + 1 + j < 4294967296 := fun j hj => by
    rw [hb, Bool.or_eq_true, decide_eq_true_eq] at hj
    rcases hj with hj | hj
    · exact hw.top j hj
    · omega
  have hsh : ∀ j, ((s ||| 2 ^ (x - last - 1)) / 2 ^ k).testBit j = (s ||| 2 ^ (x - last - 1)).testBit (j + k) := fun j => by rw [Nat.testBit_div_two_pow]
  refine ⟨⟨?_, Nat.lt_of_le_of_lt (Nat.div_le_self _ _) hs1, fun j hj => ?_⟩, fun y => ?_⟩
  · rcases Nat.eq_zero_or_pos k with h | h
    · subst h; have := hw.l; omega
    · have := htop (k - 1) (h1 (k - 1) (by omega)); omega
  · rw [hsh] at hj
    have := htop _ hj
    omega
  · unfold Met
    rw [hsh]
    have hxy : y = x ↔ last < y ∧ x - last - 1 = y - last - 1 := by omega
    by_cases c1 : y ≤ last
    · constructor
      · rintro ⟨y1, _⟩; exact Or.inl ⟨y1, Or.inl c1⟩
      · rintro (⟨y1, _⟩ | e)
        · exact ⟨y1, Or.inl (by omega)⟩
        · omega
    · by_cases c2 : y ≤ last + k
      · have := h1 (y - last - 1) (by omega)
        rw [hb, Bool.or_eq_true, decide_eq_true_eq] at this
        constructor
        · rintro ⟨y1, _⟩
          rcases this with t | t
          · exact Or.inl ⟨y1, Or.inr ⟨by omega, t⟩⟩
          · exact Or.inr (by omega)
        · intro _; exact ⟨by omega, Or.inl c2⟩
      · have e : y - (last + k) - 1 + k = y - last - 1 := by omega
        rw [e, hb, Bool.or_eq_true, decide_eq_true_eq]
        constructor
        · rintro ⟨y1, y2 | ⟨_, y2 | y2⟩⟩
          · omega
          · exact Or.inl ⟨y1, Or.inr ⟨by omega, y2⟩⟩
          · exact Or.inr (by omega)
        · rintro (⟨y1, y2 | ⟨_, y2⟩⟩ | y2)
          · omega
          · exact ⟨y1, Or.inr ⟨by omega, Or.inl y2⟩⟩
          · exact ⟨by omega, Or.inr ⟨by omega, Or.inr (by omega)⟩⟩

theorem meet_ok {n wb : Nat} {h : Heap} {last s x : Nat} (hw : WOK last s) (hx : x < 4294967296) (hg : h.get wb = some (winO last s)) (hwb : wb % 2 = 0) (hfl : h.floor ≤ wb / 2) (ht : h.get 1 = some (.cells tab0 1 true)) :
    (callV env (n + 2) (.func (.func 9) #[] #[]) [.pointer (some ⟨wb, 0, none⟩), .int .u32 (x : Int)] h).Is fun p =>
      (x = 0 → p.1 = .int .i64 0 ∧ p.2 = h) ∧ (x ≠ 0 → Met last s x → p.1 = .int .i64 2 ∧ p.2 = h) ∧ (x ≠ 0 → ¬ Met last s x → last + 64 < x → p.1 = .int .i64 3 ∧ p.2 = h) ∧
      (x ≠ 0 → ¬ Met last s x → x ≤ last + 64 → p.1 = .int .i64 1 ∧ ∃ last' s', WOK last' s' ∧ last ≤ last' ∧ (∀ y, Met last' s' y ↔ Met last s y ∨ y = x) ∧ (s'.testBit 0 = false) ∧ Upd h p.2 wb (winO last' s')) := by
  refine call_is env9 ?_
  by_cases h0 : x = 0
  · have h0' : (x : Int) = 0 := by omega
    simp (disch := first | assumption | omega | (simp only [alloc_fine, setB_fine, alloc_next, alloc_floor, setB_next, setB_floor, get_alloc_new, get_setB_same, Option.isSome_some, Nat.mul_mod_right, oneCell, List.all_cons, List.all_nil, Bool.and_self, *]; done) | (simp only [alloc_next, alloc_floor, setB_next, setB_floor, List.length_cons, List.length_nil, ne_eq]; omega)) only [ir9, List.append_nil, List.nil_append, List.cons_append, List.length_cons, List.length_nil, Nat.reduceAdd, Nat.reduceSub, List.replicate_succ, List.replicate_zero, h0', exec_X, kont_nil, kont_code, kont_code_exit, kont_code_ret, kont_blk, kont_blk_ret, kont_blk_exit, kont_blk_other, X_skip, X_ret, X_exit, X_region, X_seq, X_block, X_loop, X_cond, CK_bool, GK_bool, GK_tt, GK_tf, GK_ft, GK_ff, GK_undef, Y_nil, Y_guard, Z_ret, ZO_some, ZH_some, ZP_some, Y_move, Y_box, Y_bin, Y_un, Y_call, Y_func, Y_pick, Y_build, Y_load1, Y_loadN, Y_store, Y_nilCheck, Y_eqAgg, Y_eqBool, Y_eqPtr, Y_conv, Y_fieldAddr, Y_field1, Y_fieldN, Y_indexAddr, Y_indexAddrArr, Y_extract, Y_lenSlice, Y_minmax, Y_append, Y_makeMap, Y_buildSlice, alloc_next, alloc_floor, alloc_may, alloc_hid, alloc_ro, setB_next, setB_floor, setB_may, setB_hid, setB_ro, get_alloc_new, get_alloc_old, get_setB_same, get_setB_other, alloc_fine, setB_fine, read_eq, readC_cells, write_eq, writeC_cells, canPut_new, canPut_even, ibin_add, ibin_sub, ibin_mul, ibin_quo, ibin_rem, ibin_shl, ibin_shr, ibin_or, ibin_and, ibin_eql, ibin_neq, ibin_lss, ibin_leq, ibin_gtr, ibin_geq, iun_not, iun_neg, vPick_tt, vPick_ff, vPick_b, vLoad1_ptr, vLoadN_ptr, vStore_ptr, vFieldAddr_ptr, vIndexAddr_slice, vIndexAddrArr_ptr, vConv_int, vLenSlice_slice, vField1_agg, vExtract_tuple, vNil_ptr, vEqBool_b, vMin2, vMax2, cellsOf_agg, cellsOf_int, cellsOf_bool, eval_tmp, eval_const, putDst_some, putDst_none, List.set_cons_zero, List.set_cons_succ, List.getD_cons_zero, List.getD_cons_succ, List.map_cons, List.map_nil, ↓reduceIte, reduceCtorEq, Bool.not_true, Bool.not_false, decide_eq_true_eq, decide_eq_false_iff_not, decide_true, decide_false, Nat.zero_add, Nat.add_zero, oneCell, List.all_cons, List.all_nil, Bool.and_true, Bool.true_and, Bool.and_self, List.length_cons, List.length_nil, setAt, readN, List.drop_zero, List.drop_succ_cons, List.take_succ_cons, List.take_zero, Bool.and_eq_true, Bool.or_eq_true, Bool.not_eq_true', not_true_eq_false, not_false_eq_true, and_true, true_and, and_false, false_and, bne_iff_ne, ne_eq, Nat.reduceAdd, Nat.reduceLeDiff, List.getElem?_cons_zero, List.getElem?_cons_succ, Bool.not_eq_false', Bool.not_eq_true, Nat.reduceMul, Int.toNat_zero, Option.isSome_some, List.toList_toArray, List.size_toArray, Nat.mul_mod_right, Nat.lt_irrefl, canPut_alloc, canPut_setB, expand_succ, expand_zero, D_nil, D_guard, DGK_bool, DGK_undef, DO_some, DB_ret, DF_ret, D_move, D_build, D_bin, D_un, D_pick, D_nilCheck, D_eqAgg, D_eqBool, D_eqPtr, D_conv, D_fieldAddr, D_field1, D_fieldN, D_indexAddr, D_indexAddrArr, D_extract, D_lenSlice, D_minmax, D_load1B, D_load1F, D_loadNB, D_loadNF, D_callB, D_callF, seen0_next, seen0_nil_get, vEqPtr_some, vBuild_def, layAt, Nat.reduceLT, List.set_nil, Bool.false_bne, Bool.bne_false, Option.isNone_some, Option.isNone_none, beq_self_eq_true, Bool.not_eq_eq_eq_not, Nat.reduceEqDiff, false_implies, List.append_nil, Bool.and_false, Bool.false_and, Bool.or_false, Bool.or_true, Bool.true_or, Bool.false_or, Bool.false_eq_true, setParams, Y_lookup, D_lookupB, D_lookupF, Y_mapUpdate, DHB_some, D_storeB, Int.reduceLT, Int.reduceLE, Int.reduceGT, Int.reduceGE, Int.reduceEq, Int.reduceNe, Int.lt_irrefl, Int.le_refl]
    exact leaf1 ⟨fun _ => ⟨rfl, rfl⟩, fun h => absurd h0 h, fun h => absurd h0 h, fun h => absurd h0 h⟩
  have h0' : ¬ ((x : Int) = 0) := by omega
  simp (disch := first | assumption | omega | (simp only [alloc_fine, setB_fine, alloc_next, alloc_floor, setB_next, setB_floor, get_alloc_new, get_setB_same, Option.isSome_some, Nat.mul_mod_right, oneCell, List.all_cons, List.all_nil, Bool.and_self, *]; done) | (simp only [alloc_next, alloc_floor, setB_next, setB_floor, List.length_cons, List.length_nil, ne_eq]; omega)) only [ir9, List.append_nil, List.nil_append, List.cons_append, List.length_cons, List.length_nil, Nat.reduceAdd, Nat.reduceSub, List.replicate_succ, List.replicate_zero, h0', exec_X, kont_nil, kont_code, kont_code_exit, kont_code_ret, kont_blk, kont_blk_ret, kont_blk_exit, kont_blk_other, X_skip, X_ret, X_exit, X_region, X_seq, X_block, X_loop, X_cond, CK_bool, GK_bool, GK_tt, GK_tf, GK_ft, GK_ff, GK_undef, Y_nil, Y_guard, Z_ret, ZO_some, ZH_some, ZP_some, Y_move, Y_box, Y_bin, Y_un, Y_call, Y_func, Y_pick, Y_build, Y_load1, Y_loadN, Y_store, Y_nilCheck, Y_eqAgg, Y_eqBool, Y_eqPtr, Y_conv, Y_fieldAddr, Y_field1, Y_fieldN, Y_indexAddr, Y_indexAddrArr, Y_extract, Y_lenSlice, Y_minmax, Y_append, Y_makeMap, Y_buildSlice, alloc_next, alloc_floor, alloc_may, alloc_hid, alloc_ro, setB_next, setB_floor, setB_may, setB_hid, setB_ro, get_alloc_new, get_alloc_old, get_setB_same, get_setB_other, alloc_fine, setB_fine, read_eq, readC_cells, write_eq, writeC_cells, canPut_new, canPut_even, ibin_add, ibin_sub, ibin_mul, ibin_quo, ibin_rem, ibin_shl, ibin_shr, ibin_or, ibin_and, ibin_eql, ibin_neq, ibin_lss, ibin_leq, ibin_gtr, ibin_geq, iun_not, iun_neg, vPick_tt, vPick_ff, vPick_b, vLoad1_ptr, vLoadN_ptr, vStore_ptr, vFieldAddr_ptr, vIndexAddr_slice, vIndexAddrArr_ptr, vConv_int, vLenSlice_slice, vField1_agg, vExtract_tuple, vNil_ptr, vEqBool_b, vMin2, vMax2, cellsOf_agg, cellsOf_int, cellsOf_bool, eval_tmp, eval_const, putDst_some, putDst_none, List.set_cons_zero, List.set_cons_succ, List.getD_cons_zero, List.getD_cons_succ, List.map_cons, List.map_nil, ↓reduceIte, reduceCtorEq, Bool.not_true, Bool.not_false, decide_eq_true_eq, decide_eq_false_iff_not, decide_true, decide_false, Nat.zero_add, Nat.add_zero, oneCell, List.all_cons, List.all_nil, Bool.and_true, Bool.true_and, Bool.and_self, List.length_cons, List.length_nil, setAt, readN, List.drop_zero, List.drop_succ_cons, List.take_succ_cons, List.take_zero, Bool.and_eq_true, Bool.or_eq_true, Bool.not_eq_true', not_true_eq_false, not_false_eq_true, and_true, true_and, and_false, false_and, bne_iff_ne, ne_eq, Nat.reduceAdd, Nat.reduceLeDiff, List.getElem?_cons_zero, List.getElem?_cons_succ, Bool.not_eq_false', Bool.not_eq_true, Nat.reduceMul, Int.toNat_zero, Option.isSome_some, List.toList_toArray, List.size_toArray, Nat.mul_mod_right, Nat.lt_irrefl, canPut_alloc, canPut_setB, expand_succ, expand_zero, D_nil, D_guard, DGK_bool, DGK_undef, DO_some, DB_ret, DF_ret, D_move, D_build, D_bin, D_un, D_pick, D_nilCheck, D_eqAgg, D_eqBool, D_eqPtr, D_conv, D_fieldAddr, D_field1, D_fieldN, D_indexAddr, D_indexAddrArr, D_extract, D_lenSlice, D_minmax, D_load1B, D_load1F, D_loadNB, D_loadNF, D_callB, D_callF, seen0_next, seen0_nil_get, vEqPtr_some, vBuild_def, layAt, Nat.reduceLT, List.set_nil, Bool.false_bne, Bool.bne_false, Option.isNone_some, Option.isNone_none, beq_self_eq_true, Bool.not_eq_eq_eq_not, Nat.reduceEqDiff, false_implies, List.append_nil, Bool.and_false, Bool.false_and, Bool.or_false, Bool.or_true, Bool.true_or, Bool.false_or, Bool.false_eq_true, setParams, Y_lookup, D_lookupB, D_lookupF, Y_mapUpdate, DHB_some, D_storeB, Int.reduceLT, Int.reduceLE, Int.reduceGT, Int.reduceGE, Int.reduceEq, Int.reduceNe, Int.lt_irrefl, Int.le_refl]
  refine Z_is (has_ok hw hx hg) ?_
  rintro v h1 ⟨rfl, rfl⟩
  by_cases hm : Met last s x
  · rw [decide_eq_true hm]
    simp (disch := first | assumption | omega | (simp only [alloc_fine, setB_fine, alloc_next, alloc_floor, setB_next, setB_floor, get_alloc_new, get_setB_same, Option.isSome_some, Nat.mul_mod_right, oneCell, List.all_cons, List.all_nil, Bool.and_self, *]; done) | (simp only [alloc_next, alloc_floor, setB_next, setB_floor, List.length_cons, List.length_nil, ne_eq]; omega)) only [exec_X, kont_nil, kont_code, kont_code_exit, kont_code_ret, kont_blk, kont_blk_ret, kont_blk_exit, kont_blk_other, X_skip, X_ret, X_exit, X_region, X_seq, X_block, X_loop, X_cond, CK_bool, GK_bool, GK_tt, GK_tf, GK_ft, GK_ff, GK_undef, Y_nil, Y_guard, Z_ret, ZO_some, ZH_some, ZP_some, Y_move, Y_box, Y_bin, Y_un, Y_call, Y_func, Y_pick, Y_build, Y_load1, Y_loadN, Y_store, Y_nilCheck, Y_eqAgg, Y_eqBool, Y_eqPtr, Y_conv, Y_fieldAddr, Y_field1, Y_fieldN, Y_indexAddr, Y_indexAddrArr, Y_extract, Y_lenSlice, Y_minmax, Y_append, Y_makeMap, Y_buildSlice, alloc_next, alloc_floor, alloc_may, alloc_hid, alloc_ro, setB_next, setB_floor, setB_may, setB_hid, setB_ro, get_alloc_new, get_alloc_old, get_setB_same, get_setB_other, alloc_fine, setB_fine, read_eq, readC_cells, write_eq, writeC_cells, canPut_new, canPut_even, ibin_add, ibin_sub, ibin_mul, ibin_quo, ibin_rem, ibin_shl, ibin_shr, ibin_or, ibin_and, ibin_eql, ibin_neq, ibin_lss, ibin_leq, ibin_gtr, ibin_geq, iun_not, iun_neg, vPick_tt, vPick_ff, vPick_b, vLoad1_ptr, vLoadN_ptr, vStore_ptr, vFieldAddr_ptr, vIndexAddr_slice, vIndexAddrArr_ptr, vConv_int, vLenSlice_slice, vField1_agg, vExtract_tuple, vNil_ptr, vEqBool_b, vMin2, vMax2, cellsOf_agg, cellsOf_int, cellsOf_bool, eval_tmp, eval_const, putDst_some, putDst_none, List.set_cons_zero, List.set_cons_succ, List.getD_cons_zero, List.getD_cons_succ, List.map_cons, List.map_nil, ↓reduceIte, reduceCtorEq, Bool.not_true, Bool.not_false, decide_eq_true_eq, decide_eq_false_iff_not, decide_true, decide_false, Nat.zero_add, Nat.add_zero, oneCell, List.all_cons, List.all_nil, Bool.and_true, Bool.true_and, Bool.and_self, List.length_cons, List.length_nil, setAt, readN, List.drop_zero, List.drop_succ_cons, List.take_succ_cons, List.take_zero, Bool.and_eq_true, Bool.or_eq_true, Bool.not_eq_true', not_true_eq_false, not_false_eq_true, and_true, true_and, and_false, false_and, bne_iff_ne, ne_eq, Nat.reduceAdd, Nat.reduceLeDiff, List.getElem?_cons_zero, List.getElem?_cons_succ, Bool.not_eq_false', Bool.not_eq_true, Nat.reduceMul, Int.toNat_zero, Option.isSome_some, List.toList_toArray, List.size_toArray, Nat.mul_mod_right, Nat.lt_irrefl, canPut_alloc, canPut_setB, expand_succ, expand_zero, D_nil, D_guard, DGK_bool, DGK_undef, DO_some, DB_ret, DF_ret, D_move, D_build, D_bin, D_un, D_pick, D_nilCheck, D_eqAgg, D_eqBool, D_eqPtr, D_conv, D_fieldAddr, D_field1, D_fieldN, D_indexAddr, D_indexAddrArr, D_extract, D_lenSlice, D_minmax, D_load1B, D_load1F, D_loadNB, D_loadNF, D_callB, D_callF, seen0_next, seen0_nil_get, vEqPtr_some, vBuild_def, layAt, Nat.reduceLT, List.set_nil, Bool.false_bne, Bool.bne_false, Option.isNone_some, Option.isNone_none, beq_self_eq_true, Bool.not_eq_eq_eq_not, Nat.reduceEqDiff, false_implies, List.append_nil, Bool.and_false, Bool.false_and, Bool.or_false, Bool.or_true, Bool.true_or, Bool.false_or, Bool.false_eq_true, setParams, Y_lookup, D_lookupB, D_lookupF, Y_mapUpdate, DHB_some, D_storeB, Int.reduceLT, Int.reduceLE, Int.reduceGT, Int.reduceGE, Int.reduceEq, Int.reduceNe, Int.lt_irrefl, Int.le_refl]
    exact leaf1 ⟨fun h => absurd h h0, fun _ _ => ⟨rfl, rfl⟩, fun _ h => absurd hm h, fun _ h => absurd hm h⟩
  rw [decide_eq_false hm]
  dsimp only at hg hfl ht ⊢
  have hg' := hg
  unfold winO at hg
  have hlx : last < x := by unfold Met at hm; omega
  have e1 : IntKind.u32.wrap ((x : Int) - (last : Int)) = ((x - last : Nat) : Int) := by rw [wrap_u32_mod]; omega
  by_cases hf : 64 < x - last
  · have hf' : (64 : Int) < ((x - last : Nat) : Int) := by omega
    simp (disch := first | assumption | omega | (simp only [alloc_fine, setB_fine, alloc_next, alloc_floor, setB_next, setB_floor, get_alloc_new, get_setB_same, Option.isSome_some, Nat.mul_mod_right, oneCell, List.all_cons, List.all_nil, Bool.and_self, *]; done) | (simp only [alloc_next, alloc_floor, setB_next, setB_floor, List.length_cons, List.length_nil, ne_eq]; omega)) only [hg, e1, hf', exec_X, kont_nil, kont_code, kont_code_exit, kont_code_ret, kont_blk, kont_blk_ret, kont_blk_exit, kont_blk_other, X_skip, X_ret, X_exit, X_region, X_seq, X_block, X_loop, X_cond, CK_bool, GK_bool, GK_tt, GK_tf, GK_ft, GK_ff, GK_undef, Y_nil, Y_guard, Z_ret, ZO_some, ZH_some, ZP_some, Y_move, Y_box, Y_bin, Y_un, Y_call, Y_func, Y_pick, Y_build, Y_load1, Y_loadN, Y_store, Y_nilCheck, Y_eqAgg, Y_eqBool, Y_eqPtr, Y_conv, Y_fieldAddr, Y_field1, Y_fieldN, Y_indexAddr, Y_indexAddrArr, Y_extract, Y_lenSlice, Y_minmax, Y_append, Y_makeMap, Y_buildSlice, alloc_next, alloc_floor, alloc_may, alloc_hid, alloc_ro, setB_next, setB_floor, setB_may, setB_hid, setB_ro, get_alloc_new, get_alloc_old, get_setB_same, get_setB_other, alloc_fine, setB_fine, read_eq, readC_cells, write_eq, writeC_cells, canPut_new, canPut_even, ibin_add, ibin_sub, ibin_mul, ibin_quo, ibin_rem, ibin_shl, ibin_shr, ibin_or, ibin_and, ibin_eql, ibin_neq, ibin_lss, ibin_leq, ibin_gtr, ibin_geq, iun_not, iun_neg, vPick_tt, vPick_ff, vPick_b, vLoad1_ptr, vLoadN_ptr, vStore_ptr, vFieldAddr_ptr, vIndexAddr_slice, vIndexAddrArr_ptr, vConv_int, vLenSlice_slice, vField1_agg, vExtract_tuple, vNil_ptr, vEqBool_b, vMin2, vMax2, cellsOf_agg, cellsOf_int, cellsOf_bool, eval_tmp, eval_const, putDst_some, putDst_none, List.set_cons_zero, List.set_cons_succ, List.getD_cons_zero, List.getD_cons_succ, List.map_cons, List.map_nil, ↓reduceIte, reduceCtorEq, Bool.not_true, Bool.not_false, decide_eq_true_eq, decide_eq_false_iff_not, decide_true, decide_false, Nat.zero_add, Nat.add_zero, oneCell, List.all_cons, List.all_nil, Bool.and_true, Bool.true_and, Bool.and_self, List.length_cons, List.length_nil, setAt, readN, List.drop_zero, List.drop_succ_cons, List.take_succ_cons, List.take_zero, Bool.and_eq_true, Bool.or_eq_true, Bool.not_eq_true', not_true_eq_false, not_false_eq_true, and_true, true_and, and_false, false_and, bne_iff_ne, ne_eq, Nat.reduceAdd, Nat.reduceLeDiff, List.getElem?_cons_zero, List.getElem?_cons_succ, Bool.not_eq_false', Bool.not_eq_true, Nat.reduceMul, Int.toNat_zero, Option.isSome_some, List.toList_toArray, List.size_toArray, Nat.mul_mod_right, Nat.lt_irrefl, canPut_alloc, canPut_setB, expand_succ, expand_zero, D_nil, D_guard, DGK_bool, DGK_undef, DO_some, DB_ret, DF_ret, D_move, D_build, D_bin, D_un, D_pick, D_nilCheck, D_eqAgg, D_eqBool, D_eqPtr, D_conv, D_fieldAddr, D_field1, D_fieldN, D_indexAddr, D_indexAddrArr, D_extract, D_lenSlice, D_minmax, D_load1B, D_load1F, D_loadNB, D_loadNF, D_callB, D_callF, seen0_next, seen0_nil_get, vEqPtr_some, vBuild_def, layAt, Nat.reduceLT, List.set_nil, Bool.false_bne, Bool.bne_false, Option.isNone_some, Option.isNone_none, beq_self_eq_true, Bool.not_eq_eq_eq_not, Nat.reduceEqDiff, false_implies, List.append_nil, Bool.and_false, Bool.false_and, Bool.or_false, Bool.or_true, Bool.true_or, Bool.false_or, Bool.false_eq_true, setParams, Y_lookup, D_lookupB, D_lookupF, Y_mapUpdate, DHB_some, D_storeB, Int.reduceLT, Int.reduceLE, Int.reduceGT, Int.reduceGE, Int.reduceEq, Int.reduceNe, Int.lt_irrefl, Int.le_refl]
    exact leaf1 ⟨fun h => absurd h h0, fun _ h => absurd h hm, fun _ _ _ => ⟨rfl, rfl⟩, fun _ _ h => absurd h (by omega)⟩
  have hf' : ¬ (64 : Int) < ((x - last : Nat) : Int) := by omega
  simp (disch := first | assumption | omega | (simp only [alloc_fine, setB_fine, alloc_next, alloc_floor, setB_next, setB_floor, get_alloc_new, get_setB_same, Option.isSome_some, Nat.mul_mod_right, oneCell, List.all_cons, List.all_nil, Bool.and_self, *]; done) | (simp only [alloc_next, alloc_floor, setB_next, setB_floor, List.length_cons, List.length_nil, ne_eq]; omega)) only [hg, e1, hf', exec_X, kont_nil, kont_code, kont_code_exit, kont_code_ret, kont_blk, kont_blk_ret, kont_blk_exit, kont_blk_other, X_skip, X_ret, X_exit, X_region, X_seq, X_block, X_loop, X_cond, CK_bool, GK_bool, GK_tt, GK_tf, GK_ft, GK_ff, GK_undef, Y_nil, Y_guard, Z_ret, ZO_some, ZH_some, ZP_some, Y_move, Y_box, Y_bin, Y_un, Y_call, Y_func, Y_pick, Y_build, Y_load1, Y_loadN, Y_store, Y_nilCheck, Y_eqAgg, Y_eqBool, Y_eqPtr, Y_conv, Y_fieldAddr, Y_field1, Y_fieldN, Y_indexAddr, Y_indexAddrArr, Y_extract, Y_lenSlice, Y_minmax, Y_append, Y_makeMap, Y_buildSlice, alloc_next, alloc_floor, alloc_may, alloc_hid, alloc_ro, setB_next, setB_floor, setB_may, setB_hid, setB_ro, get_alloc_new, get_alloc_old, get_setB_same, get_setB_other, alloc_fine, setB_fine, read_eq, readC_cells, write_eq, writeC_cells, canPut_new, canPut_even, ibin_add, ibin_sub, ibin_mul, ibin_quo, ibin_rem, ibin_shl, ibin_shr, ibin_or, ibin_and, ibin_eql, ibin_neq, ibin_lss, ibin_leq, ibin_gtr, ibin_geq, iun_not, iun_neg, vPick_tt, vPick_ff, vPick_b, vLoad1_ptr, vLoadN_ptr, vStore_ptr, vFieldAddr_ptr, vIndexAddr_slice, vIndexAddrArr_ptr, vConv_int, vLenSlice_slice, vField1_agg, vExtract_tuple, vNil_ptr, vEqBool_b, vMin2, vMax2, cellsOf_agg, cellsOf_int, cellsOf_bool, eval_tmp, eval_const, putDst_some, putDst_none, List.set_cons_zero, List.set_cons_succ, List.getD_cons_zero, List.getD_cons_succ, List.map_cons, List.map_nil, ↓reduceIte, reduceCtorEq, Bool.not_true, Bool.not_false, decide_eq_true_eq, decide_eq_false_iff_not, decide_true, decide_false, Nat.zero_add, Nat.add_zero, oneCell, List.all_cons, List.all_nil, Bool.and_true, Bool.true_and, Bool.and_self, List.length_cons, List.length_nil, setAt, readN, List.drop_zero, List.drop_succ_cons, List.take_succ_cons, List.take_zero, Bool.and_eq_true, Bool.or_eq_true, Bool.not_eq_true', not_true_eq_false, not_false_eq_true, and_true, true_and, and_false, false_and, bne_iff_ne, ne_eq, Nat.reduceAdd, Nat.reduceLeDiff, List.getElem?_cons_zero, List.getElem?_cons_succ, Bool.not_eq_false', Bool.not_eq_true, Nat.reduceMul, Int.toNat_zero, Option.isSome_some, List.toList_toArray, List.size_toArray, Nat.mul_mod_right, Nat.lt_irrefl, canPut_alloc, canPut_setB, expand_succ, expand_zero, D_nil, D_guard, DGK_bool, DGK_undef, DO_some, DB_ret, DF_ret, D_move, D_build, D_bin, D_un, D_pick, D_nilCheck, D_eqAgg, D_eqBool, D_eqPtr, D_conv, D_fieldAddr, D_field1, D_fieldN, D_indexAddr, D_indexAddrArr, D_extract, D_lenSlice, D_minmax, D_load1B, D_load1F, D_loadNB, D_loadNF, D_callB, D_callF, seen0_next, seen0_nil_get, vEqPtr_some, vBuild_def, layAt, Nat.reduceLT, List.set_nil, Bool.false_bne, Bool.bne_false, Option.isNone_some, Option.isNone_none, beq_self_eq_true, Bool.not_eq_eq_eq_not, Nat.reduceEqDiff, false_implies, List.append_nil, Bool.and_false, Bool.false_and, Bool.or_false, Bool.or_true, Bool.true_or, Bool.false_or, Bool.false_eq_true, setParams, Y_lookup, D_lookupB, D_lookupF, Y_mapUpdate, DHB_some, D_storeB, Int.reduceLT, Int.reduceLE, Int.reduceGT, Int.reduceGE, Int.reduceEq, Int.reduceNe, Int.lt_irrefl, Int.le_refl]
  refine X_drawn _ fun an => ?_
  have e2 : IntKind.u32.wrap (((x - last : Nat) : Int) - 1) = ((x - last - 1 : Nat) : Int) := by rw [wrap_u32_mod]; omega
  have e3 : (0 : Int) ≤ ((x - last - 1 : Nat) : Int) := by omega
  have hpw : 2 ^ (x - last - 1) < 2 ^ 64 := Nat.pow_lt_pow_right (by omega) (by omega)
  have e4 : IntKind.u64.wrap (1 * 2 ^ min ((x - last - 1 : Nat) : Int).toNat IntKind.u64.bits) = ((2 ^ (x - last - 1) : Nat) : Int) := by
    have e : min ((x - last - 1 : Nat) : Int).toNat IntKind.u64.bits = x - last - 1 := by
      show min ((x - last - 1 : Nat) : Int).toNat 64 = x - last - 1
      omega
    rw [e, Int.one_mul]
    have e' : (2 : Int) ^ (x - last - 1) = ((2 ^ (x - last - 1) : Nat) : Int) := by simp
    rw [e']
    exact wrap_nat hpw
  have e5 := or_u64 s (2 ^ (x - last - 1)) hw.sz hpw
  have hs1 : (s ||| 2 ^ (x - last - 1)) < 2 ^ 64 := Nat.or_lt_two_pow hw.sz hpw
  have e6 := not_u64 _ hs1
  simp (disch := first | assumption | omega | (simp only [alloc_fine, setB_fine, alloc_next, alloc_floor, setB_next, setB_floor, get_alloc_new, get_setB_same, Option.isSome_some, Nat.mul_mod_right, oneCell, List.all_cons, List.all_nil, Bool.and_self, *]; done) | (simp only [alloc_next, alloc_floor, setB_next, setB_floor, List.length_cons, List.length_nil, ne_eq]; omega)) only [hg, e1, e2, e3, e4, e5, iun_xor, e6, exec_X, kont_nil, kont_code, kont_code_exit, kont_code_ret, kont_blk, kont_blk_ret, kont_blk_exit, kont_blk_other, X_skip, X_ret, X_exit, X_region, X_seq, X_block, X_loop, X_cond, CK_bool, GK_bool, GK_tt, GK_tf, GK_ft, GK_ff, GK_undef, Y_nil, Y_guard, Z_ret, ZO_some, ZH_some, ZP_some, Y_move, Y_box, Y_bin, Y_un, Y_call, Y_func, Y_pick, Y_build, Y_load1, Y_loadN, Y_store, Y_nilCheck, Y_eqAgg, Y_eqBool, Y_eqPtr, Y_conv, Y_fieldAddr, Y_field1, Y_fieldN, Y_indexAddr, Y_indexAddrArr, Y_extract, Y_lenSlice, Y_minmax, Y_append, Y_makeMap, Y_buildSlice, alloc_next, alloc_floor, alloc_may, alloc_hid, alloc_ro, setB_next, setB_floor, setB_may, setB_hid, setB_ro, get_alloc_new, get_alloc_old, get_setB_same, get_setB_other, alloc_fine, setB_fine, read_eq, readC_cells, write_eq, writeC_cells, canPut_new, canPut_even, ibin_add, ibin_sub, ibin_mul, ibin_quo, ibin_rem, ibin_shl, ibin_shr, ibin_or, ibin_and, ibin_eql, ibin_neq, ibin_lss, ibin_leq, ibin_gtr, ibin_geq, iun_not, iun_neg, vPick_tt, vPick_ff, vPick_b, vLoad1_ptr, vLoadN_ptr, vStore_ptr, vFieldAddr_ptr, vIndexAddr_slice, vIndexAddrArr_ptr, vConv_int, vLenSlice_slice, vField1_agg, vExtract_tuple, vNil_ptr, vEqBool_b, vMin2, vMax2, cellsOf_agg, cellsOf_int, cellsOf_bool, eval_tmp, eval_const, putDst_some, putDst_none, List.set_cons_zero, List.set_cons_succ, List.getD_cons_zero, List.getD_cons_succ, List.map_cons, List.map_nil, ↓reduceIte, reduceCtorEq, Bool.not_true, Bool.not_false, decide_eq_true_eq, decide_eq_false_iff_not, decide_true, decide_false, Nat.zero_add, Nat.add_zero, oneCell, List.all_cons, List.all_nil, Bool.and_true, Bool.true_and, Bool.and_self, List.length_cons, List.length_nil, setAt, readN, List.drop_zero, List.drop_succ_cons, List.take_succ_cons, List.take_zero, Bool.and_eq_true, Bool.or_eq_true, Bool.not_eq_true', not_true_eq_false, not_false_eq_true, and_true, true_and, and_false, false_and, bne_iff_ne, ne_eq, Nat.reduceAdd, Nat.reduceLeDiff, List.getElem?_cons_zero, List.getElem?_cons_succ, Bool.not_eq_false', Bool.not_eq_true, Nat.reduceMul, Int.toNat_zero, Option.isSome_some, List.toList_toArray, List.size_toArray, Nat.mul_mod_right, Nat.lt_irrefl, canPut_alloc, canPut_setB, expand_succ, expand_zero, D_nil, D_guard, DGK_bool, DGK_undef, DO_some, DB_ret, DF_ret, D_move, D_build, D_bin, D_un, D_pick, D_nilCheck, D_eqAgg, D_eqBool, D_eqPtr, D_conv, D_fieldAddr, D_field1, D_fieldN, D_indexAddr, D_indexAddrArr, D_extract, D_lenSlice, D_minmax, D_load1B, D_load1F, D_loadNB, D_loadNF, D_callB, D_callF, seen0_next, seen0_nil_get, vEqPtr_some, vBuild_def, layAt, Nat.reduceLT, List.set_nil, Bool.false_bne, Bool.bne_false, Option.isNone_some, Option.isNone_none, beq_self_eq_true, Bool.not_eq_eq_eq_not, Nat.reduceEqDiff, false_implies, List.append_nil, Bool.and_false, Bool.false_and, Bool.or_false, Bool.or_true, Bool.true_or, Bool.false_or, Bool.false_eq_true, setParams, Y_lookup, D_lookupB, D_lookupF, Y_mapUpdate, DHB_some, D_storeB, Int.reduceLT, Int.reduceLE, Int.reduceGT, Int.reduceGE, Int.reduceEq, Int.reduceNe, Int.lt_irrefl, Int.le_refl]
  have hg1 : (h1.setB wb (.cells [.int .u32 (last : Int), .int .u64 ((s ||| 2 ^ (x - last - 1) : Nat) : Int)] 1 false)).get wb = some (.cells [.int .u32 (last : Int), .int .u64 ((s ||| 2 ^ (x - last - 1) : Nat) : Int)] 1 false) := get_setB_same hwb (by rw [hg]; rfl)
  have u1 : Upd h1 (h1.setB wb (.cells [.int .u32 (last : Int), .int .u64 ((s ||| 2 ^ (x - last - 1) : Nat) : Int)] 1 false)) wb _ := .setB hwb hg
  have ht1 := (u1.other 1 (by omega)).trans ht
  have fl1 : (h1.setB wb (.cells [.int .u32 (last : Int), .int .u64 ((s ||| 2 ^ (x - last - 1) : Nat) : Int)] 1 false)).floor ≤ wb / 2 := hfl
  generalize hq : (h1.setB wb (.cells [.int .u32 (last : Int), .int .u64 ((s ||| 2 ^ (x - last - 1) : Nat) : Int)] 1 false)) = h2 at hg1 u1 ht1 fl1 ⊢
  refine Z_is (tz_ok (n := n) (x := 2 ^ 64 - 1 - (s ||| 2 ^ (x - last - 1))) (by omega) ht1) ?_
  rintro v h3 ⟨⟨k, hk, rfl, hk1, hk2⟩, rfl⟩
  dsimp only at hg1 u1 ht1 fl1 ⊢
  have hcomp : ∀ j, j < 64 → (2 ^ 64 - 1 - (s ||| 2 ^ (x - last - 1))).testBit j = !(s ||| 2 ^ (x - last - 1)).testBit j := fun j hj => by
    have e : 2 ^ 64 - 1 - (s ||| 2 ^ (x - last - 1)) = 2 ^ 64 - ((s ||| 2 ^ (x - last - 1)) + 1) := by omega
    rw [e, Nat.testBit_two_pow_sub_succ hs1]
    simp [hj]
  have k1 : ∀ j, j < k → (s ||| 2 ^ (x - last - 1)).testBit j = true := fun j hj => by
    have := hk1 j hj
    rw [hcomp j (by omega)] at this
    revert this
    cases (s ||| 2 ^ (x - last - 1)).testBit j <;> intro h <;> first | rfl | cases h
  have k2 : k < 64 → (s ||| 2 ^ (x - last - 1)).testBit k = false := fun hj => by
    have := hk2 hj
    rw [hcomp k hj] at this
    revert this
    cases (s ||| 2 ^ (x - last - 1)).testBit k <;> intro h <;> first | rfl | cases h
  obtain ⟨m1, m2⟩ := meet_math hw hx hm (by omega) (by omega) hk k1 k2
  have m3 : ((s ||| 2 ^ (x - last - 1)) / 2 ^ k).testBit 0 = false := by
    rw [Nat.testBit_div_two_pow, Nat.zero_add]
    rcases Nat.lt_or_ge k 64 with h | h
    · exact k2 h
    · exact Nat.testBit_lt_two_pow (Nat.lt_of_lt_of_le hs1 (Nat.pow_le_pow_right (by omega) h))
  have e7 : (0 : Int) ≤ (k : Int) := by omega
  have e8 := shr_u64 (s ||| 2 ^ (x - last - 1)) k hk
  have e9 : IntKind.u32.wrap (k : Int) = (k : Int) := by rw [wrap_u32_mod]; omega
  have e10 : IntKind.u32.wrap ((last : Int) + (k : Int)) = ((last + k : Nat) : Int) := by
    have := m1.l
    rw [wrap_u32_mod]; omega
  simp (disch := first | assumption | omega | (simp only [alloc_fine, setB_fine, alloc_next, alloc_floor, setB_next, setB_floor, get_alloc_new, get_setB_same, Option.isSome_some, Nat.mul_mod_right, oneCell, List.all_cons, List.all_nil, Bool.and_self, *]; done) | (simp only [alloc_next, alloc_floor, setB_next, setB_floor, List.length_cons, List.length_nil, ne_eq]; omega)) only [hg1, e7, e8, e9, e10, exec_X, kont_nil, kont_code, kont_code_exit, kont_code_ret, kont_blk, kont_blk_ret, kont_blk_exit, kont_blk_other, X_skip, X_ret, X_exit, X_region, X_seq, X_block, X_loop, X_cond, CK_bool, GK_bool, GK_tt, GK_tf, GK_ft, GK_ff, GK_undef, Y_nil, Y_guard, Z_ret, ZO_some, ZH_some, ZP_some, Y_move, Y_box, Y_bin, Y_un, Y_call, Y_func, Y_pick, Y_build, Y_load1, Y_loadN, Y_store, Y_nilCheck, Y_eqAgg, Y_eqBool, Y_eqPtr, Y_conv, Y_fieldAddr, Y_field1, Y_fieldN, Y_indexAddr, Y_indexAddrArr, Y_extract, Y_lenSlice, Y_minmax, Y_append, Y_makeMap, Y_buildSlice, alloc_next, alloc_floor, alloc_may, alloc_hid, alloc_ro, setB_next, setB_floor, setB_may, setB_hid, setB_ro, get_alloc_new, get_alloc_old, get_setB_same, get_setB_other, alloc_fine, setB_fine, read_eq, readC_cells, write_eq, writeC_cells, canPut_new, canPut_even, ibin_add, ibin_sub, ibin_mul, ibin_quo, ibin_rem, ibin_shl, ibin_shr, ibin_or, ibin_and, ibin_eql, ibin_neq, ibin_lss, ibin_leq, ibin_gtr, ibin_geq, iun_not, iun_neg, vPick_tt, vPick_ff, vPick_b, vLoad1_ptr, vLoadN_ptr, vStore_ptr, vFieldAddr_ptr, vIndexAddr_slice, vIndexAddrArr_ptr, vConv_int, vLenSlice_slice, vField1_agg, vExtract_tuple, vNil_ptr, vEqBool_b, vMin2, vMax2, cellsOf_agg, cellsOf_int, cellsOf_bool, eval_tmp, eval_const, putDst_some, putDst_none, List.set_cons_zero, List.set_cons_succ, List.getD_cons_zero, List.getD_cons_succ, List.map_cons, List.map_nil, ↓reduceIte, reduceCtorEq, Bool.not_true, Bool.not_false, decide_eq_true_eq, decide_eq_false_iff_not, decide_true, decide_false, Nat.zero_add, Nat.add_zero, oneCell, List.all_cons, List.all_nil, Bool.and_true, Bool.true_and, Bool.and_self, List.length_cons, List.length_nil, setAt, readN, List.drop_zero, List.drop_succ_cons, List.take_succ_cons, List.take_zero, Bool.and_eq_true, Bool.or_eq_true, Bool.not_eq_true', not_true_eq_false, not_false_eq_true, and_true, true_and, and_false, false_and, bne_iff_ne, ne_eq, Nat.reduceAdd, Nat.reduceLeDiff, List.getElem?_cons_zero, List.getElem?_cons_succ, Bool.not_eq_false', Bool.not_eq_true, Nat.reduceMul, Int.toNat_zero, Option.isSome_some, List.toList_toArray, List.size_toArray, Nat.mul_mod_right, Nat.lt_irrefl, canPut_alloc, canPut_setB, expand_succ, expand_zero, D_nil, D_guard, DGK_bool, DGK_undef, DO_some, DB_ret, DF_ret, D_move, D_build, D_bin, D_un, D_pick, D_nilCheck, D_eqAgg, D_eqBool, D_eqPtr, D_conv, D_fieldAddr, D_field1, D_fieldN, D_indexAddr, D_indexAddrArr, D_extract, D_lenSlice, D_minmax, D_load1B, D_load1F, D_loadNB, D_loadNF, D_callB, D_callF, seen0_next, seen0_nil_get, vEqPtr_some, vBuild_def, layAt, Nat.reduceLT, List.set_nil, Bool.false_bne, Bool.bne_false, Option.isNone_some, Option.isNone_none, beq_self_eq_true, Bool.not_eq_eq_eq_not, Nat.reduceEqDiff, false_implies, List.append_nil, Bool.and_false, Bool.false_and, Bool.or_false, Bool.or_true, Bool.true_or, Bool.false_or, Bool.false_eq_true, setParams, Y_lookup, D_lookupB, D_lookupF, Y_mapUpdate, DHB_some, D_storeB, Int.reduceLT, Int.reduceLE, Int.reduceGT, Int.reduceGE, Int.reduceEq, Int.reduceNe, Int.lt_irrefl, Int.le_refl]
  refine leaf1 ⟨fun h => absurd h h0, fun _ h => absurd h hm, fun _ _ h => absurd h (by omega), fun _ _ _ => ⟨rfl, last + k, _, m1, by omega, m2, m3, ?_⟩⟩
  refine ⟨?_, fun b hb => ?_, u1.next, u1.floor, u1.may, u1.hid, u1.ro⟩
  · rw [get_setB_same hwb]
    · rfl
    · rw [get_setB_same hwb (by rw [hg1]; rfl)]; rfl
  · exact (get_setB_other hwb hb).trans ((get_setB_other hwb hb).trans (u1.other b hb))
end Go.Proofs.YtjfhgjchocdhmaaDoor
