/-
  Sorting: what the functions of the package slices leave, as its plain form says.
-/
import Derived.Test.YtafaefeekilclaaFk
import Derived.Test.YtafaefeekilclaaHeap
import Derived.Sort.AssemblyPlain
import Derived.Sort.LotD5
import Derived.Test.YtafaefeekilclaaPqa
namespace Go.Proofs.Ytafaefeekilclaa
open Go Go.Ideal
set_option maxHeartbeats 0
set_option linter.unusedSimpArgs false
set_option linter.unusedVariables false
set_option maxRecDepth 100000
attribute [local irreducible] callV T.All T.Is run
theorem env32 : env 32 = some ir32 := rfl
theorem env45 : env 45 = some ir45 := rfl
theorem env46 : env 46 = some ir46 := rfl
theorem env36 : env 36 = some ir36 := rfl

def len8S : ByteArray := ⟨#[0, 1, 2, 2, 3, 3, 3, 3, 4, 4, 4, 4, 4, 4, 4, 4, 5, 5, 5, 5, 5, 5, 5, 5, 5, 5, 5, 5, 5, 5, 5, 5, 6, 6, 6, 6, 6, 6, 6, 6, 6, 6, 6, 6, 6, 6, 6, 6, 6, 6, 6, 6, 6, 6, 6, 6, 6, 6, 6, 6, 6, 6, 6, 6, 7, 7, 7, 7, 7, 7, 7, 7, 7, 7, 7, 7, 7, 7, 7, 7, 7, 7, 7, 7, 7, 7, 7, 7, 7, 7, 7, 7, 7, 7, 7, 7, 7, 7, 7, 7, 7, 7, 7, 7, 7, 7, 7, 7, 7, 7, 7, 7, 7, 7, 7, 7, 7, 7, 7, 7, 7, 7, 7, 7, 7, 7, 7, 7, 8, 8, 8, 8, 8, 8, 8, 8, 8, 8, 8, 8, 8, 8, 8, 8, 8, 8, 8, 8, 8, 8, 8, 8, 8, 8, 8, 8, 8, 8, 8, 8, 8, 8, 8, 8, 8, 8, 8, 8, 8, 8, 8, 8, 8, 8, 8, 8, 8, 8, 8, 8, 8, 8, 8, 8, 8, 8, 8, 8, 8, 8, 8, 8, 8, 8, 8, 8, 8, 8, 8, 8, 8, 8, 8, 8, 8, 8, 8, 8, 8, 8, 8, 8, 8, 8, 8, 8, 8, 8, 8, 8, 8, 8, 8, 8, 8, 8, 8, 8, 8, 8, 8, 8, 8, 8, 8, 8, 8, 8, 8, 8, 8, 8, 8, 8, 8, 8, 8, 8, 8, 8, 8, 8, 8, 8, 8, 8]⟩
/-- The length of a number in bits, over its table. -/
def irLv (s : ByteArray) : IFunc :=
{ ntmps := 25, results := [.tmp 2], body :=
  (.seq (.region [
    ⟨(some 2), .move (.const (.int .i64 0)), none, [], true⟩])
  (.seq (.seq (.region [
    ⟨(some 3), .move (.tmp 0), none, [], true⟩,
    ⟨(some 4), .bin .geq (.tmp 3) (.const (.int .u64 4294967296)), none, [], true⟩])
  (.cond (.tmp 4)
   (.seq (.region [
     ⟨(some 5), .move (.tmp 0), none, [], true⟩,
     ⟨(some 6), .bin .shr (.tmp 5) (.const (.int .u64 32)), none, [], true⟩,
     ⟨(some 0), .move (.tmp 6), none, [], true⟩])
   (.region [
     ⟨(some 2), .move (.const (.int .i64 32)), none, [], true⟩]))
   .skip))
  (.seq (.seq (.region [
    ⟨(some 7), .move (.tmp 0), none, [], true⟩,
    ⟨(some 8), .bin .geq (.tmp 7) (.const (.int .u64 65536)), none, [], true⟩])
  (.cond (.tmp 8)
   (.seq (.region [
     ⟨(some 9), .move (.tmp 0), none, [], true⟩,
     ⟨(some 10), .bin .shr (.tmp 9) (.const (.int .u64 16)), none, [], true⟩,
     ⟨(some 0), .move (.tmp 10), none, [], true⟩])
   (.region [
     ⟨(some 11), .move (.tmp 2), none, [], true⟩,
     ⟨(some 12), .bin .add (.tmp 11) (.const (.int .i64 16)), none, [], true⟩,
     ⟨(some 2), .move (.tmp 12), none, [], true⟩]))
   .skip))
  (.seq (.seq (.region [
    ⟨(some 13), .move (.tmp 0), none, [], true⟩,
    ⟨(some 14), .bin .geq (.tmp 13) (.const (.int .u64 256)), none, [], true⟩])
  (.cond (.tmp 14)
   (.seq (.region [
     ⟨(some 15), .move (.tmp 0), none, [], true⟩,
     ⟨(some 16), .bin .shr (.tmp 15) (.const (.int .u64 8)), none, [], true⟩,
     ⟨(some 0), .move (.tmp 16), none, [], true⟩])
   (.region [
     ⟨(some 17), .move (.tmp 2), none, [], true⟩,
     ⟨(some 18), .bin .add (.tmp 17) (.const (.int .i64 8)), none, [], true⟩,
     ⟨(some 2), .move (.tmp 18), none, [], true⟩]))
   .skip))
  (.seq (.region [
    ⟨(some 19), .move (.tmp 2), none, [], true⟩,
    ⟨(some 20), .move (.tmp 0), none, [], true⟩,
    ⟨(some 21), .conv .u8 (.tmp 20), none, [], true⟩,
    ⟨(some 22), .indexStr (.const (.string s)) (.tmp 21), none, [], true⟩,
    ⟨(some 23), .conv .i64 (.tmp 22), none, [], true⟩,
    ⟨(some 24), .bin .add (.tmp 19) (.tmp 23), none, [], true⟩,
    ⟨(some 2), .move (.tmp 24), none, [], true⟩])
  .ret))))) }
theorem env43 : env 43 = some (irLv len8S) := rfl
theorem len8_all : ∀ x : Fin 256, len8S.data.toList[x.val]?.map UInt8.toNat = some (Sort.bitsLen x.val) := by decide +kernel
theorem index8 {x : Nat} (hx : x < 256) : vIndexStr (.string len8S) (.int .u8 (x : Int)) = some (.int .u8 (Sort.bitsLen x : Int)) := by
  have h := len8_all ⟨x, hx⟩
  simp only at h
  cases h2 : len8S.data.toList[x]? with
  | none => rw [h2] at h; cases h
  | some c =>
    rw [h2] at h
    simp only [Option.map_some, Option.some.injEq] at h
    simp only [vIndexStr, Int.toNat_natCast]
    rw [if_pos (Int.natCast_nonneg x), h2, ← h]
attribute [local irreducible] len8S

theorem bitsLen_256 {x : Nat} (h : 256 ≤ x) : Sort.bitsLen x = 8 + Sort.bitsLen (x / 256) := by
  have h0 : x / 256 ≠ 0 := by omega
  unfold Sort.bitsLen
  rw [if_neg (by omega), if_neg h0]
  have e : ∀ y : Nat, 2 ≤ y → Nat.log2 y = Nat.log2 (y / 2) + 1 := fun y hy => by rw [Nat.log2_def, if_pos hy]
  rw [e x (by omega), e (x / 2) (by omega), e (x / 2 / 2) (by omega), e (x / 2 / 2 / 2) (by omega), e (x / 2 / 2 / 2 / 2) (by omega), e (x / 2 / 2 / 2 / 2 / 2) (by omega), e (x / 2 / 2 / 2 / 2 / 2 / 2) (by omega), e (x / 2 / 2 / 2 / 2 / 2 / 2 / 2) (by omega)]
  have : x / 2 / 2 / 2 / 2 / 2 / 2 / 2 / 2 = x / 256 := by simp only [Nat.div_div_eq_div_mul]
  rw [this]
  omega
theorem bitsLen_le {x : Nat} (h : x < 65536) : Sort.bitsLen x ≤ 16 := (Sort.bitsLen_le_iff x 16).2 (by simpa using h)

theorem len64_ok {n x : Nat} {h : Heap} (hx : x < 65536) : (callV env (n + 1) (.func (.func 43) #[] #[]) [.int .u64 (x : Int)] h).Is fun p => p = (.int .i64 (Sort.bitsLen x : Int), h) := by
  refine call_is env43 ?_
  have hb := bitsLen_le hx
  have c1 : ¬ (4294967296 : Int) ≤ (x : Int) := by omega
  have c2 : ¬ (65536 : Int) ≤ (x : Int) := by omega
  by_cases h8 : x < 256
  · have e := index8 h8
    have c3 : ¬ (256 : Int) ≤ (x : Int) := by omega
    have y1 : IntKind.u8.wrap (x : Int) = (x : Int) := by rw [wrap_u8_mod]; omega
    have y2 : IntKind.i64.wrap (Sort.bitsLen x : Int) = (Sort.bitsLen x : Int) := wrap_i64 (by omega) (by omega)
    have y3 : IntKind.i64.wrap (0 + (Sort.bitsLen x : Int)) = (Sort.bitsLen x : Int) := by rw [Int.zero_add]; exact y2
    simp (disch := first | assumption | omega | (simp only [wkD, oneCell, Option.isSome_some, *]; done) | (simp only [wkE, ne_eq]; omega)) only [irLv, List.append_nil, List.nil_append, List.cons_append, List.length_cons, List.length_nil, Nat.reduceAdd, Nat.reduceSub, List.replicate_succ, List.replicate_zero, c1, c2, c3, y1, y2, y3, e, wk0, wk1, wk2, wk3, wk4, wk5, X_region, X_seq, X_block, X_loop, X_cond, Y_box, Y_un, Y_store, Y_append, Y_makeMap, Y_buildSlice, ibin_shl, ibin_shr, ibin_and, List.set_cons_zero, List.set_cons_succ, List.getD_cons_zero, List.getD_cons_succ, List.map_cons, List.map_nil, ↓reduceIte, reduceCtorEq, oneCell, List.length_cons, List.length_nil, setAt, readN, bne_iff_ne, ne_eq, Nat.reduceAdd, Nat.reduceLeDiff, List.getElem?_cons_zero, List.getElem?_cons_succ, Nat.reduceMul, Option.isSome_some, layAt, Nat.reduceLT, Option.isNone_some, Option.isNone_none, beq_self_eq_true, Nat.reduceEqDiff, setParams, Int.reduceLT, Int.reduceLE, Int.reduceGT, Int.reduceGE, Int.reduceEq, Int.reduceNe, Option.map_some, Option.map_none, Option.isSome_none]
    exact leaf1 rfl
  · have e := index8 (x := x / 256) (by omega)
    have hb2 := bitsLen_256 (x := x) (by omega)
    have c3 : (256 : Int) ≤ (x : Int) := by omega
    have y0 : ibin .shr (.int .u64 (x : Int)) (.int .u64 8) = some (.int .u64 ((x / 256 : Nat) : Int)) := by
      rw [ibin_shr _ _ _ _ (by omega), show (2 : Int) ^ (min ((8 : Int).toNat) IntKind.u64.bits) = 256 from rfl, Int.fdiv_eq_ediv_of_nonneg _ (by omega)]
      rfl
    have y1 : IntKind.u8.wrap ((x / 256 : Nat) : Int) = ((x / 256 : Nat) : Int) := by rw [wrap_u8_mod]; omega
    have y2 : IntKind.i64.wrap (Sort.bitsLen (x / 256) : Int) = (Sort.bitsLen (x / 256) : Int) := wrap_i64 (by omega) (by omega)
    have y3 : IntKind.i64.wrap (8 + (Sort.bitsLen (x / 256) : Int)) = (Sort.bitsLen x : Int) := by rw [wrap_i64 (by omega) (by omega)]; omega
    have y4 : IntKind.i64.wrap (0 + 8) = 8 := wrap_i64 (by omega) (by omega)
    simp (disch := first | assumption | omega | (simp only [wkD, oneCell, Option.isSome_some, *]; done) | (simp only [wkE, ne_eq]; omega)) only [irLv, List.append_nil, List.nil_append, List.cons_append, List.length_cons, List.length_nil, Nat.reduceAdd, Nat.reduceSub, List.replicate_succ, List.replicate_zero, c1, c2, c3, y0, y1, y2, y3, y4, e, wk0, wk1, wk2, wk3, wk4, wk5, X_region, X_seq, X_block, X_loop, X_cond, Y_box, Y_un, Y_store, Y_append, Y_makeMap, Y_buildSlice, ibin_shl, ibin_and, List.set_cons_zero, List.set_cons_succ, List.getD_cons_zero, List.getD_cons_succ, List.map_cons, List.map_nil, ↓reduceIte, reduceCtorEq, oneCell, List.length_cons, List.length_nil, setAt, readN, bne_iff_ne, ne_eq, Nat.reduceAdd, Nat.reduceLeDiff, List.getElem?_cons_zero, List.getElem?_cons_succ, Nat.reduceMul, Option.isSome_some, layAt, Nat.reduceLT, Option.isNone_some, Option.isNone_none, beq_self_eq_true, Nat.reduceEqDiff, setParams, Int.reduceLT, Int.reduceLE, Int.reduceGT, Int.reduceGE, Int.reduceEq, Int.reduceNe, Option.map_some, Option.map_none, Option.isSome_none]
    exact leaf1 rfl

theorem bits_ok {n x : Nat} {h : Heap} (hx : x < 65536) : (callV env (n + 2) (.func (.func 32) #[] #[]) [.int .u64 (x : Int)] h).Is fun p => p = (.int .i64 (Sort.bitsLen x : Int), h) := by
  refine call_is env32 ?_
  simp (disch := first | assumption | omega | (simp only [wkD, oneCell, Option.isSome_some, *]; done) | (simp only [wkE, ne_eq]; omega)) only [ir32, List.append_nil, List.nil_append, List.cons_append, List.length_cons, List.length_nil, Nat.reduceAdd, Nat.reduceSub, List.replicate_succ, List.replicate_zero, wk0, wk1, wk2, wk3, wk4, wk5, X_region, X_seq, X_block, X_loop, X_cond, Y_box, Y_un, Y_store, Y_append, Y_makeMap, Y_buildSlice, ibin_shl, ibin_shr, ibin_and, List.set_cons_zero, List.set_cons_succ, List.getD_cons_zero, List.getD_cons_succ, List.map_cons, List.map_nil, ↓reduceIte, reduceCtorEq, oneCell, List.length_cons, List.length_nil, setAt, readN, bne_iff_ne, ne_eq, Nat.reduceAdd, Nat.reduceLeDiff, List.getElem?_cons_zero, List.getElem?_cons_succ, Nat.reduceMul, Option.isSome_some, layAt, Nat.reduceLT, Option.isNone_some, Option.isNone_none, beq_self_eq_true, Nat.reduceEqDiff, setParams, Int.reduceLT, Int.reduceLE, Int.reduceGT, Int.reduceGE, Int.reduceEq, Int.reduceNe, Option.map_some, Option.map_none, Option.isSome_none]
  refine Z_is (len64_ok (n := n) hx) ?_
  rintro v h1 ⟨rfl⟩
  simp (disch := first | assumption | omega | (simp only [wkD, oneCell, Option.isSome_some, *]; done) | (simp only [wkE, ne_eq]; omega)) only [wk0, wk1, wk2, wk3, wk4, wk5, X_region, X_seq, X_block, X_loop, X_cond, Y_box, Y_un, Y_store, Y_append, Y_makeMap, Y_buildSlice, ibin_shl, ibin_shr, ibin_and, List.set_cons_zero, List.set_cons_succ, List.getD_cons_zero, List.getD_cons_succ, List.map_cons, List.map_nil, ↓reduceIte, reduceCtorEq, oneCell, List.length_cons, List.length_nil, setAt, readN, bne_iff_ne, ne_eq, Nat.reduceAdd, Nat.reduceLeDiff, List.getElem?_cons_zero, List.getElem?_cons_succ, Nat.reduceMul, Option.isSome_some, layAt, Nat.reduceLT, Option.isNone_some, Option.isNone_none, beq_self_eq_true, Nat.reduceEqDiff, setParams, Int.reduceLT, Int.reduceLE, Int.reduceGT, Int.reduceGE, Int.reduceEq, Int.reduceNe, Option.map_some, Option.map_none, Option.isSome_none]
  exact leaf1 rfl

theorem npow_ok {n x : Nat} {h : Heap} (hx : x < 65536) : (callV env (n + 3) (.func (.func 45) #[] #[]) [.int .i64 (x : Int)] h).Is fun p => p = (.int .u64 ((1 <<< Sort.bitsLen x : Nat) : Int), h) := by
  refine call_is env45 ?_
  have y1 : IntKind.u64.wrap (x : Int) = (x : Int) := wrap_u64 (by omega) (by omega)
  simp (disch := first | assumption | omega | (simp only [wkD, oneCell, Option.isSome_some, *]; done) | (simp only [wkE, ne_eq]; omega)) only [ir45, List.append_nil, List.nil_append, List.cons_append, List.length_cons, List.length_nil, Nat.reduceAdd, Nat.reduceSub, List.replicate_succ, List.replicate_zero, y1, wk0, wk1, wk2, wk3, wk4, wk5, X_region, X_seq, X_block, X_loop, X_cond, Y_box, Y_un, Y_store, Y_append, Y_makeMap, Y_buildSlice, ibin_shl, ibin_shr, ibin_and, List.set_cons_zero, List.set_cons_succ, List.getD_cons_zero, List.getD_cons_succ, List.map_cons, List.map_nil, ↓reduceIte, reduceCtorEq, oneCell, List.length_cons, List.length_nil, setAt, readN, bne_iff_ne, ne_eq, Nat.reduceAdd, Nat.reduceLeDiff, List.getElem?_cons_zero, List.getElem?_cons_succ, Nat.reduceMul, Option.isSome_some, layAt, Nat.reduceLT, Option.isNone_some, Option.isNone_none, beq_self_eq_true, Nat.reduceEqDiff, setParams, Int.reduceLT, Int.reduceLE, Int.reduceGT, Int.reduceGE, Int.reduceEq, Int.reduceNe, Option.map_some, Option.map_none, Option.isSome_none]
  refine Z_is (bits_ok (n := n) hx) ?_
  rintro v h1 ⟨rfl⟩
  have hb := bitsLen_le hx
  have y0 : ibin .shl (.int .u64 1) (.int .i64 (Sort.bitsLen x : Int)) = some (.int .u64 ((1 <<< Sort.bitsLen x : Nat) : Int)) := by
    rw [ibin_shl _ _ _ _ (by omega)]
    have h2 : (2 : Nat) ^ Sort.bitsLen x ≤ 2 ^ 16 := Nat.pow_le_pow_right (by omega) hb
    rw [Int.toNat_natCast, Nat.min_eq_left (show Sort.bitsLen x ≤ IntKind.u64.bits by show _ ≤ 64; omega), Int.one_mul, Nat.one_shiftLeft]
    have h3 : (2 : Int) ^ Sort.bitsLen x = ((2 ^ Sort.bitsLen x : Nat) : Int) := by simp
    rw [h3]
    have h4 : (2 : Nat) ^ 16 = 65536 := by decide
    rw [h4] at h2
    generalize 2 ^ Sort.bitsLen x = w at h2
    rw [wrap_u64 (by omega) (by omega)]
  simp (disch := first | assumption | omega | (simp only [wkD, oneCell, Option.isSome_some, *]; done) | (simp only [wkE, ne_eq]; omega)) only [y0, wk0, wk1, wk2, wk3, wk4, wk5, X_region, X_seq, X_block, X_loop, X_cond, Y_box, Y_un, Y_store, Y_append, Y_makeMap, Y_buildSlice, ibin_shr, ibin_and, List.set_cons_zero, List.set_cons_succ, List.getD_cons_zero, List.getD_cons_succ, List.map_cons, List.map_nil, ↓reduceIte, reduceCtorEq, oneCell, List.length_cons, List.length_nil, setAt, readN, bne_iff_ne, ne_eq, Nat.reduceAdd, Nat.reduceLeDiff, List.getElem?_cons_zero, List.getElem?_cons_succ, Nat.reduceMul, Option.isSome_some, layAt, Nat.reduceLT, Option.isNone_some, Option.isNone_none, beq_self_eq_true, Nat.reduceEqDiff, setParams, Int.reduceLT, Int.reduceLE, Int.reduceGT, Int.reduceGE, Int.reduceEq, Int.reduceNe, Option.map_some, Option.map_none, Option.isSome_none]
  exact leaf1 rfl

theorem xor_u64 {x y : Nat} (hx : x < 18446744073709551616) (hy : y < 18446744073709551616) : ibin .xor (.int .u64 (x : Int)) (.int .u64 (y : Int)) = some (.int .u64 ((x ^^^ y : Nat) : Int)) := by
  have e : ∀ z : Nat, z < 18446744073709551616 → (BitVec.ofInt 64 (z : Int)).toNat = z := fun z hz => by
    rw [BitVec.toNat_ofInt]
    have : ((2 ^ 64 : Nat) : Int) = 18446744073709551616 := by decide
    rw [this]
    omega
  have hlt : x ^^^ y < 18446744073709551616 := by
    have := Nat.xor_lt_two_pow (x := x) (y := y) (n := 64) (by simpa using hx) (by simpa using hy)
    simpa using this
  simp only [ibin, if_true]
  show some (Value.int .u64 (IntKind.u64.wrap ((BitVec.ofInt 64 (x : Int) ^^^ BitVec.ofInt 64 (y : Int)).toNat : Int))) = _
  rw [BitVec.toNat_xor, e x hx, e y hy, wrap_u64 (by omega) (by omega)]
theorem and_u64 {x y : Nat} (hx : x < 18446744073709551616) (hy : y < 18446744073709551616) : ibin .and (.int .u64 (x : Int)) (.int .u64 (y : Int)) = some (.int .u64 ((x &&& y : Nat) : Int)) := by
  have e : ∀ z : Nat, z < 18446744073709551616 → (BitVec.ofInt 64 (z : Int)).toNat = z := fun z hz => by
    rw [BitVec.toNat_ofInt]
    have : ((2 ^ 64 : Nat) : Int) = 18446744073709551616 := by decide
    rw [this]
    omega
  have hlt : x &&& y ≤ y := Nat.and_le_right
  simp only [ibin, if_true]
  show some (Value.int .u64 (IntKind.u64.wrap ((BitVec.ofInt 64 (x : Int) &&& BitVec.ofInt 64 (y : Int)).toNat : Int))) = _
  rw [BitVec.toNat_and, e x hx, e y hy, wrap_u64 (by omega) (by omega)]
theorem shl_13 (x : Nat) : ibin .shl (.int .u64 (x : Int)) (.int .u64 13) = some (.int .u64 ((x * 8192 % 18446744073709551616 : Nat) : Int)) := by
  rw [ibin_shl _ _ _ _ (by omega)]
  show some (Value.int .u64 (IntKind.u64.wrap ((x : Int) * 8192))) = _
  rw [wrap_u64_mod]
  congr 2
theorem shl_17 (x : Nat) : ibin .shl (.int .u64 (x : Int)) (.int .u64 17) = some (.int .u64 ((x * 131072 % 18446744073709551616 : Nat) : Int)) := by
  rw [ibin_shl _ _ _ _ (by omega)]
  show some (Value.int .u64 (IntKind.u64.wrap ((x : Int) * 131072))) = _
  rw [wrap_u64_mod]
  congr 2
theorem shr_7 (x : Nat) : ibin .shr (.int .u64 (x : Int)) (.int .u64 7) = some (.int .u64 ((x / 128 : Nat) : Int)) := by
  rw [ibin_shr _ _ _ _ (by omega), show (2 : Int) ^ (min ((7 : Int).toNat) IntKind.u64.bits) = 128 from rfl, Int.fdiv_eq_ediv_of_nonneg _ (by omega)]
  rfl

/-- The generator's cell. -/
def Rn (b : Nat) (r : UInt64) : Rs := Ob b (.cells [.int .u64 (r.toNat : Int)] 1 false)

theorem xor_ok {n xb : Nat} {r : UInt64} {h : Heap} {ro : Nat → Option (List Value × Nat)} {R : List Rs} (O : Has ro h (Rn xb r :: R)) :
    (callV env (n + 1) (.func (.func 46) #[] #[]) [.pointer (some ⟨xb, 0, none⟩)] h).Is fun p => p.1 = .int .u64 ((Sort.xorNext r).toNat : Int) ∧ Has ro p.2 (Rn xb (Sort.xorNext r) :: R) := by
  refine call_is env46 ?_
  have hx : r.toNat < 18446744073709551616 := r.toNat_lt
  have e0 := Sort.xorNext_toNat r
  unfold Sort.xorNextN at e0
  simp only [] at e0
  have g1 := O.get 0 rfl
  have p1 := O.can 0 rfl
  have x1 := xor_u64 (x := r.toNat) (y := r.toNat * 8192 % 18446744073709551616) hx (by omega)
  have b1 : r.toNat ^^^ (r.toNat * 8192 % 18446744073709551616) < 18446744073709551616 := by
    have := Nat.xor_lt_two_pow (x := r.toNat) (y := r.toNat * 8192 % 18446744073709551616) (n := 64) (by simpa using hx) (by simp only [Nat.reducePow]; omega)
    simpa using this
  have s1 := shl_13 r.toNat
  simp (disch := first | assumption | omega | (simp only [wkD, oneCell, Option.isSome_some, *]; done) | (simp only [wkE, ne_eq]; omega)) only [ir46, List.append_nil, List.nil_append, List.cons_append, List.length_cons, List.length_nil, Nat.reduceAdd, Nat.reduceSub, List.replicate_succ, List.replicate_zero, wk0, wk1, wk2, wk3, wk4, wk5, X_region, X_seq, X_block, X_loop, X_cond, Y_box, Y_un, Y_store, Y_append, Y_makeMap, Y_buildSlice, ibin_and, List.set_cons_zero, List.set_cons_succ, List.getD_cons_zero, List.getD_cons_succ, List.map_cons, List.map_nil, ↓reduceIte, reduceCtorEq, oneCell, List.length_cons, List.length_nil, setAt, readN, bne_iff_ne, ne_eq, Nat.reduceAdd, Nat.reduceLeDiff, List.getElem?_cons_zero, List.getElem?_cons_succ, Nat.reduceMul, Option.isSome_some, layAt, Nat.reduceLT, Option.isNone_some, Option.isNone_none, beq_self_eq_true, Nat.reduceEqDiff, setParams, Int.reduceLT, Int.reduceLE, Int.reduceGT, Int.reduceGE, Int.reduceEq, Int.reduceNe, Option.map_some, Option.map_none, Option.isSome_none]
  refine X_drawn _ fun an => ?_
  simp (disch := first | assumption | omega | (simp only [wkD, oneCell, Option.isSome_some, *]; done) | (simp only [wkE, ne_eq]; omega)) only [g1, p1, s1, x1, wk0, wk1, wk2, wk3, wk4, wk5, X_region, X_seq, X_block, X_loop, X_cond, Y_box, Y_un, Y_store, Y_append, Y_makeMap, Y_buildSlice, ibin_and, List.set_cons_zero, List.set_cons_succ, List.getD_cons_zero, List.getD_cons_succ, List.map_cons, List.map_nil, ↓reduceIte, reduceCtorEq, oneCell, List.length_cons, List.length_nil, setAt, readN, bne_iff_ne, ne_eq, Nat.reduceAdd, Nat.reduceLeDiff, List.getElem?_cons_zero, List.getElem?_cons_succ, Nat.reduceMul, Option.isSome_some, layAt, Nat.reduceLT, Option.isNone_some, Option.isNone_none, beq_self_eq_true, Nat.reduceEqDiff, setParams, Int.reduceLT, Int.reduceLE, Int.reduceGT, Int.reduceGE, Int.reduceEq, Int.reduceNe, Option.map_some, Option.map_none, Option.isSome_none]
  replace O := O.set 0 rfl (.cells [.int .u64 ((r.toNat ^^^ (r.toNat * 8192 % 18446744073709551616) : Nat) : Int)] 1 false)
  refine X_abs O ?_
  clear O g1 p1 s1 x1
  intro h2 O
  have g1 := O.get 0 rfl
  have p1 := O.can 0 rfl
  generalize r.toNat ^^^ (r.toNat * 8192 % 18446744073709551616) = a at b1 e0 g1 p1 O ⊢
  have x1 := xor_u64 (x := a) (y := a / 128) b1 (by omega)
  have b2 : a ^^^ (a / 128) < 18446744073709551616 := by
    have := Nat.xor_lt_two_pow (x := a) (y := a / 128) (n := 64) (by simpa using b1) (by simp only [Nat.reducePow]; omega)
    simpa using this
  have s1 := shr_7 a
  refine X_drawn _ fun an => ?_
  simp (disch := first | assumption | omega | (simp only [wkD, oneCell, Option.isSome_some, *]; done) | (simp only [wkE, ne_eq]; omega)) only [g1, p1, s1, x1, wk0, wk1, wk2, wk3, wk4, wk5, X_region, X_seq, X_block, X_loop, X_cond, Y_box, Y_un, Y_store, Y_append, Y_makeMap, Y_buildSlice, ibin_and, List.set_cons_zero, List.set_cons_succ, List.getD_cons_zero, List.getD_cons_succ, List.map_cons, List.map_nil, ↓reduceIte, reduceCtorEq, oneCell, List.length_cons, List.length_nil, setAt, readN, bne_iff_ne, ne_eq, Nat.reduceAdd, Nat.reduceLeDiff, List.getElem?_cons_zero, List.getElem?_cons_succ, Nat.reduceMul, Option.isSome_some, layAt, Nat.reduceLT, Option.isNone_some, Option.isNone_none, beq_self_eq_true, Nat.reduceEqDiff, setParams, Int.reduceLT, Int.reduceLE, Int.reduceGT, Int.reduceGE, Int.reduceEq, Int.reduceNe, Option.map_some, Option.map_none, Option.isSome_none]
  replace O := O.set 0 rfl (.cells [.int .u64 ((a ^^^ (a / 128) : Nat) : Int)] 1 false)
  refine X_abs O ?_
  clear O g1 p1 s1 x1
  intro h2 O
  have g1 := O.get 0 rfl
  have p1 := O.can 0 rfl
  generalize a ^^^ (a / 128) = c at b2 e0 g1 p1 O ⊢
  have x1 := xor_u64 (x := c) (y := c * 131072 % 18446744073709551616) b2 (by omega)
  have s1 := shl_17 c
  rw [← e0] at x1
  refine X_drawn _ fun an => ?_
  simp (disch := first | assumption | omega | (simp only [wkD, oneCell, Option.isSome_some, *]; done) | (simp only [wkE, ne_eq]; omega)) only [g1, p1, s1, x1, wk0, wk1, wk2, wk3, wk4, wk5, X_region, X_seq, X_block, X_loop, X_cond, Y_box, Y_un, Y_store, Y_append, Y_makeMap, Y_buildSlice, ibin_and, List.set_cons_zero, List.set_cons_succ, List.getD_cons_zero, List.getD_cons_succ, List.map_cons, List.map_nil, ↓reduceIte, reduceCtorEq, oneCell, List.length_cons, List.length_nil, setAt, readN, bne_iff_ne, ne_eq, Nat.reduceAdd, Nat.reduceLeDiff, List.getElem?_cons_zero, List.getElem?_cons_succ, Nat.reduceMul, Option.isSome_some, layAt, Nat.reduceLT, Option.isNone_some, Option.isNone_none, beq_self_eq_true, Nat.reduceEqDiff, setParams, Int.reduceLT, Int.reduceLE, Int.reduceGT, Int.reduceGE, Int.reduceEq, Int.reduceNe, Option.map_some, Option.map_none, Option.isSome_none]
  replace O := O.set 0 rfl (.cells [.int .u64 ((Sort.xorNext r).toNat : Int)] 1 false)
  have g1 := O.get 0 rfl
  simp (disch := first | assumption | omega | (simp only [wkD, oneCell, Option.isSome_some, *]; done) | (simp only [wkE, ne_eq]; omega)) only [g1, wk0, wk1, wk2, wk3, wk4, wk5, X_region, X_seq, X_block, X_loop, X_cond, Y_box, Y_un, Y_store, Y_append, Y_makeMap, Y_buildSlice, ibin_shl, ibin_shr, ibin_and, List.set_cons_zero, List.set_cons_succ, List.getD_cons_zero, List.getD_cons_succ, List.map_cons, List.map_nil, ↓reduceIte, reduceCtorEq, oneCell, List.length_cons, List.length_nil, setAt, readN, bne_iff_ne, ne_eq, Nat.reduceAdd, Nat.reduceLeDiff, List.getElem?_cons_zero, List.getElem?_cons_succ, Nat.reduceMul, Option.isSome_some, layAt, Nat.reduceLT, Option.isNone_some, Option.isNone_none, beq_self_eq_true, Nat.reduceEqDiff, setParams, Int.reduceLT, Int.reduceLE, Int.reduceGT, Int.reduceGE, Int.reduceEq, Int.reduceNe, Option.map_some, Option.map_none, Option.isSome_none]
  exact leaf1 ⟨rfl, O⟩

def bpR (a L M i0 : Nat) : Nat → Nat → UInt64 × Array It → Array It
  | 0, _, st => st.2
  | k + 1, t, st => bpR a L M i0 k (t + 1) (Sort.breakStep a L M st (i0 + t))
theorem bp_eq {d : Array It} {lo hi : Nat} (h8 : 8 ≤ hi - lo) : Sort.breakPatterns d lo hi = bpR lo (hi - lo) (1 <<< Sort.bitsLen (hi - lo)) (lo + (hi - lo) / 4 * 2 - 1) 3 0 (UInt64.ofNat (hi - lo), d) := by
  unfold Sort.breakPatterns
  simp only []
  rw [if_pos h8]
  rfl

theorem break_ok {n b lo hi cap zz m : Nat} {sp : Option Nat} {h : Heap} {d : Array It} {rest : List Value} {t : Bool} {ro : Nat → Option (List Value × Nat)} {R : List Rs} (hn : m + 20 < n) (hm2 : m < 65536) (hm : d.size = m) (O : Has ro h (Ar b d rest zz t :: R)) (hlo : lo + 12 < hi) (hhi : hi ≤ m) :
    (callV env (n + 4) (.func (.func 36) #[] #[]) [.slice (some ⟨b, 0, sp⟩) m cap, .int .i64 (lo : Int), .int .i64 (hi : Int), .func (.func 27) #[] #[]] h).Is fun p => Has ro p.2 (Ar b (Sort.breakPatterns d lo hi) rest zz t :: R) ∧ (Sort.breakPatterns d lo hi).size = m := by
  refine call_is env36 ?_
  rw [bp_eq (by omega)]
  obtain ⟨L, hL⟩ : ∃ L, L = hi - lo := ⟨_, rfl⟩
  rw [← hL]
  have y1 : IntKind.i64.wrap ((hi : Int) - (lo : Int)) = (L : Int) := by rw [wrap_i64 (by omega) (by omega)]; omega
  have y2 : IntKind.u64.wrap (L : Int) = (((UInt64.ofNat L).toNat : Nat) : Int) := by
    rw [wrap_u64 (by omega) (by omega), UInt64.toNat_ofNat']
    have : L % 2 ^ 64 = L := Nat.mod_eq_of_lt (by simp only [Nat.reducePow]; omega)
    rw [this]
  have h8 : (8 : Int) ≤ (L : Int) := by omega
  simp (disch := first | assumption | omega | (simp only [wkD, oneCell, Option.isSome_some, *]; done) | (simp only [wkE, ne_eq]; omega)) only [ir36, List.append_nil, List.nil_append, List.cons_append, List.length_cons, List.length_nil, Nat.reduceAdd, Nat.reduceSub, List.replicate_succ, List.replicate_zero, y1, y2, h8, wk0, wk1, wk2, wk3, wk4, wk5, X_region, X_seq, X_block, X_loop, X_cond, Y_un, Y_store, Y_append, Y_makeMap, Y_buildSlice, ibin_shl, ibin_shr, ibin_and, List.set_cons_zero, List.set_cons_succ, List.getD_cons_zero, List.getD_cons_succ, List.map_cons, List.map_nil, ↓reduceIte, reduceCtorEq, oneCell, List.length_cons, List.length_nil, setAt, readN, bne_iff_ne, ne_eq, Nat.reduceAdd, Nat.reduceLeDiff, List.getElem?_cons_zero, List.getElem?_cons_succ, Nat.reduceMul, Option.isSome_some, layAt, Nat.reduceLT, Option.isNone_some, Option.isNone_none, beq_self_eq_true, Nat.reduceEqDiff, setParams, Int.reduceLT, Int.reduceLE, Int.reduceGT, Int.reduceGE, Int.reduceEq, Int.reduceNe, Option.map_some, Option.map_none, Option.isSome_none]
  refine Y_boxO O ?_
  intro xb h1 O e1
  have g1 := O.get 0 rfl
  have p1 := O.can 0 rfl
  simp (disch := first | assumption | omega | (simp only [wkD, oneCell, Option.isSome_some, *]; done) | (simp only [wkE, ne_eq]; omega)) only [g1, p1, wk0, wk1, wk2, wk3, wk4, wk5, X_region, X_seq, X_block, X_loop, X_cond, Y_box, Y_un, Y_store, Y_append, Y_makeMap, Y_buildSlice, ibin_shl, ibin_shr, ibin_and, List.set_cons_zero, List.set_cons_succ, List.getD_cons_zero, List.getD_cons_succ, List.map_cons, List.map_nil, ↓reduceIte, reduceCtorEq, oneCell, List.length_cons, List.length_nil, setAt, readN, bne_iff_ne, ne_eq, Nat.reduceAdd, Nat.reduceLeDiff, List.getElem?_cons_zero, List.getElem?_cons_succ, Nat.reduceMul, Option.isSome_some, layAt, Nat.reduceLT, Option.isNone_some, Option.isNone_none, beq_self_eq_true, Nat.reduceEqDiff, setParams, Int.reduceLT, Int.reduceLE, Int.reduceGT, Int.reduceGE, Int.reduceEq, Int.reduceNe, Option.map_some, Option.map_none, Option.isSome_none]
  replace O := (O.set 0 rfl (.cells [.int .u64 ((UInt64.ofNat L).toNat : Int)] 1 false)).swap2
  refine Z_is (npow_ok (n := n) (x := L) (by omega)) ?_
  rintro v h3 ⟨rfl⟩
  refine Y_abs O ?_
  clear O g1 p1
  intro h2 O
  generalize UInt64.ofNat L = r at O ⊢
  obtain ⟨M, hM⟩ : ∃ M, M = 1 <<< Sort.bitsLen L := ⟨_, rfl⟩
  rw [← hM]
  have hM1 : 1 ≤ M := by rw [hM, Nat.one_shiftLeft]; exact Nat.two_pow_pos _
  have hM2 : M ≤ 2 * L := by rw [hM, Nat.one_shiftLeft]; exact Sort.two_pow_bitsLen_le (by omega)
  have y3 : IntKind.i64.wrap ((L : Int).tdiv 4) = ((L / 4 : Nat) : Int) := by rw [show ((L : Int).tdiv 4) = ((L / 4 : Nat) : Int) from rfl, wrap_i64 (by omega) (by omega)]
  have y4 : IntKind.i64.wrap (((L / 4 : Nat) : Int) * 2) = ((L / 4 * 2 : Nat) : Int) := by rw [wrap_i64 (by omega) (by omega)]; omega
  have y5 : IntKind.i64.wrap ((lo : Int) + ((L / 4 * 2 : Nat) : Int)) = ((lo + L / 4 * 2 : Nat) : Int) := by rw [wrap_i64 (by omega) (by omega)]; omega
  have y6 : IntKind.i64.wrap (((lo + L / 4 * 2 : Nat) : Int) - 1) = ((lo + L / 4 * 2 - 1 : Nat) : Int) := by rw [wrap_i64 (by omega) (by omega)]; omega
  have y7 : IntKind.i64.wrap (((lo + L / 4 * 2 : Nat) : Int) + 1) = ((lo + L / 4 * 2 + 1 : Nat) : Int) := by rw [wrap_i64 (by omega) (by omega)]; omega
  simp (disch := first | assumption | omega | (simp only [wkD, oneCell, Option.isSome_some, *]; done) | (simp only [wkE, ne_eq]; omega)) only [y3, y4, y5, y6, wk0, wk1, wk2, wk3, wk4, wk5, X_region, X_seq, X_block, X_loop, X_cond, Y_box, Y_un, Y_store, Y_append, Y_makeMap, Y_buildSlice, ibin_shl, ibin_shr, ibin_and, List.set_cons_zero, List.set_cons_succ, List.getD_cons_zero, List.getD_cons_succ, List.map_cons, List.map_nil, ↓reduceIte, reduceCtorEq, oneCell, List.length_cons, List.length_nil, setAt, readN, bne_iff_ne, ne_eq, Nat.reduceAdd, Nat.reduceLeDiff, List.getElem?_cons_zero, List.getElem?_cons_succ, Nat.reduceMul, Option.isSome_some, layAt, Nat.reduceLT, Option.isNone_some, Option.isNone_none, beq_self_eq_true, Nat.reduceEqDiff, setParams, Int.reduceLT, Int.reduceLE, Int.reduceGT, Int.reduceGE, Int.reduceEq, Int.reduceNe, Option.map_some, Option.map_none, Option.isSome_none]
  obtain ⟨i0, hi0⟩ : ∃ i0, i0 = lo + L / 4 * 2 - 1 := ⟨_, rfl⟩
  rw [← hi0]
  have e7 : lo + L / 4 * 2 + 1 = i0 + 2 := by omega
  rw [e7] at y7
  refine L_is (fun q s => ∃ (tt : Nat) (r1 : UInt64) (d1 : Array It), s.defers = [] ∧ s.tmps.length = 67 ∧ s.tmps.getD 0 undefV = .slice (some ⟨b, 0, sp⟩) m cap ∧ s.tmps.getD 1 undefV = .int .i64 (lo : Int) ∧ s.tmps.getD 8 undefV = .int .i64 (L : Int) ∧ s.tmps.getD 9 undefV = .pointer (some ⟨xb, 0, none⟩) ∧ s.tmps.getD 10 undefV = .int .u64 (M : Int) ∧ s.tmps.getD 11 undefV = .int .i64 ((i0 + tt : Nat) : Int) ∧ q = 3 - tt ∧ tt ≤ 3 ∧ d1.size = m ∧ Has ro s.h (Ar b d1 rest zz t :: Rn xb r1 :: R) ∧ bpR lo L M i0 (3 - tt) tt (r1, d1) = bpR lo L M i0 3 0 (r, d)) 3 ?_ (by omega) ?_
  · exact ⟨0, r, d, rfl, rfl, rfl, rfl, rfl, rfl, rfl, rfl, rfl, by omega, hm, O, rfl⟩
  clear O
  rintro q tm df h4 ⟨tt, r1, d1, hd, hlen_, g0, g1, g8, g9, g10, g11, hq, p1, hs, O, hE⟩
  simp only at hd g0 g1 g8 g9 g10 g11 O
  subst hd
  obtain ⟨w, hg_, rfl⟩ := explode hlen_
  simp only [hg_] at g0 g1 g8 g9 g10 g11
  clear hlen_ hg_
  by_cases ht : tt < 3
  · have ht' : ((i0 + tt : Nat) : Int) ≤ ((i0 + 2 : Nat) : Int) := by omega
    simp (disch := first | assumption | omega | (simp only [wkD, oneCell, Option.isSome_some, *]; done) | (simp only [wkE, ne_eq]; omega)) only [g0, g1, g8, g9, g10, g11, y3, y4, y5, y7, ht', wk0, wk1, wk2, wk3, wk4, wk5, X_region, X_seq, X_block, X_loop, X_cond, Y_box, Y_un, Y_store, Y_append, Y_makeMap, Y_buildSlice, ibin_shl, ibin_shr, ibin_and, List.set_cons_zero, List.set_cons_succ, List.getD_cons_zero, List.getD_cons_succ, List.map_cons, List.map_nil, ↓reduceIte, reduceCtorEq, oneCell, List.length_cons, List.length_nil, setAt, readN, bne_iff_ne, ne_eq, Nat.reduceAdd, Nat.reduceLeDiff, List.getElem?_cons_zero, List.getElem?_cons_succ, Nat.reduceMul, Option.isSome_some, layAt, Nat.reduceLT, Option.isNone_some, Option.isNone_none, beq_self_eq_true, Nat.reduceEqDiff, setParams, Int.reduceLT, Int.reduceLE, Int.reduceGT, Int.reduceGE, Int.reduceEq, Int.reduceNe, Option.map_some, Option.map_none, Option.isSome_none]
    refine Z_is (xor_ok (n := n + 2) O.swap2) ?_
    rintro v h5 ⟨rfl, O5⟩
    simp only at O5
    replace O := O5.swap2
    clear O5
    have e3 : 3 - tt = (3 - (tt + 1)) + 1 := by omega
    rw [e3, bpR] at hE
    unfold Sort.breakStep at hE
    simp only [] at hE
    generalize Sort.xorNext r1 = r2 at O hE ⊢
    have z1 : IntKind.u64.wrap ((M : Int) - 1) = ((M - 1 : Nat) : Int) := by rw [wrap_u64 (by omega) (by omega)]; omega
    have z2 := and_u64 (x := r2.toNat) (y := M - 1) r2.toNat_lt (by omega)
    have hal : r2.toNat &&& (M - 1) ≤ M - 1 := Nat.and_le_right
    generalize r2.toNat &&& (M - 1) = o at z2 hal hE
    have z3 : IntKind.i64.wrap (o : Int) = (o : Int) := wrap_i64 (by omega) (by omega)
    have y9 : IntKind.i64.wrap (((i0 + tt : Nat) : Int) + 1) = ((i0 + (tt + 1) : Nat) : Int) := by rw [wrap_i64 (by omega) (by omega)]; omega
    by_cases ho : o ≥ L
    · have ho' : (L : Int) ≤ (o : Int) := by omega
      rw [if_pos ho] at hE
      have z4 : IntKind.i64.wrap ((o : Int) - (L : Int)) = ((o - L : Nat) : Int) := by rw [wrap_i64 (by omega) (by omega)]; omega
      have z5 : IntKind.i64.wrap ((lo : Int) + ((o - L : Nat) : Int)) = ((lo + (o - L) : Nat) : Int) := by rw [wrap_i64 (by omega) (by omega)]; omega
      simp (disch := first | assumption | omega | (simp only [wkD, oneCell, Option.isSome_some, *]; done) | (simp only [wkE, ne_eq]; omega)) only [g0, g1, g8, g9, g10, g11, z1, z2, z3, ho', z4, wk0, wk1, wk2, wk3, wk4, wk5, X_region, X_seq, X_block, X_loop, X_cond, Y_box, Y_un, Y_store, Y_append, Y_makeMap, Y_buildSlice, ibin_shl, ibin_shr, List.set_cons_zero, List.set_cons_succ, List.getD_cons_zero, List.getD_cons_succ, List.map_cons, List.map_nil, ↓reduceIte, reduceCtorEq, oneCell, List.length_cons, List.length_nil, setAt, readN, bne_iff_ne, ne_eq, Nat.reduceAdd, Nat.reduceLeDiff, List.getElem?_cons_zero, List.getElem?_cons_succ, Nat.reduceMul, Option.isSome_some, layAt, Nat.reduceLT, Option.isNone_some, Option.isNone_none, beq_self_eq_true, Nat.reduceEqDiff, setParams, Int.reduceLT, Int.reduceLE, Int.reduceGT, Int.reduceGE, Int.reduceEq, Int.reduceNe, Option.map_some, Option.map_none, Option.isSome_none]
      have r1 := rdA O (k := i0 + tt) (by omega)
      have r2 := rdA O (k := lo + (o - L)) (by omega)
      obtain ⟨k1, k2, w1, w2, O4⟩ := swA O (i := i0 + tt) (j := lo + (o - L)) (by omega) (by omega)
      have c1 : (0 : Int) ≤ ((i0 + tt : Nat) : Int) := by omega
      have c2 : ((i0 + tt : Nat) : Int) < (m : Int) := by omega
      have c3 : (0 : Int) ≤ ((lo + (o - L) : Nat) : Int) := by omega
      have c4 : ((lo + (o - L) : Nat) : Int) < (m : Int) := by omega
      refine X_drawn _ fun an => ?_
      simp (disch := first | assumption | omega | (simp only [wkD, oneCell, Option.isSome_some, *]; done) | (simp only [wkE, ne_eq]; omega)) only [g0, g1, g8, g9, g10, g11, z5, y9, r1, r2, w1, w2, c1, c2, c3, c4, Int.toNat_natCast, agg_ic, iv_cells, ic_len, wk0, wk1, wk2, wk3, wk4, wk5, X_region, X_seq, X_block, X_loop, X_cond, Y_box, Y_un, Y_store, Y_append, Y_makeMap, Y_buildSlice, ibin_shl, ibin_shr, ibin_and, List.set_cons_zero, List.set_cons_succ, List.getD_cons_zero, List.getD_cons_succ, List.map_cons, List.map_nil, ↓reduceIte, reduceCtorEq, oneCell, List.length_cons, List.length_nil, setAt, readN, bne_iff_ne, ne_eq, Nat.reduceAdd, Nat.reduceLeDiff, List.getElem?_cons_zero, List.getElem?_cons_succ, Nat.reduceMul, Option.isSome_some, layAt, Nat.reduceLT, Option.isNone_some, Option.isNone_none, beq_self_eq_true, Nat.reduceEqDiff, setParams, Int.reduceLT, Int.reduceLE, Int.reduceGT, Int.reduceGE, Int.reduceEq, Int.reduceNe, Option.map_some, Option.map_none, Option.isSome_none]
      replace O := O4
      clear r1 r2 w1 w2 c1 c2 c3 c4 O4
      exact Is_in ⟨3 - (tt + 1), by omega, tt + 1, r2, _, rfl, rfl, rfl, rfl, rfl, rfl, rfl, rfl, rfl, by omega, by rw [Sort.size_swp]; exact hs, O, hE⟩
    · have ho' : ¬ (L : Int) ≤ (o : Int) := by omega
      rw [if_neg ho] at hE
      have z5 : IntKind.i64.wrap ((lo : Int) + (o : Int)) = ((lo + o : Nat) : Int) := by rw [wrap_i64 (by omega) (by omega)]; omega
      simp (disch := first | assumption | omega | (simp only [wkD, oneCell, Option.isSome_some, *]; done) | (simp only [wkE, ne_eq]; omega)) only [g0, g1, g8, g9, g10, g11, z1, z2, z3, ho', wk0, wk1, wk2, wk3, wk4, wk5, X_region, X_seq, X_block, X_loop, X_cond, Y_box, Y_un, Y_store, Y_append, Y_makeMap, Y_buildSlice, ibin_shl, ibin_shr, List.set_cons_zero, List.set_cons_succ, List.getD_cons_zero, List.getD_cons_succ, List.map_cons, List.map_nil, ↓reduceIte, reduceCtorEq, oneCell, List.length_cons, List.length_nil, setAt, readN, bne_iff_ne, ne_eq, Nat.reduceAdd, Nat.reduceLeDiff, List.getElem?_cons_zero, List.getElem?_cons_succ, Nat.reduceMul, Option.isSome_some, layAt, Nat.reduceLT, Option.isNone_some, Option.isNone_none, beq_self_eq_true, Nat.reduceEqDiff, setParams, Int.reduceLT, Int.reduceLE, Int.reduceGT, Int.reduceGE, Int.reduceEq, Int.reduceNe, Option.map_some, Option.map_none, Option.isSome_none]
      have r1 := rdA O (k := i0 + tt) (by omega)
      have r2 := rdA O (k := lo + o) (by omega)
      obtain ⟨k1, k2, w1, w2, O4⟩ := swA O (i := i0 + tt) (j := lo + o) (by omega) (by omega)
      have c1 : (0 : Int) ≤ ((i0 + tt : Nat) : Int) := by omega
      have c2 : ((i0 + tt : Nat) : Int) < (m : Int) := by omega
      have c3 : (0 : Int) ≤ ((lo + o : Nat) : Int) := by omega
      have c4 : ((lo + o : Nat) : Int) < (m : Int) := by omega
      refine X_drawn _ fun an => ?_
      simp (disch := first | assumption | omega | (simp only [wkD, oneCell, Option.isSome_some, *]; done) | (simp only [wkE, ne_eq]; omega)) only [g0, g1, g8, g9, g10, g11, z5, y9, r1, r2, w1, w2, c1, c2, c3, c4, Int.toNat_natCast, agg_ic, iv_cells, ic_len, wk0, wk1, wk2, wk3, wk4, wk5, X_region, X_seq, X_block, X_loop, X_cond, Y_box, Y_un, Y_store, Y_append, Y_makeMap, Y_buildSlice, ibin_shl, ibin_shr, ibin_and, List.set_cons_zero, List.set_cons_succ, List.getD_cons_zero, List.getD_cons_succ, List.map_cons, List.map_nil, ↓reduceIte, reduceCtorEq, oneCell, List.length_cons, List.length_nil, setAt, readN, bne_iff_ne, ne_eq, Nat.reduceAdd, Nat.reduceLeDiff, List.getElem?_cons_zero, List.getElem?_cons_succ, Nat.reduceMul, Option.isSome_some, layAt, Nat.reduceLT, Option.isNone_some, Option.isNone_none, beq_self_eq_true, Nat.reduceEqDiff, setParams, Int.reduceLT, Int.reduceLE, Int.reduceGT, Int.reduceGE, Int.reduceEq, Int.reduceNe, Option.map_some, Option.map_none, Option.isSome_none]
      replace O := O4
      clear r1 r2 w1 w2 c1 c2 c3 c4 O4
      exact Is_in ⟨3 - (tt + 1), by omega, tt + 1, r2, _, rfl, rfl, rfl, rfl, rfl, rfl, rfl, rfl, rfl, by omega, by rw [Sort.size_swp]; exact hs, O, hE⟩
  · have ht' : ¬ ((i0 + tt : Nat) : Int) ≤ ((i0 + 2 : Nat) : Int) := by omega
    simp (disch := first | assumption | omega | (simp only [wkD, oneCell, Option.isSome_some, *]; done) | (simp only [wkE, ne_eq]; omega)) only [g0, g1, g8, g9, g10, g11, y3, y4, y5, y7, ht', wk0, wk1, wk2, wk3, wk4, wk5, X_region, X_seq, X_block, X_loop, X_cond, Y_box, Y_un, Y_store, Y_append, Y_makeMap, Y_buildSlice, ibin_shl, ibin_shr, ibin_and, List.set_cons_zero, List.set_cons_succ, List.getD_cons_zero, List.getD_cons_succ, List.map_cons, List.map_nil, ↓reduceIte, reduceCtorEq, oneCell, List.length_cons, List.length_nil, setAt, readN, bne_iff_ne, ne_eq, Nat.reduceAdd, Nat.reduceLeDiff, List.getElem?_cons_zero, List.getElem?_cons_succ, Nat.reduceMul, Option.isSome_some, layAt, Nat.reduceLT, Option.isNone_some, Option.isNone_none, beq_self_eq_true, Nat.reduceEqDiff, setParams, Int.reduceLT, Int.reduceLE, Int.reduceGT, Int.reduceGE, Int.reduceEq, Int.reduceNe, Option.map_some, Option.map_none, Option.isSome_none]
    refine Is_in ?_
    simp (disch := first | assumption | omega | (simp only [wkD, oneCell, Option.isSome_some, *]; done) | (simp only [wkE, ne_eq]; omega)) only [wk0, wk1, wk2, wk3, wk4, wk5, X_region, X_seq, X_block, X_loop, X_cond, Y_box, Y_un, Y_store, Y_append, Y_makeMap, Y_buildSlice, ibin_shl, ibin_shr, ibin_and, List.set_cons_zero, List.set_cons_succ, List.getD_cons_zero, List.getD_cons_succ, List.map_cons, List.map_nil, ↓reduceIte, reduceCtorEq, oneCell, List.length_cons, List.length_nil, setAt, readN, bne_iff_ne, ne_eq, Nat.reduceAdd, Nat.reduceLeDiff, List.getElem?_cons_zero, List.getElem?_cons_succ, Nat.reduceMul, Option.isSome_some, layAt, Nat.reduceLT, Option.isNone_some, Option.isNone_none, beq_self_eq_true, Nat.reduceEqDiff, setParams, Int.reduceLT, Int.reduceLE, Int.reduceGT, Int.reduceGE, Int.reduceEq, Int.reduceNe, Option.map_some, Option.map_none, Option.isSome_none]
    have e3 : 3 - tt = 0 := by omega
    rw [e3, bpR] at hE
    simp only at hE
    rw [← hE]
    exact leaf0n ⟨O.rid 1 rfl, hs⟩
end Go.Proofs.Ytafaefeekilclaa
