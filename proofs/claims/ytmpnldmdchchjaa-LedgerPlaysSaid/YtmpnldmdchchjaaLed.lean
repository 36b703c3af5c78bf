import Derived.Test.YtmpnldmdchchjaaFk
import Derived.Test.YtmpnldmdchchjaaIr
namespace Go.Proofs.Ytmpnldmdchchjaa
open Go Go.Ideal Go.ChangeShapes Go.RowKit
set_option maxHeartbeats 0
set_option linter.unusedSimpArgs false
set_option linter.unusedVariables false
set_option maxRecDepth 100000
attribute [local irreducible] callV T.All T.Is run
theorem env76 : env 76 = some ir76 := rfl
theorem env79 : env 79 = some ir79 := rfl
theorem env80 : env 80 = some ir80 := rfl
theorem env81 : env 81 = some ir81 := rfl
theorem env92 : env 92 = some ir92 := rfl
theorem env93 : env 93 = some ir93 := rfl
theorem env75 : env 75 = some ir75 := rfl
def cmpZ (a b : Int) : Int := if a < b then -1 else if b < a then 1 else 0
theorem nan_ok {n : Nat} {h : Heap} (a : Int) : (callV env (n + 1) (.func (.func 92) #[] #[]) [.int .i64 a] h).Is fun p => p = (.bool false, h) := by
  refine call_is env92 ?_
  have e : a = a := rfl
  simp only [ir92, Nat.reduceAdd, Nat.reduceSub, wkF, ↓reduceIte, reduceCtorEq, wkN, wkG, wkH]
  exact leaf1 rfl
theorem cmpZ_ok {n : Nat} {h : Heap} (a b : Int) : (callV env (n + 2) (.func (.func 80) #[] #[]) [.int .i64 a, .int .i64 b] h).Is fun p => p = (.int .i64 (cmpZ a b), h) := by
  refine call_is env80 ?_
  simp only [ir80, Nat.reduceAdd, Nat.reduceSub, wkF, ↓reduceIte, reduceCtorEq, wkN, wkG, wkH]
  refine Z_is (nan_ok (n := n) a) ?_
  rintro v h1 ⟨rfl⟩
  simp only [wkF, ↓reduceIte, reduceCtorEq, Nat.reduceAdd, wkG, wkH]
  refine Z_is (nan_ok (n := n) b) ?_
  rintro v h1 ⟨rfl⟩
  by_cases h1 : a < b
  · simp only [h1, wkF, ↓reduceIte, reduceCtorEq, Nat.reduceAdd, wkG, wkH]
    exact leaf1 (by simp only [cmpZ, if_pos h1]; rfl)
  · by_cases h2 : b < a
    · simp only [h1, h2, wkF, ↓reduceIte, reduceCtorEq, Nat.reduceAdd, wkG, wkH]
      exact leaf1 (by simp only [cmpZ, if_neg h1, if_pos h2]; rfl)
    · simp only [h1, h2, wkF, ↓reduceIte, reduceCtorEq, Nat.reduceAdd, wkG, wkH]
      exact leaf1 (by simp only [cmpZ, if_neg h1, if_neg h2]; rfl)
theorem nanU_ok {n : Nat} {h : Heap} (a : Int) : (callV env (n + 1) (.func (.func 93) #[] #[]) [.int .u64 a] h).Is fun p => p = (.bool false, h) := by
  refine call_is env93 ?_
  have e : a = a := rfl
  simp only [ir93, Nat.reduceAdd, Nat.reduceSub, wkF, ↓reduceIte, reduceCtorEq, wkN, wkG, wkH]
  exact leaf1 rfl
theorem cmpU_ok {n : Nat} {h : Heap} (a b : Int) : (callV env (n + 2) (.func (.func 81) #[] #[]) [.int .u64 a, .int .u64 b] h).Is fun p => p = (.int .i64 (cmpZ a b), h) := by
  refine call_is env81 ?_
  simp only [ir81, Nat.reduceAdd, Nat.reduceSub, wkF, ↓reduceIte, reduceCtorEq, wkN, wkG, wkH]
  refine Z_is (nanU_ok (n := n) a) ?_
  rintro v h1 ⟨rfl⟩
  simp only [wkF, ↓reduceIte, reduceCtorEq, Nat.reduceAdd, wkG, wkH]
  refine Z_is (nanU_ok (n := n) b) ?_
  rintro v h1 ⟨rfl⟩
  by_cases h1 : a < b
  · simp only [h1, wkF, ↓reduceIte, reduceCtorEq, Nat.reduceAdd, wkG, wkH]
    exact leaf1 (by simp only [cmpZ, if_pos h1]; rfl)
  · by_cases h2 : b < a
    · simp only [h1, h2, wkF, ↓reduceIte, reduceCtorEq, Nat.reduceAdd, wkG, wkH]
      exact leaf1 (by simp only [cmpZ, if_neg h1, if_pos h2]; rfl)
    · simp only [h1, h2, wkF, ↓reduceIte, reduceCtorEq, Nat.reduceAdd, wkG, wkH]
      exact leaf1 (by simp only [cmpZ, if_neg h1, if_neg h2]; rfl)
def orZ (a b c : Int) : Int := if a ≠ 0 then a else if b ≠ 0 then b else c
theorem or_ok {n b : Nat} {h : Heap} (x y z : Int) (hn : 4 < n) (hb : h.get b = some (.cells [.int .i64 x, .int .i64 y, .int .i64 z] 1 false)) : (callV env (n + 1) (.func (.func 79) #[] #[]) [.slice (some ⟨b, 0, none⟩) 3 3] h).Is fun p => p = (.int .i64 (orZ x y z), h) := by
  refine call_is env79 ?_
  simp only [ir79, Nat.reduceAdd, Nat.reduceSub, wkF, ↓reduceIte, reduceCtorEq, wkN, wkG, wkH]
  refine L_is (fun q s => ∃ (i : Nat), s.defers = [] ∧ s.tmps.length = 18 ∧ s.tmps.getD 3 undefV = .int .i64 0 ∧ s.tmps.getD 6 undefV = .slice (some ⟨b, 0, none⟩) 3 3 ∧ s.tmps.getD 7 undefV = .int .i64 ((3 : Nat) : Int) ∧ s.tmps.getD 8 undefV = .int .i64 (i : Int) ∧ q = 3 - i ∧ i ≤ 3 ∧ (0 < i → x = 0) ∧ (1 < i → y = 0) ∧ (2 < i → z = 0) ∧ s.h = h) 3 ?_ (by omega) ?_
  · exact ⟨0, rfl, rfl, rfl, rfl, rfl, rfl, rfl, by omega, by omega, by omega, by omega, rfl⟩
  rintro q tm df h7 ⟨i, hd, hlen_, g3, g6, g7, g8, hq, hi, hx, hy, hz, hh⟩
  simp only at hd hh g3 g6 g7 g8
  subst hd hh
  obtain ⟨w, hg_, rfl⟩ := explode hlen_
  simp only [hg_] at g3 g6 g7 g8
  clear hlen_ hg_
  have c3 : ∀ k : Nat, k < 3 → (k : Int) < ((3 : Nat) : Int) := fun k hk => by omega
  have c0 : ∀ k : Nat, (0 : Int) ≤ (k : Int) := fun k => by omega
  have w1 : ∀ k : Nat, k < 3 → IntKind.i64.wrap ((k : Int) + 1) = ((k + 1 : Nat) : Int) := fun k hk => by rw [wrap_i64 (by omega) (by omega)]; omega
  match i, hi with
  | 0, _ =>
    have r : readC (h7.get b) (0 * 1) 1 = some [.int .i64 x] := by rw [hb]; rfl
    by_cases e : x = 0
    · simp (disch := first | assumption | omega | (simp only [wkX, *]; done) | (simp only [wkY]; omega)) only [g3, g6, g7, g8, c3, c0, r, w1, e, Int.toNat_natCast, wkF, ↓reduceIte, reduceCtorEq, Nat.reduceAdd, wkG, wkH]
      exact Is_in ⟨2, by omega, 1, rfl, rfl, rfl, rfl, rfl, rfl, rfl, by omega, (by simp), by omega, by omega, rfl⟩
    · simp (disch := first | assumption | omega | (simp only [wkX, *]; done) | (simp only [wkY]; omega)) only [g3, g6, g7, g8, c3, c0, r, w1, e, Int.toNat_natCast, wkF, ↓reduceIte, reduceCtorEq, Nat.reduceAdd, wkG, wkH]
      refine Is_in ?_
      simp only [wkF, ↓reduceIte, reduceCtorEq, Nat.reduceAdd, wkG, wkH]
      exact leaf1 (by simp only [orZ]; rw [if_pos e]; rfl)
  | 1, _ =>
    have r : readC (h7.get b) (1 * 1) 1 = some [.int .i64 y] := by rw [hb]; rfl
    have ex := hx (by omega)
    by_cases e : y = 0
    · simp (disch := first | assumption | omega | (simp only [wkX, *]; done) | (simp only [wkY]; omega)) only [g3, g6, g7, g8, c3, c0, r, w1, e, Int.toNat_natCast, wkF, ↓reduceIte, reduceCtorEq, Nat.reduceAdd, wkG, wkH]
      exact Is_in ⟨1, by omega, 2, rfl, rfl, rfl, rfl, rfl, rfl, rfl, by omega, fun _ => ex, (by simp), by omega, rfl⟩
    · simp (disch := first | assumption | omega | (simp only [wkX, *]; done) | (simp only [wkY]; omega)) only [g3, g6, g7, g8, c3, c0, r, w1, e, Int.toNat_natCast, wkF, ↓reduceIte, reduceCtorEq, Nat.reduceAdd, wkG, wkH]
      refine Is_in ?_
      simp only [wkF, ↓reduceIte, reduceCtorEq, Nat.reduceAdd, wkG, wkH]
      exact leaf1 (by simp only [orZ]; rw [if_neg (by simpa using ex), if_pos e]; rfl)
  | 2, _ =>
    have r : readC (h7.get b) (2 * 1) 1 = some [.int .i64 z] := by rw [hb]; rfl
    have ex := hx (by omega)
    have ey := hy (by omega)
    by_cases e : z = 0
    · simp (disch := first | assumption | omega | (simp only [wkX, *]; done) | (simp only [wkY]; omega)) only [g3, g6, g7, g8, c3, c0, r, w1, e, Int.toNat_natCast, wkF, ↓reduceIte, reduceCtorEq, Nat.reduceAdd, wkG, wkH]
      exact Is_in ⟨0, by omega, 3, rfl, rfl, rfl, rfl, rfl, rfl, rfl, by omega, fun _ => ex, fun _ => ey, (by simp), rfl⟩
    · simp (disch := first | assumption | omega | (simp only [wkX, *]; done) | (simp only [wkY]; omega)) only [g3, g6, g7, g8, c3, c0, r, w1, e, Int.toNat_natCast, wkF, ↓reduceIte, reduceCtorEq, Nat.reduceAdd, wkG, wkH]
      refine Is_in ?_
      simp only [wkF, ↓reduceIte, reduceCtorEq, Nat.reduceAdd, wkG, wkH]
      exact leaf1 (by simp only [orZ]; rw [if_neg (by simpa using ex), if_neg (by simpa using ey)]; rfl)
  | 3, _ =>
    have ex := hx (by omega)
    have ey := hy (by omega)
    have ez := hz (by omega)
    simp only [g3, g6, g7, g8, wkF, ↓reduceIte, reduceCtorEq, Nat.reduceAdd, wkG, wkH]
    refine Is_in ?_
    simp only [wkF, ↓reduceIte, reduceCtorEq, Nat.reduceAdd, wkG, wkH]
    exact leaf1 (by simp only [orZ]; rw [if_neg (by simpa using ex), if_neg (by simpa using ey), ez]; rfl)
structure It where
  r : Int
  s : Int
  p : Int
deriving DecidableEq
def ic (x : It) : List Value := [.int .i64 x.r, .int .u64 x.s, .int .i64 x.p]
def iv (x : It) : Value := .agg #[.int .i64 x.r, .int .u64 x.s, .int .i64 x.p]
def cmpI (x y : It) : Int := orZ (cmpZ y.p x.p) (cmpZ x.s y.s) (cmpZ x.r y.r)
def le (x y : It) : Prop := y.p < x.p ∨ y.p = x.p ∧ (x.s < y.s ∨ x.s = y.s ∧ x.r ≤ y.r)
instance (x y : It) : Decidable (le x y) := by unfold le; infer_instance
theorem cmpI_lt (x y : It) : cmpI x y < 0 ↔ ¬ le y x := by
  unfold cmpI orZ cmpZ le
  split <;> (repeat' split) <;> omega
theorem le_refl (x : It) : le x x := by unfold le; omega
theorem le_trans {x y z : It} (h : le x y) (k : le y z) : le x z := by unfold le at *; omega
theorem le_total (x y : It) : le x y ∨ le y x := by unfold le; omega
theorem le_anti {x y : It} (h : le x y) (k : le y x) : x = y := by
  obtain ⟨a, b, c⟩ := x
  obtain ⟨d, e, f⟩ := y
  unfold le at *
  simp only at *
  have : a = d ∧ b = e ∧ c = f := by omega
  rw [this.1, this.2.1, this.2.2]
theorem ic_len (x : It) : (ic x).length = 3 := rfl
theorem ic_one (x : It) : (ic x).all oneCell = true := rfl
theorem iv_cells (x : It) : cellsOf (iv x) = ic x := rfl
theorem compare_ok {n : Nat} {h : Heap} (hn : 4 < n) (hf : h.Fine) (x y : It) : (callV env (n + 3) (.func (.func 76) #[] #[]) [iv x, iv y] h).Is fun p => p.1 = .int .i64 (cmpI x y) ∧ Ext h p.2 := by
  refine call_is env76 ?_
  unfold iv
  simp only [ir76, Nat.reduceAdd, Nat.reduceSub, wkF, ↓reduceIte, reduceCtorEq, wkN, wkG, wkH]
  refine X_drawn _ fun an => ?_
  have f1 := alloc_fine (o := .cells [.int .i64 x.r, .int .u64 x.s, .int .i64 x.p] 1 false) hf
  have f2 := alloc_fine (o := .cells [.int .i64 y.r, .int .u64 y.s, .int .i64 y.p] 1 false) f1
  have e2 : Ext h ((h.alloc (.cells [.int .i64 x.r, .int .u64 x.s, .int .i64 x.p] 1 false)).alloc (.cells [.int .i64 y.r, .int .u64 y.s, .int .i64 y.p] 1 false)) := ((Ext.refl h).alloc _).alloc _
  have gx : ((h.alloc (.cells [.int .i64 x.r, .int .u64 x.s, .int .i64 x.p] 1 false)).alloc (.cells [.int .i64 y.r, .int .u64 y.s, .int .i64 y.p] 1 false)).get (2 * h.next) = some (.cells [.int .i64 x.r, .int .u64 x.s, .int .i64 x.p] 1 false) := (get_alloc_old (by simp only [alloc_next]; omega)).trans (get_alloc_new hf)
  have gy : ((h.alloc (.cells [.int .i64 x.r, .int .u64 x.s, .int .i64 x.p] 1 false)).alloc (.cells [.int .i64 y.r, .int .u64 y.s, .int .i64 y.p] 1 false)).get (2 * (h.next + 1)) = some (.cells [.int .i64 y.r, .int .u64 y.s, .int .i64 y.p] 1 false) := get_alloc_new f1
  generalize ((h.alloc (.cells [.int .i64 x.r, .int .u64 x.s, .int .i64 x.p] 1 false)).alloc (.cells [.int .i64 y.r, .int .u64 y.s, .int .i64 y.p] 1 false)) = k at f2 e2 gx gy ⊢
  simp only [gx, gy, wkF, ↓reduceIte, reduceCtorEq, Nat.reduceAdd, Nat.reduceLeDiff, Nat.reduceMul, Nat.reduceLT, Nat.reduceEqDiff, wkG, wkH]
  refine DF_is (cmpZ_ok (n := n) _ _) ?_
  rintro v h1 ⟨rfl⟩
  simp only [gx, gy, wkF, ↓reduceIte, reduceCtorEq, Nat.reduceAdd, Nat.reduceLeDiff, Nat.reduceMul, Nat.reduceLT, Nat.reduceEqDiff, wkG, wkH]
  refine DF_is (cmpU_ok (n := n) _ _) ?_
  rintro v h1 ⟨rfl⟩
  simp only [gx, gy, wkF, ↓reduceIte, reduceCtorEq, Nat.reduceAdd, Nat.reduceLeDiff, Nat.reduceMul, Nat.reduceLT, Nat.reduceEqDiff, wkG, wkH]
  refine DB_is (cmpZ_ok (n := n) _ _) ?_
  rintro v h1 ⟨rfl⟩
  have bs : pBuildSlice k 1 3 [.int .i64 0] [(0, 1, .int .i64 (cmpZ y.p x.p)), (1, 1, .int .i64 (cmpZ x.s y.s)), (2, 1, .int .i64 (cmpZ x.r y.r))] = some (.slice (some ⟨2 * k.next, 0, none⟩) 3 3, k.alloc (.cells [.int .i64 (cmpZ y.p x.p), .int .i64 (cmpZ x.s y.s), .int .i64 (cmpZ x.r y.r)] 1 false)) := by
    unfold pBuildSlice; rfl
  simp only [bs, wkF, ↓reduceIte, reduceCtorEq, Nat.reduceAdd, wkG, wkH]
  refine DB_is (or_ok (n := n + 1) _ _ _ (by omega) (get_alloc_new f2)) ?_
  rintro v h1 ⟨rfl⟩
  simp only [wkF, ↓reduceIte, reduceCtorEq, Nat.reduceAdd, wkG, wkH]
  exact leaf1 ⟨rfl, e2.alloc _⟩
theorem cmp_ok {n : Nat} {h : Heap} (hn : 4 < n) (hf : h.Fine) (x y : It) : (callV env (n + 4) (.func (.func 75) #[] #[]) [iv x, iv y] h).Is fun p => p.1 = .int .i64 (cmpI x y) ∧ Ext h p.2 := by
  refine call_is env75 ?_
  unfold iv
  have f1 := alloc_fine (o := .cells [.int .i64 x.r, .int .u64 x.s, .int .i64 x.p] 1 false) hf
  have f2 := alloc_fine (o := .cells [.int .i64 y.r, .int .u64 y.s, .int .i64 y.p] 1 false) f1
  have e2 : Ext h ((h.alloc (.cells [.int .i64 x.r, .int .u64 x.s, .int .i64 x.p] 1 false)).alloc (.cells [.int .i64 y.r, .int .u64 y.s, .int .i64 y.p] 1 false)) := ((Ext.refl h).alloc _).alloc _
  have gx : ((h.alloc (.cells [.int .i64 x.r, .int .u64 x.s, .int .i64 x.p] 1 false)).alloc (.cells [.int .i64 y.r, .int .u64 y.s, .int .i64 y.p] 1 false)).get (2 * h.next) = some (.cells [.int .i64 x.r, .int .u64 x.s, .int .i64 x.p] 1 false) := (get_alloc_old (by simp only [alloc_next]; omega)).trans (get_alloc_new hf)
  have gy : ((h.alloc (.cells [.int .i64 x.r, .int .u64 x.s, .int .i64 x.p] 1 false)).alloc (.cells [.int .i64 y.r, .int .u64 y.s, .int .i64 y.p] 1 false)).get (2 * (h.next + 1)) = some (.cells [.int .i64 y.r, .int .u64 y.s, .int .i64 y.p] 1 false) := get_alloc_new f1
  simp only [ir75, Nat.reduceAdd, Nat.reduceSub, gx, gy, wkF, ↓reduceIte, reduceCtorEq, Nat.reduceLeDiff, Nat.reduceMul, Nat.reduceLT, Nat.reduceEqDiff, wkN, wkG, wkH]
  refine Z_is (compare_ok (n := n) hn f2 x y) ?_
  rintro v h1 ⟨rfl, e1⟩
  simp only [wkF, ↓reduceIte, reduceCtorEq, Nat.reduceAdd, wkG, wkH]
  exact leaf1 ⟨rfl, e2.trans e1⟩
theorem env82 : env 82 = some ir82 := rfl
theorem env77 : env 77 = some ir77 := rfl
theorem env74 : env 74 = some ir74 := rfl
theorem env78 : env 78 = some ir78 := rfl
def len8S : ByteArray := ⟨#[0, 1, 2, 2, 3, 3, 3, 3, 4, 4, 4, 4, 4, 4, 4, 4, 5, 5, 5, 5, 5, 5, 5, 5, 5, 5, 5, 5, 5, 5, 5, 5, 6, 6, 6, 6, 6, 6, 6, 6, 6, 6, 6, 6, 6, 6, 6, 6, 6, 6, 6, 6, 6, 6, 6, 6, 6, 6, 6, 6, 6, 6, 6, 6, 7, 7, 7, 7, 7, 7, 7, 7, 7, 7, 7, 7, 7, 7, 7, 7, 7, 7, 7, 7, 7, 7, 7, 7, 7, 7, 7, 7, 7, 7, 7, 7, 7, 7, 7, 7, 7, 7, 7, 7, 7, 7, 7, 7, 7, 7, 7, 7, 7, 7, 7, 7, 7, 7, 7, 7, 7, 7, 7, 7, 7, 7, 7, 7, 8, 8, 8, 8, 8, 8, 8, 8, 8, 8, 8, 8, 8, 8, 8, 8, 8, 8, 8, 8, 8, 8, 8, 8, 8, 8, 8, 8, 8, 8, 8, 8, 8, 8, 8, 8, 8, 8, 8, 8, 8, 8, 8, 8, 8, 8, 8, 8, 8, 8, 8, 8, 8, 8, 8, 8, 8, 8, 8, 8, 8, 8, 8, 8, 8, 8, 8, 8, 8, 8, 8, 8, 8, 8, 8, 8, 8, 8, 8, 8, 8, 8, 8, 8, 8, 8, 8, 8, 8, 8, 8, 8, 8, 8, 8, 8, 8, 8, 8, 8, 8, 8, 8, 8, 8, 8, 8, 8, 8, 8, 8, 8, 8, 8, 8, 8, 8, 8, 8, 8, 8, 8, 8, 8, 8, 8, 8, 8]⟩
def irLv (s : ByteArray) : IFunc :=
{ ntmps := 25, results := [.tmp 2], body :=
  (.seq (.region [
    ⟨(some 2), .move (.const (.int .i64 0)), none, [], true⟩])
  (.seq (.seq (.region [
    ⟨(some 3), .move (.tmp 0), none, [], true⟩,
    ⟨(some 4), .bin .geq (.tmp 3) (.const (.int .u64 4294967296)), none, [], true⟩])
  (.cond (.tmp 4)
   (.seq (.region [
     ⟨(some 5), .move (.tmp 0), none, [], true⟩,
     ⟨(some 6), .bin .shr (.tmp 5) (.const (.int .u64 32)), none, [], true⟩,
     ⟨(some 0), .move (.tmp 6), none, [], true⟩])
   (.region [
     ⟨(some 2), .move (.const (.int .i64 32)), none, [], true⟩]))
   .skip))
  (.seq (.seq (.region [
    ⟨(some 7), .move (.tmp 0), none, [], true⟩,
    ⟨(some 8), .bin .geq (.tmp 7) (.const (.int .u64 65536)), none, [], true⟩])
  (.cond (.tmp 8)
   (.seq (.region [
     ⟨(some 9), .move (.tmp 0), none, [], true⟩,
     ⟨(some 10), .bin .shr (.tmp 9) (.const (.int .u64 16)), none, [], true⟩,
     ⟨(some 0), .move (.tmp 10), none, [], true⟩])
   (.region [
     ⟨(some 11), .move (.tmp 2), none, [], true⟩,
     ⟨(some 12), .bin .add (.tmp 11) (.const (.int .i64 16)), none, [], true⟩,
     ⟨(some 2), .move (.tmp 12), none, [], true⟩]))
   .skip))
  (.seq (.seq (.region [
    ⟨(some 13), .move (.tmp 0), none, [], true⟩,
    ⟨(some 14), .bin .geq (.tmp 13) (.const (.int .u64 256)), none, [], true⟩])
  (.cond (.tmp 14)
   (.seq (.region [
     ⟨(some 15), .move (.tmp 0), none, [], true⟩,
     ⟨(some 16), .bin .shr (.tmp 15) (.const (.int .u64 8)), none, [], true⟩,
     ⟨(some 0), .move (.tmp 16), none, [], true⟩])
   (.region [
     ⟨(some 17), .move (.tmp 2), none, [], true⟩,
     ⟨(some 18), .bin .add (.tmp 17) (.const (.int .i64 8)), none, [], true⟩,
     ⟨(some 2), .move (.tmp 18), none, [], true⟩]))
   .skip))
  (.seq (.region [
    ⟨(some 19), .move (.tmp 2), none, [], true⟩,
    ⟨(some 20), .move (.tmp 0), none, [], true⟩,
    ⟨(some 21), .conv .u8 (.tmp 20), none, [], true⟩,
    ⟨(some 22), .indexStr (.const (.string s)) (.tmp 21), none, [], true⟩,
    ⟨(some 23), .conv .i64 (.tmp 22), none, [], true⟩,
    ⟨(some 24), .bin .add (.tmp 19) (.tmp 23), none, [], true⟩,
    ⟨(some 2), .move (.tmp 24), none, [], true⟩])
  .ret))))) }
theorem env91 : env 91 = some (irLv len8S) := rfl
theorem len8S_size : len8S.data.toList.length = 256 := by decide +kernel
theorem index8 {x : Nat} (hx : x < 256) : ∃ k : Nat, k < 256 ∧ vIndexStr (.string len8S) (.int .u8 (x : Int)) = some (.int .u8 (k : Int)) := by
  have h := len8S_size
  have h2 : len8S.data.toList[x]? = some (len8S.data.toList[x]'(by omega)) := List.getElem?_eq_getElem (by omega)
  generalize len8S.data.toList[x]'(by omega) = c at h2
  refine ⟨c.toNat, c.toNat_lt, ?_⟩
  simp only [vIndexStr, Int.toNat_natCast]
  rw [if_pos (Int.natCast_nonneg x), h2]
attribute [local irreducible] len8S
def it0 : It := ⟨0, 0, 0⟩
def nth (l : List It) (k : Nat) : It := l.getD k it0
theorem nth_get {l : List It} {k : Nat} (h : k < l.length) : l[k]? = some (nth l k) := by
  unfold nth
  rw [List.getD_eq_getElem?_getD, List.getElem?_eq_getElem h]
  rfl
theorem nth_set {l : List It} {i k : Nat} {x : It} (hi : i < l.length) : nth (l.set i x) k = if k = i then x else nth l k := by
  unfold nth
  rw [List.getD_eq_getElem?_getD, List.getD_eq_getElem?_getD, List.getElem?_set]
  by_cases h : i = k
  · subst h; simp [hi]
  · rw [if_neg h, if_neg (Ne.symm h)]
def one (p : Prop) [Decidable p] : Nat := if p then 1 else 0
theorem cnt_set {l : List It} {i : Nat} {x : It} (y : It) (hi : i < l.length) : (l.set i x).count y + one (nth l i = y) = l.count y + one (x = y) := by
  have h1 := List.count_set (l := l) (i := i) (a := x) (b := y) hi
  have h2 : l[i] = nth l i := by
    have := nth_get hi
    rw [List.getElem?_eq_getElem hi] at this
    exact Option.some.inj this
  rw [h2] at h1
  have h3 : nth l i = y → 0 < l.count y := by
    rintro rfl
    exact List.count_pos_iff.2 (by rw [← h2]; exact List.getElem_mem hi)
  unfold one
  rw [h1]
  by_cases e1 : nth l i = y <;> by_cases e2 : x = y <;> simp [e1, e2] <;> (have := h3 e1; omega)
theorem cnt_cons (x : It) (l : List It) (y : It) : (x :: l).count y = l.count y + one (x = y) := by
  unfold one
  rw [List.count_cons]
  by_cases e : x = y <;> simp [e]
structure SP (lo hi : Nat) (a b : List It) : Prop where
  len : b.length = a.length
  cnt : ∀ y, b.count y = a.count y
  out : ∀ k, (k < lo ∨ hi ≤ k) → nth b k = nth a k
  all : ∀ P : It → Prop, (∀ k, lo ≤ k → k < hi → P (nth a k)) → ∀ k, lo ≤ k → k < hi → P (nth b k)
theorem SP.refl (lo hi : Nat) (a : List It) : SP lo hi a a := ⟨rfl, fun _ => rfl, fun _ _ => rfl, fun _ h => h⟩
theorem SP.trans {lo hi : Nat} {a b c : List It} (h : SP lo hi a b) (k : SP lo hi b c) : SP lo hi a c :=
  ⟨k.len.trans h.len, fun y => (k.cnt y).trans (h.cnt y), fun i hi => (k.out i hi).trans (h.out i hi), fun P hp => k.all P (h.all P hp)⟩
theorem SP.swap {lo hi i j : Nat} {a : List It} (h1 : lo ≤ i) (h2 : i < hi) (h3 : lo ≤ j) (h4 : j < hi) (hl : hi ≤ a.length) : SP lo hi a ((a.set i (nth a j)).set j (nth a i)) := by
  have li : i < a.length := by omega
  have lj : j < (a.set i (nth a j)).length := by rw [List.length_set]; omega
  refine ⟨by simp, fun y => ?_, fun k hk => ?_, fun P hp k k1 k2 => ?_⟩
  · have c1 := cnt_set (l := a) (i := i) (x := nth a j) y li
    have c2 := cnt_set (l := a.set i (nth a j)) (i := j) (x := nth a i) y lj
    rw [nth_set li] at c2
    by_cases e : j = i
    · subst e
      rw [if_pos rfl] at c2
      omega
    · rw [if_neg e] at c2
      omega
  · rw [nth_set lj, nth_set li, if_neg (by omega), if_neg (by omega)]
  · rw [nth_set lj, nth_set li]
    split
    · exact hp i h1 h2
    · split
      · exact hp j h3 h4
      · exact hp k k1 k2
def Sorted (a : List It) (lo hi : Nat) : Prop := ∀ i j, lo ≤ i → i < j → j < hi → le (nth a i) (nth a j)
structure Arr (h : Heap) (b : Nat) (a : List It) (rest : List Value) (zz : Nat) (t : Bool) : Prop where
  at_ : h.get b = some (.cells (a.flatMap ic ++ rest) zz t)
  even : b % 2 = 0
  fl : h.floor ≤ b / 2 ∨ b / 2 ∈ h.may
  lt : b < 2 * h.next
theorem Arr.ext {h h' : Heap} {b : Nat} {a : List It} {rest : List Value} {zz : Nat} {t : Bool} (A : Arr h b a rest zz t) (e : Ext h h') : Arr h' b a rest zz t :=
  ⟨(e.old b (Or.inr A.lt)).trans A.at_, A.even, by rw [e.floor, e.may]; exact A.fl, by have := e.next; have := A.lt; omega⟩
theorem Arr.rd {h : Heap} {b : Nat} {a : List It} {rest : List Value} {zz : Nat} {t : Bool} (A : Arr h b a rest zz t) {k : Nat} (hk : k < a.length) : readC (h.get b) (k * 3) 3 = some (ic (nth a k)) := rd_all ic_len (nth_get hk) A.at_
theorem Arr.wr {h : Heap} {b : Nat} {a : List It} {rest : List Value} {zz : Nat} {t : Bool} (A : Arr h b a rest zz t) {k : Nat} (hk : k < a.length) (x : It) : writeC (h.get b) h b (k * 3) (ic x) = some (h.setB b (.cells ((a.set k x).flatMap ic ++ rest) zz t)) := wr_at ic_len ic_one hk A.at_ (decide_eq_true ⟨A.even, A.fl⟩)
theorem Arr.set {h : Heap} {b : Nat} {a a' : List It} {rest : List Value} {zz : Nat} {t : Bool} (A : Arr h b a rest zz t) : Arr (h.setB b (.cells (a'.flatMap ic ++ rest) zz t)) b a' rest zz t :=
  ⟨get_setB_same A.even (by rw [A.at_]; rfl), A.even, A.fl, A.lt⟩
structure Ins (a : List It) (lo i j : Nat) : Prop where
  sorted : ∀ p q, lo ≤ p → p < q → q ≤ i → p ≠ j → q ≠ j → le (nth a p) (nth a q)
  above : ∀ q, j < q → q ≤ i → le (nth a j) (nth a q)
theorem Ins.start {a : List It} {lo i : Nat} (h : Sorted a lo i) : Ins a lo i i := ⟨fun p q h1 h2 h3 h4 h5 => h p q h1 h2 (by omega), fun q h1 h2 => by omega⟩
theorem Ins.done {a : List It} {lo i j : Nat} (h : Ins a lo i j) (hj : lo ≤ j) (hji : j ≤ i) (hx : lo < j → le (nth a (j - 1)) (nth a j)) : Sorted a lo (i + 1) := by
  intro p q h1 h2 h3
  by_cases e1 : p = j
  · subst e1; exact h.above q h2 (by omega)
  · by_cases e2 : q = j
    · subst e2
      by_cases e3 : p = q - 1
      · subst e3; exact hx (by omega)
      · exact le_trans (h.sorted p (q - 1) h1 (by omega) (by omega) e1 (by omega)) (hx (by omega))
    · exact h.sorted p q h1 h2 (by omega) e1 e2
theorem Ins.step {a : List It} {lo i j : Nat} (h : Ins a lo i j) (hj : lo < j) (hji : j ≤ i) (hi : i < a.length) (hx : ¬ le (nth a (j - 1)) (nth a j)) : Ins ((a.set j (nth a (j - 1))).set (j - 1) (nth a j)) lo i (j - 1) := by
  have lj : j < a.length := by omega
  have lj' : j - 1 < (a.set j (nth a (j - 1))).length := by rw [List.length_set]; omega
  have hle : le (nth a j) (nth a (j - 1)) := (le_total _ _).resolve_right hx
  constructor
  · intro p q h1 h2 h3 h4 h5
    rw [nth_set lj', nth_set lj', nth_set lj, nth_set lj, if_neg h4, if_neg h5]
    by_cases e1 : p = j
    · subst e1
      rw [if_pos rfl, if_neg (by omega)]
      exact h.sorted (p - 1) q (by omega) (by omega) h3 (by omega) (by omega)
    · rw [if_neg e1]
      by_cases e2 : q = j
      · subst e2
        rw [if_pos rfl]
        exact h.sorted p (q - 1) h1 (by omega) (by omega) e1 (by omega)
      · rw [if_neg e2]
        exact h.sorted p q h1 h2 h3 e1 e2
  · intro q h1 h2
    rw [nth_set lj', nth_set lj', nth_set lj, nth_set lj, if_pos rfl, if_neg (by omega)]
    by_cases e : q = j
    · subst e; rw [if_pos rfl]; exact hle
    · rw [if_neg e]; exact h.above q (by omega) h2
theorem insertion_ok {n b lo hi cap zz : Nat} {sp : Option Nat} {h : Heap} {a : List It} {rest : List Value} {t : Bool} (hn : a.length + 20 < n) (hl : a.length < 1000000) (hf : h.Fine) (A : Arr h b a rest zz t) (hlo : lo ≤ hi) (hhi : hi ≤ a.length) :
    (callV env (n + 5) (.func (.func 82) #[] #[]) [.slice (some ⟨b, 0, sp⟩) a.length cap, .int .i64 (lo : Int), .int .i64 (hi : Int), .func (.func 75) #[] #[]] h).Is fun p => ∃ a', Arr p.2 b a' rest zz t ∧ SP lo hi a a' ∧ Sorted a' lo hi ∧ Chg (fun y => y = b) h p.2 := by
  refine call_is env82 ?_
  have x0 : IntKind.i64.wrap ((lo : Int) + 1) = ((lo + 1 : Nat) : Int) := by rw [wrap_i64 (by omega) (by omega)]; omega
  simp only [ir82, Nat.reduceAdd, Nat.reduceSub, x0, wkF, ↓reduceIte, reduceCtorEq, wkN, wkG, wkH]
  refine L_is (fun q s => ∃ (i : Nat) (a1 : List It), s.defers = [] ∧ s.tmps.length = 53 ∧ s.tmps.getD 0 undefV = .slice (some ⟨b, 0, sp⟩) a.length cap ∧ s.tmps.getD 1 undefV = .int .i64 (lo : Int) ∧ s.tmps.getD 2 undefV = .int .i64 (hi : Int) ∧ s.tmps.getD 3 undefV = .func (.func 75) #[] #[] ∧ s.tmps.getD 8 undefV = .int .i64 (i : Int) ∧ q = hi + 1 - i ∧ lo + 1 ≤ i ∧ i ≤ hi + 1 ∧ Arr s.h b a1 rest zz t ∧ SP lo hi a a1 ∧ Sorted a1 lo i ∧ Chg (fun y => y = b) h s.h) (hi + 1 - (lo + 1)) ?_ (by omega) ?_
  · exact ⟨lo + 1, a, rfl, rfl, rfl, rfl, rfl, rfl, rfl, by omega, Nat.le_refl _, by omega, A, SP.refl _ _ _, fun i j h1 h2 h3 => by omega, Chg.refl _ _⟩
  clear A
  rintro q tm df h1 ⟨i, a1, hd, hlen_, g0, g1, g2, g3, g8, hq, hi0, hi1, A, S, so, C⟩
  simp only at hd g0 g1 g2 g3 g8 A C
  subst hd
  obtain ⟨w, hg_, rfl⟩ := explode hlen_
  simp only [hg_] at g0 g1 g2 g3 g8
  clear hlen_ hg_
  by_cases hlt : i < hi
  · have hlt' : (i : Int) < (hi : Int) := by omega
    simp only [g0, g1, g2, g3, g8, hlt', wkF, ↓reduceIte, reduceCtorEq, Nat.reduceAdd, wkG, wkH]
    have so0 := so
    have S1 := S
    refine L_is (fun q s => ∃ (j : Nat) (a2 : List It), s.defers = [] ∧ s.tmps.length = 53 ∧ s.tmps.getD 0 undefV = .slice (some ⟨b, 0, sp⟩) a.length cap ∧ s.tmps.getD 1 undefV = .int .i64 (lo : Int) ∧ s.tmps.getD 2 undefV = .int .i64 (hi : Int) ∧ s.tmps.getD 3 undefV = .func (.func 75) #[] #[] ∧ s.tmps.getD 8 undefV = .int .i64 (i : Int) ∧ s.tmps.getD 9 undefV = .int .i64 (j : Int) ∧ q = j ∧ lo ≤ j ∧ j ≤ i ∧ Arr s.h b a2 rest zz t ∧ SP lo hi a a2 ∧ Ins a2 lo i j ∧ Chg (fun y => y = b) h s.h) i ?_ (by omega) ?_
    · exact ⟨i, a1, rfl, rfl, rfl, rfl, rfl, rfl, rfl, rfl, rfl, by omega, Nat.le_refl _, A, S, Ins.start so0, C⟩
    clear A S C so so0 S1 g0 g1 g2 g3 g8
    rintro q2 tm df h2 ⟨j, a2, hd, hlen_, g0, g1, g2, g3, g8, g9, hq2, hj0, hj1, A, S, I, C⟩
    simp only at hd g0 g1 g2 g3 g8 g9 A C
    subst hd
    obtain ⟨w, hg_, rfl⟩ := explode hlen_
    simp only [hg_] at g0 g1 g2 g3 g8 g9
    clear hlen_ hg_
    have hl2 := S.len
    have z1 : IntKind.i64.wrap ((i : Int) + 1) = ((i + 1 : Nat) : Int) := by rw [wrap_i64 (by omega) (by omega)]; omega
    by_cases hjl : lo < j
    · have hjl' : (lo : Int) < (j : Int) := by omega
      have y1 : IntKind.i64.wrap ((j : Int) - 1) = ((j - 1 : Nat) : Int) := by rw [wrap_i64 (by omega) (by omega)]; omega
      have r1 := A.rd (k := j) (by omega)
      have r2 := A.rd (k := j - 1) (by omega)
      have c1 : (0 : Int) ≤ (j : Int) := by omega
      have c2 : (j : Int) < (a.length : Int) := by omega
      have c3 : (0 : Int) ≤ ((j - 1 : Nat) : Int) := by omega
      have c4 : ((j - 1 : Nat) : Int) < (a.length : Int) := by omega
      unfold ic at r1 r2
      simp only [g0, g1, g2, g3, g8, g9, wkF, ↓reduceIte, reduceCtorEq, Nat.reduceAdd, wkG, wkH]
      refine X_drawn _ fun an => ?_
      simp only [g0, g1, g2, g3, g8, g9, hjl', y1, r1, r2, c1, c2, c3, c4, Int.toNat_natCast, wkF, ↓reduceIte, reduceCtorEq, Nat.reduceAdd, wkG, wkH]
      refine DB_is (cmp_ok (n := n) (by omega) (C.fine hf) (nth a2 j) (nth a2 (j - 1))) ?_
      rintro v3 h3 ⟨rfl, e3⟩
      simp only at e3
      have A3 := A.ext e3
      have C3 := C.trans (e3.chg _)
      by_cases hc : cmpI (nth a2 j) (nth a2 (j - 1)) < 0
      · have r1 := A3.rd (k := j) (by omega)
        have r2 := A3.rd (k := j - 1) (by omega)
        have w1 := A3.wr (k := j) (by omega) (nth a2 (j - 1))
        have A4 := A3.set (a' := a2.set j (nth a2 (j - 1)))
        have w2 := A4.wr (k := j - 1) (by rw [List.length_set]; omega) (nth a2 j)
        unfold ic at r1 r2
        unfold ic at w1 w2
        simp only [hc, wkF, ↓reduceIte, reduceCtorEq, Nat.reduceAdd, wkG, wkH]
        refine X_drawn _ fun an => ?_
        simp only [r1, r2, w1, w2, y1, c1, c2, c3, c4, Int.toNat_natCast, wkF, ↓reduceIte, reduceCtorEq, Nat.reduceAdd, wkG, wkH]
        exact Is_in ⟨j - 1, by omega, j - 1, _, rfl, rfl, rfl, rfl, rfl, rfl, rfl, rfl, rfl, by omega, by omega, A4.set, S.trans (SP.swap (by omega) (by omega) (by omega) (by omega) (by omega)), I.step hjl hj1 (by omega) ((cmpI_lt _ _).1 hc), (C3.setB _ _ A.even (fun _ => rfl)).setB _ _ A.even (fun _ => rfl)⟩
      · simp only [hc, wkF, ↓reduceIte, reduceCtorEq, Nat.reduceAdd, wkG, wkH]
        refine Is_in ?_
        simp only [z1, wkF, ↓reduceIte, reduceCtorEq, Nat.reduceAdd, wkG, wkH]
        exact Is_in ⟨hi + 1 - (i + 1), by omega, i + 1, a2, rfl, rfl, rfl, rfl, rfl, rfl, rfl, rfl, by omega, by omega, A3, S, I.done (by omega) hj1 (fun _ => Decidable.byContradiction fun e => hc ((cmpI_lt _ _).2 e)), C3⟩
    · have hjl' : ¬ (lo : Int) < (j : Int) := by omega
      simp only [g0, g1, g2, g3, g8, g9, wkF, ↓reduceIte, reduceCtorEq, Nat.reduceAdd, wkG, wkH]
      refine X_drawn _ fun an => ?_
      simp only [g0, g1, g2, g3, g8, g9, hjl', wkF, ↓reduceIte, reduceCtorEq, Nat.reduceAdd, wkG, wkH]
      refine Is_in ?_
      simp only [z1, wkF, ↓reduceIte, reduceCtorEq, Nat.reduceAdd, wkG, wkH]
      exact Is_in ⟨hi + 1 - (i + 1), by omega, i + 1, a2, rfl, rfl, rfl, rfl, rfl, rfl, rfl, rfl, by omega, by omega, A, S, I.done (by omega) hj1 (fun e => absurd e hjl), C⟩
  · have hlt' : ¬ (i : Int) < (hi : Int) := by omega
    simp only [g0, g1, g2, g3, g8, hlt', wkF, ↓reduceIte, reduceCtorEq, Nat.reduceAdd, wkG, wkH]
    refine Is_in ?_
    simp only [wkF, ↓reduceIte, reduceCtorEq, Nat.reduceAdd, wkG, wkH]
    exact leaf0n ⟨a1, A, S, fun p q h1 h2 h3 => so p q h1 h2 (by omega), C⟩
theorem len64_ok {n x : Nat} {h : Heap} (hx : x < 256) : (callV env (n + 1) (.func (.func 91) #[] #[]) [.int .u64 (x : Int)] h).Is fun p => (∃ k : Nat, k < 256 ∧ p.1 = .int .i64 (k : Int)) ∧ p.2 = h := by
  refine call_is env91 ?_
  obtain ⟨k, hk, e⟩ := index8 hx
  have c1 : ¬ (4294967296 : Int) ≤ (x : Int) := by omega
  have c2 : ¬ (65536 : Int) ≤ (x : Int) := by omega
  have c3 : ¬ (256 : Int) ≤ (x : Int) := by omega
  have y1 : IntKind.u8.wrap (x : Int) = (x : Int) := by rw [wrap_u8_mod]; omega
  have y2 : IntKind.i64.wrap (k : Int) = (k : Int) := wrap_i64 (by omega) (by omega)
  have y3 : IntKind.i64.wrap (0 + (k : Int)) = (k : Int) := by rw [Int.zero_add]; exact y2
  simp only [irLv, Nat.reduceAdd, Nat.reduceSub, c1, c2, c3, y1, y2, y3, e, wkF, ↓reduceIte, reduceCtorEq, wkN, wkG, wkH]
  exact leaf1 ⟨⟨k, hk, rfl⟩, rfl⟩
theorem len_ok' {n x : Nat} {h : Heap} (hx : x < 256) : (callV env (n + 2) (.func (.func 78) #[] #[]) [.int .u64 (x : Int)] h).Is fun p => (∃ k : Nat, k < 256 ∧ p.1 = .int .i64 (k : Int)) ∧ p.2 = h := by
  refine call_is env78 ?_
  simp only [ir78, Nat.reduceAdd, Nat.reduceSub, wkF, ↓reduceIte, reduceCtorEq, wkN, wkG, wkH]
  refine Z_is (len64_ok (n := n) hx) ?_
  rintro v h1 ⟨⟨k, hk, rfl⟩, rfl⟩
  simp only [wkF, ↓reduceIte, reduceCtorEq, Nat.reduceAdd, wkG, wkH]
  exact leaf1 ⟨⟨k, hk, rfl⟩, rfl⟩
theorem pdq_few {n b cap zz : Nat} {sp : Option Nat} {lim : Value} {h : Heap} {a : List It} {rest : List Value} {t : Bool} (hn : a.length + 20 < n) (hl : a.length ≤ 12) (hf : h.Fine) (A : Arr h b a rest zz t) :
    (callV env (n + 6) (.func (.func 77) #[] #[]) [.slice (some ⟨b, 0, sp⟩) a.length cap, .int .i64 0, .int .i64 (a.length : Int), lim, .func (.func 75) #[] #[]] h).Is fun p => ∃ a', Arr p.2 b a' rest zz t ∧ SP 0 a.length a a' ∧ Sorted a' 0 a.length ∧ Chg (fun y => y = b) h p.2 := by
  refine call_is env77 ?_
  simp only [ir77, Nat.reduceAdd, Nat.reduceSub, wkF, ↓reduceIte, reduceCtorEq, wkN, wkG, wkH]
  refine L_is (fun q s => s.defers = [] ∧ s.tmps.length = 148 ∧ s.tmps.getD 0 undefV = .slice (some ⟨b, 0, sp⟩) a.length cap ∧ s.tmps.getD 1 undefV = .int .i64 0 ∧ s.tmps.getD 2 undefV = .int .i64 (a.length : Int) ∧ s.tmps.getD 4 undefV = .func (.func 75) #[] #[] ∧ s.h = h) 0 ?_ (by omega) ?_
  · exact ⟨rfl, rfl, rfl, rfl, rfl, rfl, rfl⟩
  rintro q tm df h1 ⟨hd, hlen_, g0, g1, g2, g4, hh⟩
  simp only at hd hh g0 g1 g2 g4
  subst hd hh
  obtain ⟨w, hg_, rfl⟩ := explode hlen_
  simp only [hg_] at g0 g1 g2 g4
  clear hlen_ hg_
  have y1 : IntKind.i64.wrap ((a.length : Int) - 0) = (a.length : Int) := by rw [wrap_i64 (by omega) (by omega)]; omega
  have c1 : (a.length : Int) ≤ 12 := by omega
  simp only [g0, g1, g2, g4, y1, c1, wkF, ↓reduceIte, reduceCtorEq, Nat.reduceAdd, wkG, wkH]
  refine Z_is (insertion_ok (n := n) (lo := 0) hn (by omega) hf A (Nat.zero_le _) (Nat.le_refl _)) ?_
  rintro v2 h2 ⟨a', A', S', so, C⟩
  simp only [wkF, ↓reduceIte, reduceCtorEq, Nat.reduceAdd, wkG, wkH]
  refine Is_in ?_
  simp only [wkF, ↓reduceIte, reduceCtorEq, Nat.reduceAdd, wkG, wkH]
  exact leaf0 ⟨a', A', S', so, C⟩
theorem sort_few {n b cap zz : Nat} {sp : Option Nat} {h : Heap} {a : List It} {rest : List Value} {t : Bool} (hn : a.length + 20 < n) (hl : a.length ≤ 12) (hf : h.Fine) (A : Arr h b a rest zz t) :
    (callV env (n + 7) (.func (.func 74) #[] #[]) [.slice (some ⟨b, 0, sp⟩) a.length cap, .func (.func 75) #[] #[]] h).Is fun p => ∃ a', Arr p.2 b a' rest zz t ∧ SP 0 a.length a a' ∧ Sorted a' 0 a.length ∧ Chg (fun y => y = b) h p.2 := by
  refine call_is env74 ?_
  have y1 : IntKind.u64.wrap (a.length : Int) = (a.length : Int) := wrap_u64 (by omega) (by omega)
  simp only [ir74, Nat.reduceAdd, Nat.reduceSub, y1, wkF, ↓reduceIte, reduceCtorEq, wkN, wkG, wkH]
  refine Z_is (len_ok' (n := n + 4) (by omega)) ?_
  rintro v1 h1 ⟨⟨k, hk, rfl⟩, rfl⟩
  simp only [wkF, ↓reduceIte, reduceCtorEq, Nat.reduceAdd, wkG, wkH]
  refine Z_is (pdq_few (n := n) hn hl hf A) ?_
  rintro v2 h2 ⟨a', A', S', so, C⟩
  simp only [wkF, ↓reduceIte, reduceCtorEq, Nat.reduceAdd, wkG, wkH]
  exact leaf0n ⟨a', A', S', so, C⟩
theorem count_zero {a : List It} (h : ∀ y, a.count y = 0) : a = [] := by
  rcases a with _ | ⟨x, a⟩
  · rfl
  · have := h x
    simp at this
theorem sorted_uniq : ∀ {a b : List It}, Sorted a 0 a.length → Sorted b 0 b.length → (∀ y, a.count y = b.count y) → a = b
  | [], b, _, _, h => (count_zero fun y => (h y).symm).symm
  | x :: a, [], _, _, h => by
    have := h x
    simp at this
  | x :: a, y :: b, ha, hb, h => by
    have least : ∀ {x : It} {a : List It} {z : It}, Sorted (x :: a) 0 (x :: a).length → z ∈ x :: a → le x z := by
      intro x a z hs hz
      obtain ⟨k, hk, rfl⟩ := List.mem_iff_getElem.1 hz
      rcases k with _ | k
      · exact le_refl _
      · have := hs 0 (k + 1) (by omega) (by omega) hk
        have e1 : nth (x :: a) 0 = x := rfl
        have e2 := nth_get hk
        rw [List.getElem?_eq_getElem hk] at e2
        rw [e1] at this
        rw [Option.some.inj e2]
        exact this
    have tail : ∀ {x : It} {a : List It}, Sorted (x :: a) 0 (x :: a).length → Sorted a 0 a.length := by
      intro x a hs i j h1 h2 h3
      have := hs (i + 1) (j + 1) (by omega) (by omega) (by simpa using h3)
      exact this
    have mx : x ∈ y :: b := List.count_pos_iff.1 (by rw [← h x]; simp)
    have my : y ∈ x :: a := List.count_pos_iff.1 (by rw [h y]; simp)
    have e : x = y := le_anti (least ha my) (least hb mx)
    subst e
    rw [sorted_uniq (tail ha) (tail hb) fun z => by
      have := h z
      rw [cnt_cons, cnt_cons] at this
      omega]
end Go.Proofs.Ytmpnldmdchchjaa
namespace Go.Ideal
open Go
section
variable {call : Caller} {fuel : Nat} {ar : Option Nat} {tm : List Value} {df : List Nat} {h : Heap} {K : List Fr} {r : List IOper} {d : Option Nat} {anc : List Nat} {bar : Bool}
theorem round_is2 {l : Nat} {args : List Value} {lp : ILoop} {Q : Value × Heap → Prop} (hg : h.get l = some (.loop lp)) (hlen : args.length = lp.params.length)
    (hx : (X call fuel (some l) lp.assign (setParams lp.tmps lp.params args) [] h []).Is fun p => p.1 = .normal ∧ ∃ lp1, p.2.h.get l = some (.loop lp1) ∧ lp1.state = .ready ∧ canPut p.2.h l = true ∧
      (X call fuel (some l) lp.body p.2.tmps p.2.defers (p.2.h.setB l (.loop { lp1 with state := .busy })) []).Is fun q => ∃ lp3, q.2.h.get l = some (.loop lp3) ∧ canPut q.2.h l = true ∧ Q (.bool (onOf q.1), q.2.h.setB l (.loop { lp3 with state := if onOf q.1 then .ready else .done, pending := q.1 }))) :
    (round call fuel l args h).Is Q := by
  unfold round
  simp only [hg, hlen, if_true]
  rw [exec_X]
  refine T.Is.bind hx fun p hp => ?_
  obtain ⟨e, s⟩ := p
  obtain ⟨h1, lp1, h2, hst, hcan, h3⟩ := hp
  simp only at h1 h2 h3 hcan
  subst h1
  simp only [h2, hst, if_true, put_eq _ h2, hcan]
  have : exec call fuel (some l) lp.body { s with h := s.h.setB l (.loop { lp1 with state := .busy }) } = X call fuel (some l) lp.body s.tmps s.defers (s.h.setB l (.loop { lp1 with state := .busy })) [] := exec_X _
  rw [this]
  refine T.Is.bind h3 fun q hq => ?_
  obtain ⟨e, s3⟩ := q
  obtain ⟨lp3, q1, q2, q3⟩ := hq
  simp only at q1 q2 q3
  simp only [q1, put_eq _ q1, q2, if_true]
  cases e <;> exact q3
end
end Go.Ideal
namespace Go.Proofs.Ytmpnldmdchchjaa
open Go Go.Ideal Go.ChangeShapes Go.RowKit
set_option maxHeartbeats 0
set_option linter.unusedSimpArgs false
set_option linter.unusedVariables false
set_option maxRecDepth 100000
attribute [local irreducible] callV T.All T.Is run
theorem env67 : env 67 = some ir67 := rfl
theorem env69 : env 69 = some ir69 := rfl
theorem env73 : env 73 = some ir73 := rfl
structure QAt (h : Heap) (qb : Nat) (v : Value) (sb : Option Nat) (l : List It) : Prop where
  at_ : h.get qb = some (.cells [v] 1 false)
  sl : Sl 3 ic h v sb l
  even : qb % 2 = 0
  fl : h.floor ≤ qb / 2 ∨ qb / 2 ∈ h.may
  lt : qb < 2 * h.next
  ne : some qb ≠ sb
def qS (qb : Nat) (sb : Option Nat) (x : Nat) : Prop := x = qb ∨ some x = sb
theorem QAt.chg {S : Nat → Prop} {h h' : Heap} {qb : Nat} {v : Value} {sb : Option Nat} {l : List It} (p : QAt h qb v sb l) (hc : Chg S h h') (h1 : ¬ S qb) (h2 : ∀ b, some b = sb → ¬ S b) : QAt h' qb v sb l :=
  ⟨(hc.old qb (Or.inr p.lt) h1).trans p.at_, p.sl.chg hc h2, p.even, by rw [hc.floor, hc.may]; exact p.fl, Nat.lt_of_lt_of_le p.lt (by have := hc.next; omega), p.ne⟩
theorem QAt.ext {h h' : Heap} {qb : Nat} {v : Value} {sb : Option Nat} {l : List It} (p : QAt h qb v sb l) (e : Ext h h') : QAt h' qb v sb l := p.chg (e.chg fun _ => False) id (fun _ _ => id)
def IsPlace (l : List It) (r k : Int) : Prop := (k = -1 ∧ ∀ j, j < l.length → (nth l j).r ≠ r) ∨ ∃ i : Nat, k = (i : Int) ∧ i < l.length ∧ (nth l i).r = r ∧ ∀ j, j < i → (nth l j).r ≠ r
def pAsg : ICode :=
   (.seq (.region [
     ⟨(some 6), .move (.tmp 10), none, [], true⟩])
   (.region [
     ⟨(some 7), .box (.const (.agg #[(.int .i64 0), (.int .u64 0), (.int .i64 0)])), none, [], true⟩,
     ⟨none, .store 3 (.tmp 7) (.tmp 11), none, [], true⟩]))
def pBody : ICode :=
   (.block 1 (.seq (.region [
     ⟨(some 12), .fieldAddr 0 (.tmp 7), none, [], true⟩,
     ⟨(some 13), .load none (.tmp 12), none, [], true⟩,
     ⟨(some 14), .load none (.tmp 3), none, [], true⟩,
     ⟨(some 15), .bin .eql (.tmp 13) (.tmp 14), none, [], true⟩])
   (.cond (.tmp 15)
    (.seq (.region [
      ⟨(some 16), .move (.tmp 6), none, [], true⟩,
      ⟨none, .store 1 (.tmp 5) (.tmp 16), none, [], true⟩])
    (.exit 0))
    .skip)))
def pLoop (D : Nat) (tm : List Value) : ILoop := { state := .ready, pending := .normal, tmps := tm, params := [10, 11], assign := pAsg, body := pBody, defers := D }
theorem yieldP_ok {n : Nat} {h : Heap} {D C E l : Nat} {r : Int} {i : Nat} {x : It} {tl : List Value} (htl : tl.length = 18) (ht3 : tl.getD 3 undefV = .pointer (some ⟨E, 0, none⟩)) (ht5 : tl.getD 5 undefV = .pointer (some ⟨C, 0, none⟩)) (hC : h.get C = some (.cells [.int .i64 (-1)] 1 false)) (hE : h.get E = some (.cells [.int .i64 r] 1 false)) (hl : h.get l = some (.loop (pLoop D tl)))
    (eC : C % 2 = 0) (el : l % 2 = 0) (nCl : C ≠ l) (nEl : E ≠ l) (lC : C < 2 * h.next) (ll : l < 2 * h.next) (lE : E < 2 * h.next) (hf : h.Fine) (hfl : h.floor ≤ C / 2) (hfl2 : h.floor ≤ l / 2) :
    (callV env (n + 1) (.func (.yield l) #[] #[]) [.int .i64 (i : Int), iv x] h).Is fun p => ((x.r = r → p.1 = .bool false ∧ p.2.get l = some (.loop { pLoop D tl with state := .done, pending := .exit 0 }) ∧ p.2.get C = some (.cells [.int .i64 (i : Int)] 1 false)) ∧ (x.r ≠ r → p.1 = .bool true ∧ p.2.get l = some (.loop (pLoop D tl)) ∧ p.2.get C = some (.cells [.int .i64 (-1)] 1 false))) ∧ Chg (fun y => y = C ∨ y = l) h p.2 := by
  rw [callV_yield]
  obtain ⟨g, hg_, rfl⟩ := explode htl
  rw [hg_] at ht5 ht3
  clear htl hg_
  refine round_is2 hl rfl ?_
  have hf1 := hf.1
  have cn : canPut h (2 * h.next) = true := canPut_new _ hf1
  unfold iv
  simp (disch := first | assumption | omega | (simp only [wkX, *]; done) | (simp only [wkY]; omega)) only [pLoop, pAsg, List.nil_append, ht3, ht5, cn, wkF, ↓reduceIte, reduceCtorEq, Nat.reduceAdd, Nat.reduceLeDiff, Nat.reduceMul, Nat.reduceLT, Nat.reduceEqDiff, wkG, wkH]
  have e1 : Ext h ((h.alloc (.cells [.int .i64 0, .int .u64 0, .int .i64 0] 1 false)).setB (2 * h.next) (.cells [.int .i64 x.r, .int .u64 x.s, .int .i64 x.p] 1 false)) := ((Ext.refl h).alloc _).setB _ _ (by omega) (by omega)
  have g1 : ((h.alloc (.cells [.int .i64 0, .int .u64 0, .int .i64 0] 1 false)).setB (2 * h.next) (.cells [.int .i64 x.r, .int .u64 x.s, .int .i64 x.p] 1 false)).get (2 * h.next) = some (.cells (ic x) 1 false) := get_setB_same (by omega) (by rw [get_alloc_new hf]; rfl)
  generalize ((h.alloc (.cells [.int .i64 0, .int .u64 0, .int .i64 0] 1 false)).setB (2 * h.next) (.cells [.int .i64 x.r, .int .u64 x.s, .int .i64 x.p] 1 false)) = k at e1 g1 ⊢
  have hl1 := (e1.old l (Or.inr ll)).trans hl
  have cl : canPut k l = true := canPut_even el (by rw [e1.floor]; exact hfl2)
  refine Is_in ⟨rfl, _, hl1, rfl, cl, ?_⟩
  have c2 : Chg (fun y => y = C ∨ y = l) h (k.setB l (.loop { pLoop D (expand 18 0 g) with state := .busy })) := (e1.chg _).setB _ _ el (fun _ => Or.inr rfl)
  have l2 : (k.setB l (.loop { pLoop D (expand 18 0 g) with state := .busy })).get l = some (.loop { pLoop D (expand 18 0 g) with state := .busy }) := get_setB_same el (by rw [hl1]; rfl)
  have C2 : (k.setB l (.loop { pLoop D (expand 18 0 g) with state := .busy })).get C = some (.cells [.int .i64 (-1)] 1 false) := (get_setB_other el nCl).trans ((e1.old C (Or.inr lC)).trans hC)
  have E2 : (k.setB l (.loop { pLoop D (expand 18 0 g) with state := .busy })).get E = some (.cells [.int .i64 r] 1 false) := (get_setB_other el nEl).trans ((e1.old E (Or.inr lE)).trans hE)
  have W2 : (k.setB l (.loop { pLoop D (expand 18 0 g) with state := .busy })).get (2 * h.next) = some (.cells (ic x) 1 false) := (get_setB_other el (by omega)).trans g1
  have p2 : canPut (k.setB l (.loop { pLoop D (expand 18 0 g) with state := .busy })) C = true := canPut_even eC (by show k.floor ≤ _; rw [e1.floor]; exact hfl)
  have q2 : canPut (k.setB l (.loop { pLoop D (expand 18 0 g) with state := .busy })) l = true := cl
  generalize k.setB l (.loop { pLoop D (expand 18 0 g) with state := .busy }) = k2 at c2 l2 C2 E2 W2 p2 q2 ⊢
  unfold ic at W2
  by_cases hx : x.r = r
  · have d1 : decide (x.r = r) = true := decide_eq_true hx
    simp only [pBody, E2, W2, C2, p2, d1, wkF, ↓reduceIte, reduceCtorEq, Nat.reduceAdd, Nat.reduceLeDiff, Nat.reduceMul, Nat.reduceLT, Nat.reduceEqDiff, wkG, wkH]
    refine Is_in ⟨_, (get_setB_other eC (Ne.symm nCl)).trans l2, q2, ⟨fun _ => ⟨rfl, ?_, get_setB_same eC (by rw [C2]; rfl)⟩, fun e => absurd hx e⟩, (c2.setB _ _ eC (fun _ => Or.inl rfl)).setB _ _ el (fun _ => Or.inr rfl)⟩
    refine (get_setB_same el (by rw [get_setB_other eC (Ne.symm nCl), l2]; rfl)).trans ?_
    simp [onOf, pLoop, pAsg, pBody, expand_succ, expand_zero, ht3, ht5]
  · have d1 : decide (x.r = r) = false := decide_eq_false hx
    simp only [pBody, E2, W2, C2, d1, wkF, ↓reduceIte, reduceCtorEq, Nat.reduceAdd, Nat.reduceLeDiff, Nat.reduceMul, Nat.reduceLT, Nat.reduceEqDiff, wkG, wkH]
    refine Is_in ⟨_, l2, q2, ⟨fun e => absurd e hx, fun _ => ⟨rfl, ?_, C2⟩⟩, c2.setB _ _ el (fun _ => Or.inr rfl)⟩
    refine (get_setB_same el (by rw [l2]; rfl)).trans ?_
    simp [onOf, pLoop, pAsg, pBody, expand_succ, expand_zero, ht3, ht5]
def Found (l : List It) (r : Int) (h : Heap) (b C : Nat) (L : ILoop) (k : Int) : Prop := IsPlace l r k ∧ h.get C = some (.cells [.int .i64 k] 1 false) ∧ (∃ st, st ≠ .busy ∧ h.get b = some (.loop { L with state := st, pending := if k = -1 then .normal else .exit 0 }))
theorem iterP_ok {n : Nat} {h : Heap} {D C E E1 b qb : Nat} {r : Int} {v : Value} {sb : Option Nat} {l : List It} {tl : List Value} (hn : l.length + 20 < n) (hl8 : l.length < 1000000) (htl : tl.length = 18) (ht3 : tl.getD 3 undefV = .pointer (some ⟨E, 0, none⟩)) (ht5 : tl.getD 5 undefV = .pointer (some ⟨C, 0, none⟩)) (hC : h.get C = some (.cells [.int .i64 (-1)] 1 false)) (hE : h.get E = some (.cells [.int .i64 r] 1 false)) (hE1 : h.get E1 = some (.cells [.pointer (some ⟨qb, 0, none⟩)] 1 false)) (hl : h.get b = some (.loop (pLoop D tl)))
    (Q : QAt h qb v sb l) (eC : C % 2 = 0) (el : b % 2 = 0) (nCl : C ≠ b) (nEl : E ≠ b) (nEC : E ≠ C) (nE1 : E1 ≠ C ∧ E1 ≠ b) (nq : qb ≠ C ∧ qb ≠ b) (ns : some C ≠ sb ∧ some b ≠ sb) (lC : C < 2 * h.next) (ll : b < 2 * h.next) (lE : E < 2 * h.next) (lE1 : E1 < 2 * h.next) (hf : h.Fine) (hfl : h.floor ≤ C / 2) (hfl2 : h.floor ≤ b / 2) :
    (callV env (n + 2) (.func (.func 73) #[] #[.pointer (some ⟨E1, 0, none⟩)]) [.func (.yield b) #[] #[]] h).Is fun p => (∃ k, Found l r p.2 b C (pLoop D tl) k) ∧ Chg (fun y => y = C ∨ y = b) h p.2 := by
  refine call_is env73 ?_
  have r1 := Q.at_
  obtain ⟨pv, cv, rfl, _, hblk⟩ := Q.sl.val
  simp only [ir73, Nat.reduceAdd, Nat.reduceSub, hE1, r1, wkF, ↓reduceIte, reduceCtorEq, Nat.reduceLeDiff, Nat.reduceMul, Nat.reduceLT, Nat.reduceEqDiff, wkN, wkG, wkH]
  refine L_is (fun q s => ∃ (i : Nat), s.defers = [] ∧ s.tmps.length = 23 ∧ s.tmps.getD 0 undefV = .func (.yield b) #[] #[] ∧ s.tmps.getD 1 undefV = .pointer (some ⟨E1, 0, none⟩) ∧ s.tmps.getD 10 undefV = .slice pv l.length cv ∧ s.tmps.getD 11 undefV = .int .i64 (l.length : Int) ∧ s.tmps.getD 12 undefV = .int .i64 (i : Int) ∧ q = l.length - i ∧ i ≤ l.length ∧ (∀ j, j < i → (nth l j).r ≠ r) ∧ s.h.get C = some (.cells [.int .i64 (-1)] 1 false) ∧ s.h.get b = some (.loop (pLoop D tl)) ∧ Chg (fun y => y = C ∨ y = b) h s.h) l.length ?_ (by omega) ?_
  · exact ⟨0, rfl, rfl, rfl, rfl, rfl, rfl, rfl, rfl, by omega, fun j hj => by omega, hC, hl, Chg.refl _ _⟩
  rintro q tm df h2 ⟨i, hd, hlen_, g0, g1, g10, g11, g12, hq, hi, hno, q1, q2, q3⟩
  simp only at hd q1 q2 q3 g0 g1 g10 g11 g12
  subst hd
  obtain ⟨w, hg_, rfl⟩ := explode hlen_
  simp only [hg_] at g0 g1 g10 g11 g12
  clear hlen_ hg_
  by_cases hik : i < l.length
  · have hik' : (i : Int) < (l.length : Int) := by omega
    have c0 : (0 : Int) ≤ (i : Int) := by omega
    have hw1 : IntKind.i64.wrap ((i : Int) + 1) = ((i + 1 : Nat) : Int) := by rw [wrap_i64 (by omega) (by omega)]; omega
    obtain ⟨sblk, rfl, rfl⟩ := hblk (by omega)
    have Q2 : QAt h2 qb _ _ l := Q.chg q3 (fun e => e.elim nq.1 nq.2) (fun b' hb' e => e.elim (fun e => ns.1 (by rw [← e]; exact hb')) (fun e => ns.2 (by rw [← e]; exact hb')))
    obtain ⟨bb, cc, rest, hv, hs, _, _, _, _, _, hgb⟩ := Q2.sl.block (by omega)
    cases hv
    have rI := rd_all ic_len (nth_get hik) hgb
    have f2 := q3.fine hf
    have cn : canPut h2 (2 * h2.next) = true := canPut_new _ f2.1
    unfold ic at rI
    simp (disch := first | assumption | omega | (simp only [wkX, *]; done) | (simp only [wkY]; omega)) only [g0, g1, g10, g11, g12, hik', c0, rI, cn, Int.toNat_natCast, wkF, ↓reduceIte, reduceCtorEq, Nat.reduceAdd, Nat.reduceLeDiff, Nat.reduceMul, Nat.reduceLT, Nat.reduceEqDiff, wkG, wkH]
    have e1 : Ext h2 ((h2.alloc (.cells [.int .i64 0, .int .u64 0, .int .i64 0] 1 false)).setB (2 * h2.next) (.cells [.int .i64 (nth l i).r, .int .u64 (nth l i).s, .int .i64 (nth l i).p] 1 false)) := ((Ext.refl h2).alloc _).setB _ _ (by omega) (by omega)
    have g1 : ((h2.alloc (.cells [.int .i64 0, .int .u64 0, .int .i64 0] 1 false)).setB (2 * h2.next) (.cells [.int .i64 (nth l i).r, .int .u64 (nth l i).s, .int .i64 (nth l i).p] 1 false)).get (2 * h2.next) = some (.cells (ic (nth l i)) 1 false) := get_setB_same (by omega) (by rw [get_alloc_new f2]; rfl)
    generalize ((h2.alloc (.cells [.int .i64 0, .int .u64 0, .int .i64 0] 1 false)).setB (2 * h2.next) (.cells [.int .i64 (nth l i).r, .int .u64 (nth l i).s, .int .i64 (nth l i).p] 1 false)) = k at e1 g1 ⊢
    have n2 := q3.next
    have n3 := e1.next
    have kC := (e1.old C (Or.inr (by omega))).trans q1
    have kl := (e1.old b (Or.inr (by omega))).trans q2
    have kE := (e1.old E (Or.inr (by omega))).trans ((q3.old E (Or.inr lE) (fun e => e.elim nEC nEl)).trans hE)
    have fk := e1.fine f2
    have flk : k.floor = h.floor := e1.floor.trans q3.floor
    refine Z_is (yieldP_ok (n := n) (x := nth l i) (i := i) htl ht3 ht5 kC kE kl eC el nCl nEl (by omega) (by omega) (by omega) fk (by omega) (by omega)) ?_
    rintro v2 h3 ⟨⟨t1, t2⟩, t3⟩
    simp only at t1 t2 t3
    have c3 : Chg (fun y => y = C ∨ y = b) h h3 := (q3.trans (e1.chg _)).trans t3
    by_cases hx : (nth l i).r = r
    · obtain ⟨rfl, t4, t5⟩ := t1 hx
      simp only [wkF, ↓reduceIte, reduceCtorEq, Nat.reduceAdd, wkG, wkH]
      refine Is_in ?_
      simp only [wkF, ↓reduceIte, reduceCtorEq, Nat.reduceAdd, wkG, wkH]
      refine leaf0 ⟨⟨(i : Int), Or.inr ⟨i, rfl, hik, hx, hno⟩, t5, .done, (by intro h; cases h), ?_⟩, c3⟩
      rw [if_neg (by omega)]
      exact t4
    · obtain ⟨rfl, t4, t5⟩ := t2 hx
      simp only [hw1, wkF, ↓reduceIte, reduceCtorEq, Nat.reduceAdd, wkG, wkH]
      exact Is_in ⟨l.length - (i + 1), by omega, i + 1, rfl, rfl, rfl, rfl, rfl, rfl, rfl, rfl, by omega, fun j hj => by
        by_cases e : j = i
        · subst e; exact hx
        · exact hno j (by omega), t5, t4, c3⟩
  · have hik' : ¬ (i : Int) < (l.length : Int) := by omega
    simp only [g0, g1, g10, g11, g12, hik', wkF, ↓reduceIte, reduceCtorEq, Nat.reduceAdd, wkG, wkH]
    refine Is_in ?_
    simp only [wkF, ↓reduceIte, reduceCtorEq, Nat.reduceAdd, wkG, wkH]
    exact leaf0n ⟨⟨-1, Or.inl ⟨rfl, fun j hj => hno j (by omega)⟩, q1, .ready, (by intro h; cases h), q2⟩, q3⟩
theorem all_ok {n qb : Nat} {h : Heap} : (callV env (n + 1) (.func (.func 69) #[] #[]) [.pointer (some ⟨qb, 0, none⟩)] h).Is fun p => p.1 = .func (.func 73) #[] #[.pointer (some ⟨2 * h.next, 0, none⟩)] ∧ p.2 = h.alloc (.cells [.pointer (some ⟨qb, 0, none⟩)] 1 false) := by
  refine call_is env69 ?_
  have cP : ∀ p, cellsOf (.pointer p) = [.pointer p] := fun _ => rfl
  simp only [ir69, Nat.reduceAdd, Nat.reduceSub, cP, wkF, ↓reduceIte, reduceCtorEq, wkN, wkG, wkH]
  exact leaf1 ⟨rfl, rfl⟩
theorem place_ok {n qb : Nat} {h : Heap} {r : Int} {v : Value} {sb : Option Nat} {l : List It} (hn : l.length + 20 < n) (hl8 : l.length < 1000000) (hf : h.Fine) (Q : QAt h qb v sb l) :
    (callV env (n + 3) (.func (.func 67) #[] #[]) [.pointer (some ⟨qb, 0, none⟩), .int .i64 r] h).Is fun p => (∃ k, IsPlace l r k ∧ p.1 = .int .i64 k) ∧ Ext h p.2 := by
  refine call_is env67 ?_
  have hf1 := hf.1
  have fA := alloc_fine (o := .cells [.int .i64 r] 1 false) hf
  have fB := alloc_fine (o := .cells [.int .i64 0] 1 false) fA
  have cn : canPut h (2 * (h.next + 1)) = true := canPut_new _ (by omega)
  have gn : ((h.alloc (.cells [.int .i64 r] 1 false)).alloc (.cells [.int .i64 0] 1 false)).get (2 * (h.next + 1)) = some (.cells [.int .i64 0] 1 false) := get_alloc_new fA
  simp only [ir67, Nat.reduceAdd, Nat.reduceSub, cn, gn, wkF, ↓reduceIte, reduceCtorEq, Nat.reduceLeDiff, Nat.reduceMul, Nat.reduceLT, Nat.reduceEqDiff, wkN, wkG, wkH]
  have eB : Ext h (((h.alloc (.cells [.int .i64 r] 1 false)).alloc (.cells [.int .i64 0] 1 false)).setB (2 * (h.next + 1)) (.cells [.int .i64 (-1)] 1 false)) := (((Ext.refl h).alloc _).alloc _).setB _ _ (by omega) (by omega)
  have gE : (((h.alloc (.cells [.int .i64 r] 1 false)).alloc (.cells [.int .i64 0] 1 false)).setB (2 * (h.next + 1)) (.cells [.int .i64 (-1)] 1 false)).get (2 * h.next) = some (.cells [.int .i64 r] 1 false) := (get_setB_other (by omega) (by omega)).trans ((get_alloc_old (by simp only [alloc_next]; omega)).trans (get_alloc_new hf))
  have gC : (((h.alloc (.cells [.int .i64 r] 1 false)).alloc (.cells [.int .i64 0] 1 false)).setB (2 * (h.next + 1)) (.cells [.int .i64 (-1)] 1 false)).get (2 * (h.next + 1)) = some (.cells [.int .i64 (-1)] 1 false) := get_setB_same (by omega) (by rw [show 2 * (h.next + 1) = 2 * (h.alloc (.cells [.int .i64 r] 1 false)).next from rfl, get_alloc_new fA]; rfl)
  have nB : (((h.alloc (.cells [.int .i64 r] 1 false)).alloc (.cells [.int .i64 0] 1 false)).setB (2 * (h.next + 1)) (.cells [.int .i64 (-1)] 1 false)).next = h.next + 2 := rfl
  generalize (((h.alloc (.cells [.int .i64 r] 1 false)).alloc (.cells [.int .i64 0] 1 false)).setB (2 * (h.next + 1)) (.cells [.int .i64 (-1)] 1 false)) = k at eB gE gC nB ⊢
  have fk := eB.fine hf
  refine Z_is (all_ok (n := n + 1)) ?_
  rintro v1 h1 ⟨rfl, rfl⟩
  simp only [wkF, ↓reduceIte, reduceCtorEq, Nat.reduceAdd, wkG, wkH]
  refine X_range (g := 73) (first := #[]) rfl ?_
  have f1 := alloc_fine (o := .cells [.pointer (some ⟨qb, 0, none⟩)] 1 false) fk
  have f2 := alloc_fine (o := .deferred true) f1
  have e1 : Ext h (k.alloc (.cells [.pointer (some ⟨qb, 0, none⟩)] 1 false)) := eB.alloc _
  have g1 : (k.alloc (.cells [.pointer (some ⟨qb, 0, none⟩)] 1 false)).get (2 * k.next) = some (.cells [.pointer (some ⟨qb, 0, none⟩)] 1 false) := get_alloc_new fk
  have g2 : (k.alloc (.cells [.pointer (some ⟨qb, 0, none⟩)] 1 false)).get (2 * h.next) = _ := (get_alloc_old (by omega)).trans gE
  have g3 : (k.alloc (.cells [.pointer (some ⟨qb, 0, none⟩)] 1 false)).get (2 * (h.next + 1)) = _ := (get_alloc_old (by omega)).trans gC
  have n1 : (k.alloc (.cells [.pointer (some ⟨qb, 0, none⟩)] 1 false)).next = h.next + 3 := by rw [alloc_next, nB]
  have hkn : 2 * k.next = 2 * (h.next + 2) := by omega
  rw [hkn] at g1 ⊢
  generalize (k.alloc (.cells [.pointer (some ⟨qb, 0, none⟩)] 1 false)) = k1 at f1 f2 e1 g1 g2 g3 n1 ⊢
  have fl1 := e1.floor
  have mk : (k1.alloc (.deferred true)).get (2 * k1.next) = some (.deferred true) := get_alloc_new f1
  have lq := Q.lt
  have oo : ∀ (o : IObj) (y : Nat), y < 2 * k1.next → ((k1.alloc (.deferred true)).alloc o).get y = k1.get y := fun o y hy => (get_alloc_old (by simp only [alloc_next]; omega)).trans (get_alloc_old (by omega))
  have Q1 : ∀ o : IObj, QAt ((k1.alloc (.deferred true)).alloc o) qb v sb l := fun o => Q.ext ((e1.alloc _).alloc _)
  refine T.Is.mono (fun p hp => ?_) (iterP_ok (n := n) (D := 2 * k1.next) (C := 2 * (h.next + 1)) (E := 2 * h.next) (E1 := 2 * (h.next + 2)) (b := 2 * (k1.next + 1)) (r := r) (l := l) (v := v) (sb := sb) (qb := qb) hn hl8 rfl rfl rfl
    ((oo _ _ (by omega)).trans g3) ((oo _ _ (by omega)).trans g2) ((oo _ _ (by omega)).trans g1) (get_alloc_new f2) (Q1 _) (by omega) (by omega) (by omega) (by omega) (by omega) ⟨by omega, by omega⟩ ⟨by omega, by omega⟩
    ⟨fun e => by have := (Q.sl.lt e).1; omega, fun e => by have := (Q.sl.lt e).1; omega⟩ (by simp only [alloc_next]; omega) (by simp only [alloc_next]; omega) (by simp only [alloc_next]; omega) (by simp only [alloc_next]; omega) (alloc_fine f2) (by simp only [alloc_floor]; omega) (by simp only [alloc_floor]; omega))
  obtain ⟨⟨kk, hpl, hpC, st, hst, hpl2⟩, hch⟩ := hp
  have flp : p.2.floor = h.floor := hch.floor.trans fl1
  have npx := hch.next
  have npx' : k1.next + 2 ≤ p.2.next := npx
  refine ⟨_, hpl2, hst, canPut_even (by omega) (by omega), ?_⟩
  have gC9 : ∀ o, (p.2.setB (2 * (k1.next + 1)) o).get (2 * (h.next + 1)) = some (.cells [.int .i64 kk] 1 false) := fun o => (get_setB_other (by omega) (by omega)).trans hpC
  have gD9 : ∀ o, (p.2.setB (2 * (k1.next + 1)) o).get (2 * k1.next) = some (.deferred true) := fun o =>
    (get_setB_other (by omega) (by omega)).trans ((hch.old _ (Or.inr (by simp only [alloc_next]; omega)) (by omega)).trans ((get_alloc_old (by simp only [alloc_next]; omega)).trans mk))
  have e9 : Ext h p.2 := ((((e1.chg (fun _ => False)).alloc (.deferred true)).alloc _).then hch (fun y hy h => by omega)).ext (fun _ _ => id)
  have eZ : ∀ o o', Ext h ((p.2.setB (2 * (k1.next + 1)) o).setB (2 * k1.next) o') := fun o o' => (e9.setB _ _ (by omega) (by omega)).setB _ _ (by omega) (by omega)
  have done : ∀ o, canPut (p.2.setB (2 * (k1.next + 1)) o) (2 * k1.next) = true := fun o => canPut_new _ (by show p.2.floor ≤ _; omega)
  by_cases hk : kk = -1
  · subst hk
    simp only [pLoop, gC9, wkF, ↓reduceIte, reduceCtorEq, Nat.reduceAdd, Nat.reduceLeDiff, Nat.reduceMul, Nat.reduceLT, Nat.reduceEqDiff, wkG, wkH]
    exact leafM1 (gD9 _) (done _) ⟨⟨-1, hpl, rfl⟩, eZ _ _⟩
  · simp only [pLoop, hk, gC9, wkF, ↓reduceIte, reduceCtorEq, Nat.reduceAdd, Nat.reduceLeDiff, Nat.reduceMul, Nat.reduceLT, Nat.reduceEqDiff, wkG, wkH]
    exact leafM1 (gD9 _) (done _) ⟨⟨kk, hpl, rfl⟩, eZ _ _⟩
end Go.Proofs.Ytmpnldmdchchjaa
namespace Go.Ideal
open Go
section
variable {call : Caller} {fuel : Nat} {ar : Option Nat} {tm : List Value} {df : List Nat} {h : Heap} {K : List Fr} {r : List IOper} {d : Option Nat} {anc : List Nat} {bar : Bool}
end
end Go.Ideal
namespace Go.Proofs.Ytmpnldmdchchjaa
open Go Go.Ideal Go.ChangeShapes Go.RowKit
set_option maxHeartbeats 0
set_option linter.unusedSimpArgs false
set_option linter.unusedVariables false
set_option maxRecDepth 100000
attribute [local irreducible] callV T.All T.Is run
theorem env70 : env 70 = some ir70 := rfl
theorem env58 : env 58 = some ir58 := rfl
theorem env53 : env 53 = some ir53 := rfl
theorem env66 : env 66 = some ir66 := rfl
theorem QAt.rd {h : Heap} {qb : Nat} {v : Value} {sb : Option Nat} {l : List It} (Q : QAt h qb v sb l) : readC (h.get qb) 0 1 = some [v] := by rw [Q.at_]; rfl
theorem slI (p : Option Addr) (a b : Nat) : cellsOf (.slice p a b) = [.slice p a b] := rfl
theorem sortq_ok {n qb : Nat} {h : Heap} {v : Value} {sb : Option Nat} {l : List It} (hn : l.length + 20 < n) (h0 : 0 < l.length) (hl : l.length ≤ 12) (hf : h.Fine) (Q : QAt h qb v sb l) :
    (callV env (n + 8) (.func (.func 70) #[] #[]) [.pointer (some ⟨qb, 0, none⟩)] h).Is fun p => ∃ l', QAt p.2 qb v sb l' ∧ l'.length = l.length ∧ (∀ y, l'.count y = l.count y) ∧ Sorted l' 0 l'.length ∧ Chg (fun y => some y = sb) h p.2 := by
  refine call_is env70 ?_
  have r1 := Q.rd
  obtain ⟨b, c, rest, rfl, rfl, b3, b4, b5, b6, b7, b8⟩ := Q.sl.block h0
  simp only [ir70, Nat.reduceAdd, Nat.reduceSub, r1, wkF, ↓reduceIte, reduceCtorEq, wkN, wkG, wkH]
  refine Z_is (sort_few (n := n) hn hl hf ⟨b8, b4, b5, b6⟩) ?_
  rintro v1 h1 ⟨a', A, S, so, C⟩
  simp only at A C
  simp only [wkF, ↓reduceIte, reduceCtorEq, Nat.reduceAdd, wkG, wkH]
  refine leaf0n ⟨a', ⟨(C.old qb (Or.inr Q.lt) (fun e => Q.ne (by rw [e]))).trans Q.at_, Or.inr ⟨b, c, rest, by rw [S.len], rfl, by rw [S.len]; exact b3, b4, A.fl, A.lt, by rw [S.len]; exact b7, A.at_⟩, Q.even, by show h1.floor ≤ qb / 2 ∨ qb / 2 ∈ h1.may; rw [C.floor, C.may]; exact Q.fl, by show qb < 2 * h1.next; have := C.next; have := Q.lt; omega, Q.ne⟩, S.len, S.cnt, by rw [S.len]; exact so, C.mono (fun x _ hx => by rw [hx])⟩
def BadW (w : It) : Prop := w.r < 0 ∨ 64 ≤ w.r ∨ w.p < 0 ∨ 15 < w.p
instance (w : It) : Decidable (BadW w) := by unfold BadW; infer_instance
def PutTo (l : List It) (w : It) (l2 : List It) : Prop := (IsPlace l w.r (-1) ∧ l.length < 8 ∧ l2 = l ++ [w]) ∨ ∃ i : Nat, IsPlace l w.r (i : Int) ∧ i < l.length ∧ ((nth l i).p < w.p ∧ l2 = l.set i w ∨ ¬ (nth l i).p < w.p ∧ l2 = l)
theorem put_ok {n qb : Nat} {h : Heap} {v : Value} {sb : Option Nat} {l : List It} {x : It} (hn : l.length + 30 < n) (hl : l.length ≤ 8) (hf : h.Fine) (Q : QAt h qb v sb l) :
    (callV env (n + 9) (.func (.func 58) #[] #[]) [.pointer (some ⟨qb, 0, none⟩), iv x] h).Is fun p => (BadW x ∧ p.1 = .tuple #[.bool false, .int .i64 2] ∧ Ext h p.2) ∨ (¬ BadW x ∧ IsPlace l x.r (-1) ∧ 8 ≤ l.length ∧ p.1 = .tuple #[.bool false, .int .i64 0] ∧ Ext h p.2) ∨
      (¬ BadW x ∧ p.1 = .tuple #[.bool true, .int .i64 0] ∧ ∃ l2 v' sb' l', PutTo l x l2 ∧ QAt p.2 qb v' sb' l' ∧ (sb' = sb ∨ ∃ b, sb' = some b ∧ 2 * h.next ≤ b) ∧ l'.length = l2.length ∧ (∀ y, l'.count y = l2.count y) ∧ Sorted l' 0 l'.length ∧ Chg (qS qb sb) h p.2) := by
  refine call_is env58 ?_
  unfold iv
  have hf1 := hf.1
  have f1 := alloc_fine (o := .cells [.int .i64 x.r, .int .u64 x.s, .int .i64 x.p] 1 false) hf
  have gX : (h.alloc (.cells [.int .i64 x.r, .int .u64 x.s, .int .i64 x.p] 1 false)).get (2 * h.next) = some (.cells (ic x) 1 false) := get_alloc_new hf
  have e1 : Ext h (h.alloc (.cells [.int .i64 x.r, .int .u64 x.s, .int .i64 x.p] 1 false)) := (Ext.refl h).alloc _
  by_cases hb : BadW x
  · have bad : (x.r < 0) ∨ (¬ x.r < 0 ∧ 64 ≤ x.r) ∨ (¬ x.r < 0 ∧ ¬ 64 ≤ x.r ∧ x.p < 0) ∨ (¬ x.r < 0 ∧ ¬ 64 ≤ x.r ∧ ¬ x.p < 0 ∧ 15 < x.p) := by unfold BadW at hb; omega
    rcases bad with c1 | ⟨c1, c2⟩ | ⟨c1, c2, c3⟩ | ⟨c1, c2, c3, c4⟩
    · simp (disch := first | assumption | omega | (simp only [wkX, *]; done) | (simp only [wkY]; omega)) only [ir58, Nat.reduceAdd, Nat.reduceSub, c1, wkF, ↓reduceIte, reduceCtorEq, Nat.reduceLeDiff, Nat.reduceMul, Nat.reduceLT, Nat.reduceEqDiff, wkN, wkG, wkH]
      exact leaf2 (Or.inl ⟨hb, rfl, e1⟩)
    · simp (disch := first | assumption | omega | (simp only [wkX, *]; done) | (simp only [wkY]; omega)) only [ir58, Nat.reduceAdd, Nat.reduceSub, c1, c2, wkF, ↓reduceIte, reduceCtorEq, Nat.reduceLeDiff, Nat.reduceMul, Nat.reduceLT, Nat.reduceEqDiff, wkN, wkG, wkH]
      exact leaf2 (Or.inl ⟨hb, rfl, e1⟩)
    · simp (disch := first | assumption | omega | (simp only [wkX, *]; done) | (simp only [wkY]; omega)) only [ir58, Nat.reduceAdd, Nat.reduceSub, c1, c2, c3, wkF, ↓reduceIte, reduceCtorEq, Nat.reduceLeDiff, Nat.reduceMul, Nat.reduceLT, Nat.reduceEqDiff, wkN, wkG, wkH]
      exact leaf2 (Or.inl ⟨hb, rfl, e1⟩)
    · simp (disch := first | assumption | omega | (simp only [wkX, *]; done) | (simp only [wkY]; omega)) only [ir58, Nat.reduceAdd, Nat.reduceSub, c1, c2, c3, c4, wkF, ↓reduceIte, reduceCtorEq, Nat.reduceLeDiff, Nat.reduceMul, Nat.reduceLT, Nat.reduceEqDiff, wkN, wkG, wkH]
      exact leaf2 (Or.inl ⟨hb, rfl, e1⟩)
  have n1 : ¬ x.r < 0 := fun e => hb (Or.inl e)
  have n2 : ¬ 64 ≤ x.r := fun e => hb (Or.inr (Or.inl e))
  have n3 : ¬ x.p < 0 := fun e => hb (Or.inr (Or.inr (Or.inl e)))
  have n4 : ¬ 15 < x.p := fun e => hb (Or.inr (Or.inr (Or.inr e)))
  simp (disch := first | assumption | omega | (simp only [wkX, *]; done) | (simp only [wkY]; omega)) only [ir58, Nat.reduceAdd, Nat.reduceSub, n1, n2, n3, n4, wkF, ↓reduceIte, reduceCtorEq, Nat.reduceLeDiff, Nat.reduceMul, Nat.reduceLT, Nat.reduceEqDiff, wkN, wkG, wkH]
  have nx : (h.alloc (.cells [.int .i64 x.r, .int .u64 x.s, .int .i64 x.p] 1 false)).next = h.next + 1 := rfl
  generalize h.alloc (.cells [.int .i64 x.r, .int .u64 x.s, .int .i64 x.p] 1 false) = k1 at f1 gX e1 nx ⊢
  have Q1 := Q.ext e1
  refine Z_is (place_ok (n := n + 5) (r := x.r) (by omega) (by omega) f1 Q1) ?_
  rintro v2 k2 ⟨⟨kk, hk, rfl⟩, e2⟩
  simp only at e2
  have Q2 := Q1.ext e2
  have f2 := e2.fine f1
  have e12 := e1.trans e2
  have gX2 := (e2.old (2 * h.next) (Or.inr (by omega))).trans gX
  have r2 := Q2.rd
  have rX : readC (k2.get (2 * h.next)) 0 3 = some [.int .i64 x.r, .int .u64 x.s, .int .i64 x.p] := by rw [gX2]; rfl
  have rXp : readC (k2.get (2 * h.next)) 2 1 = some [.int .i64 x.p] := by rw [gX2]; rfl
  have n12 := e2.next
  -- at the end: sorting
  have fin : ∀ (k5 : Heap) (v5 : Value) (s5 : Option Nat) (l5 : List It), PutTo l x l5 → QAt k5 qb v5 s5 l5 → (s5 = sb ∨ ∃ b, s5 = some b ∧ 2 * h.next ≤ b) → 0 < l5.length → l5.length ≤ 8 → Chg (qS qb sb) h k5 →
      (callV env (n + 8) (.func (.func 70) #[] #[]) [.pointer (some ⟨qb, 0, none⟩)] k5).Is fun p => ∃ l', QAt p.2 qb v5 s5 l' ∧ l'.length = l5.length ∧ (∀ y, l'.count y = l5.count y) ∧ Sorted l' 0 l'.length ∧ Chg (qS qb sb) h p.2 := by
    intro k5 v5 s5 l5 _ q5 hs5 h5 h58 c5
    refine T.Is.mono (fun p hp => ?_) (sortq_ok (n := n) (by omega) h5 (by omega) (c5.fine hf) q5)
    obtain ⟨l', a1, a2, a3, a4, a5⟩ := hp
    refine ⟨l', a1, a2, a3, a4, c5.then a5 (fun y hy he => ?_)⟩
    rcases hs5 with rfl | ⟨b, rfl, hb⟩
    · exact Or.inr he
    · cases he
      exfalso
      have := (q5.sl.lt rfl).2
      omega
  have hpl := hk
  rcases hk with ⟨rfl, hno⟩ | ⟨i, rfl, hi, hr, hno⟩
  · have m1 : (-1 : Int) < 0 := by omega
    obtain ⟨pv, cv, rfl, _, _⟩ := Q2.sl.val
    by_cases h8 : 8 ≤ l.length
    · have h8' : (8 : Int) ≤ (l.length : Int) := by omega
      simp only [m1, r2, h8', wkF, ↓reduceIte, reduceCtorEq, Nat.reduceAdd, wkG, wkH]
      exact leaf2 (Or.inr (Or.inl ⟨hb, hpl, h8, rfl, e12⟩))
    · have h8' : ¬ (8 : Int) ≤ (l.length : Int) := by omega
      simp only [m1, r2, h8', wkF, ↓reduceIte, reduceCtorEq, Nat.reduceAdd, wkG, wkH]
      refine X_drawn _ fun an => ?_
      have bs : pBuildSlice k2 3 1 [.int .i64 0, .int .u64 0, .int .i64 0] [(0, 3, .agg #[.int .i64 x.r, .int .u64 x.s, .int .i64 x.p])] = some (.slice (some ⟨2 * k2.next, 0, none⟩) 1 1, k2.alloc (.cells (ic x) 3 false)) := by
        unfold pBuildSlice; rfl
      have f3 := alloc_fine (o := .cells (ic x) 3 false) f2
      have e3 := e12.alloc (.cells (ic x) 3 false)
      have Q3 := Q.ext e3
      obtain ⟨v', k4, sb', a1, a2, a3, a4⟩ := sl_append (z := 3) (bytes := 24) (by omega) ic_len ic_one f3 Q3.sl (get_alloc_new f2) (by unfold roomMost; omega) (by omega)
      obtain ⟨b, cpl, rest, hv', rfl, bL, bE, bF, bN, bR, bG⟩ := a2.block (by simp)
      subst hv'
      have hlen : (l ++ [x]).length = l.length + 1 := by simp
      have c4 : Chg (qS qb sb) h k4 := (e3.chg _).then a4 (fun y _ hy => Or.inr hy)
      have g4 : k4.get qb = some (.cells [.slice pv l.length cv] 1 false) := (a4.old _ (Or.inr Q3.lt) (fun e => Q.ne e)).trans Q3.at_
      have fl4 : k4.floor ≤ qb / 2 ∨ qb / 2 ∈ k4.may := by rw [c4.floor, c4.may]; exact Q.fl
      have w4 : ∀ w, oneCell w = true → writeC (k4.get qb) k4 qb 0 [w] = some (k4.setB qb (.cells [w] 1 false)) := fun w hw => by
        rw [g4, writeC_cells, if_pos ⟨by simp, by simp [hw], decide_eq_true ⟨Q.even, fl4⟩⟩]; rfl
      have w4' := w4 (.slice (some ⟨b, 0, some 3⟩) (l ++ [x]).length cpl) rfl
      simp only [r2, rX, bs, a1, w4', slI, Nat.lt_add_one, wkF, ↓reduceIte, reduceCtorEq, Nat.reduceAdd, wkG, wkH]
      have hsb : some b = sb ∨ ∃ b', some b = some b' ∧ 2 * h.next ≤ b' := by
        rcases a3 with e | e
        · exact Or.inl e
        · cases e
          exact Or.inr ⟨_, rfl, by rw [alloc_next]; omega⟩
      have nb : some qb ≠ some b := by
        rcases hsb with e | ⟨b', e, hb'⟩
        · rw [e]; exact Q.ne
        · cases e
          have := Q.lt
          intro e; cases e; omega
      have Q5 : QAt (k4.setB qb (.cells [.slice (some ⟨b, 0, some 3⟩) (l ++ [x]).length cpl] 1 false)) qb (.slice (some ⟨b, 0, some 3⟩) (l ++ [x]).length cpl) (some b) (l ++ [x]) :=
        ⟨get_setB_same Q.even (by rw [g4]; rfl), a2.get (fun b' hb' => get_setB_other Q.even (by rintro rfl; exact nb hb')) (Nat.le_refl _) rfl rfl, Q.even, fl4, by show qb < 2 * k4.next; have := Q.lt; have := c4.next; omega, nb⟩
      have hpt : PutTo l x (l ++ [x]) := Or.inl ⟨hpl, by omega, rfl⟩
      refine Z_is (fin _ _ _ _ hpt Q5 hsb (by omega) (by omega) (c4.setB _ _ Q.even (fun _ => Or.inl rfl))) ?_
      rintro v6 k6 ⟨l', q1, q2, q3, q4, q5⟩
      simp only [wkF, ↓reduceIte, reduceCtorEq, Nat.reduceAdd, wkG, wkH]
      exact leaf2 (Or.inr (Or.inr ⟨hb, rfl, _, _, _, l', hpt, q1, hsb, q2, q3, q4, q5⟩))
  · have m1 : ¬ (i : Int) < 0 := by omega
    have c0 : (0 : Int) ≤ (i : Int) := by omega
    have c1 : (i : Int) < (l.length : Int) := by omega
    obtain ⟨b, cpl, rest, rfl, rfl, bL, bE, bF, bN, bR, bG⟩ := Q2.sl.block (by omega)
    have rP : readC (k2.get b) (i * 3 + 2) 1 = some [.int .i64 (nth l i).p] := (rd_at ic_len (nth_get hi) bG (k := 2) (m := 1) (by omega)).trans rfl
    simp only [m1, wkF, ↓reduceIte, reduceCtorEq, Nat.reduceAdd, wkG, wkH]
    refine X_drawn _ fun an => ?_
    by_cases hp : (nth l i).p < x.p
    · simp only [r2, rP, rXp, c0, c1, hp, Int.toNat_natCast, wkF, ↓reduceIte, reduceCtorEq, Nat.reduceAdd, wkG, wkH]
      refine X_drawn _ fun an => ?_
      have wI := wr_at (z := 3) ic_len ic_one (x := x) (i := i) hi bG (decide_eq_true ⟨bE, bF⟩)
      unfold ic at wI
      simp only [r2, rX, wI, c0, c1, Int.toNat_natCast, wkF, ↓reduceIte, reduceCtorEq, Nat.reduceAdd, wkG, wkH]
      have hpt : PutTo l x (l.set i x) := Or.inr ⟨i, hpl, hi, Or.inl ⟨hp, rfl⟩⟩
      have nb : qb ≠ b := fun e => Q.ne (by rw [e])
      have c3 : Chg (qS qb (some b)) h (k2.setB b (.cells ((l.set i x).flatMap ic ++ rest) 3 true)) := (e12.chg _).setB _ _ bE (fun _ => Or.inr rfl)
      have Q5 : QAt (k2.setB b (.cells ((l.set i x).flatMap ic ++ rest) 3 true)) qb (.slice (some ⟨b, 0, some 3⟩) l.length cpl) (some b) (l.set i x) :=
        ⟨(get_setB_other bE nb).trans Q2.at_, Or.inr ⟨b, cpl, rest, by simp, rfl, by simpa using bL, bE, bF, bN, by simpa using bR, get_setB_same bE (by rw [bG]; rfl)⟩, Q.even, Q2.fl, Q2.lt, Q.ne⟩
      refine Z_is (fin _ _ _ _ hpt Q5 (Or.inl rfl) (by simp; omega) (by simpa using hl) c3) ?_
      rintro v6 k6 ⟨l', q1, q2, q3, q4, q5⟩
      simp only [wkF, ↓reduceIte, reduceCtorEq, Nat.reduceAdd, wkG, wkH]
      exact leaf2 (Or.inr (Or.inr ⟨hb, rfl, _, _, _, l', hpt, q1, Or.inl rfl, q2, q3, q4, q5⟩))
    · simp only [r2, rP, rXp, c0, c1, hp, Int.toNat_natCast, wkF, ↓reduceIte, reduceCtorEq, Nat.reduceAdd, wkG, wkH]
      have hpt : PutTo l x l := Or.inr ⟨i, hpl, hi, Or.inr ⟨hp, rfl⟩⟩
      refine Z_is (fin _ _ _ _ hpt Q2 (Or.inl rfl) (by omega) hl (e12.chg _)) ?_
      rintro v6 k6 ⟨l', q1, q2, q3, q4, q5⟩
      simp only [wkF, ↓reduceIte, reduceCtorEq, Nat.reduceAdd, wkG, wkH]
      exact leaf2 (Or.inr (Or.inr ⟨hb, rfl, _, _, _, l', hpt, q1, Or.inl rfl, q2, q3, q4, q5⟩))
end Go.Proofs.Ytmpnldmdchchjaa
namespace Go.Proofs.Ytmpnldmdchchjaa
open Go Go.Ideal Go.ChangeShapes Go.RowKit
set_option maxHeartbeats 0
set_option linter.unusedSimpArgs false
set_option linter.unusedVariables false
set_option maxRecDepth 100000
attribute [local irreducible] callV T.All T.Is run
def View (h : Heap) (v : Value) (l : List It) : Prop := ∃ p c, v = .slice p l.length c ∧ (0 < l.length → ∃ b sp rest zz t, p = some ⟨b, 0, sp⟩ ∧ (b % 2 = 1 ∨ b < 2 * h.next) ∧ h.get b = some (.cells (l.flatMap ic ++ rest) zz t))
theorem slice_firstN {h : Heap} {b c : Nat} {sp : Option Nat} {l : List It} {rest : List Value} {zz : Nat} {t : Bool} (hg : h.get b = some (.cells (l.flatMap ic ++ rest) zz t)) : firstN h 3 l.length (.slice (some ⟨b, 0, sp⟩) l.length c) = some (l.flatMap ic) := by
  rw [firstN_slice]
  have hfl := flatMap_len ic_len l
  by_cases h0 : l.length * 3 = 0
  · rw [if_pos h0]
    have : l.flatMap ic = [] := List.eq_nil_of_length_eq_zero (by omega)
    rw [this]
  · rw [if_neg h0]
    show h.read ⟨b, 0, none⟩ (l.length * 3) = _
    rw [read_eq, hg]
    simp only [readC, readN]
    rw [if_pos (by rw [List.length_append]; omega), List.drop_zero, ← hfl, List.take_left']
    rfl
theorem QAt.view {h : Heap} {qb : Nat} {v : Value} {sb : Option Nat} {l : List It} (Q : QAt h qb v sb l) : View h v l := by
  rcases Q.sl with ⟨rfl, rfl, _⟩ | ⟨b, c, rest, rfl, b2, b3, b4, b5, b6, b7, b8⟩
  · exact ⟨none, 0, rfl, fun h => by simp at h⟩
  · exact ⟨_, c, rfl, fun _ => ⟨b, _, rest, 3, true, rfl, Or.inr b6, b8⟩⟩
theorem env54 : env 54 = some ir54 := rfl
theorem env68 : env 68 = some ir68 := rfl
theorem env57 : env 57 = some ir57 := rfl
def Qr (qb : Nat) (l : List It) : Rs := Rs.ex fun v => Rs.star (Ob qb (.cells [v] 1 false)) (Slr 3 ic v l)
section
variable {ro : Nat → Option (List Value × Nat)} {h : Heap} {R : List Rs} {qb : Nat} {l : List It}
theorem QAt.qr {v : Value} {sb : Option Nat} (Q : QAt h qb v sb l) : (Qr qb l).is h (qS qb sb) :=
  ⟨v, star_is.2 ⟨fun x => x = qb, fun x => some x = sb, fun b => Iff.rfl, fun b h1 h2 => Q.ne (by rw [← h1]; exact h2), ⟨fun x => Iff.rfl, Q.at_⟩, sl_slr Q.sl⟩⟩
theorem Has.qr (O : Has ro h (Qr qb l :: R)) : ∃ v sb, QAt h qb v sb l ∧ ∀ (h' : Heap) (v' : Value) (sb' : Option Nat) (l' : List It), QAt h' qb v' sb' l' → (sb' = sb ∨ ∃ b, sb' = some b ∧ 2 * h.next ≤ b) → Chg (qS qb sb) h h' → Has ro h' (Qr qb l' :: R) := by
  obtain ⟨S, ⟨v, hs⟩, g, k⟩ := O.step
  obtain ⟨S1, S2, e, d, ⟨a1, a2⟩, b⟩ := star_is.1 hs
  obtain ⟨sb, s1, s2⟩ := slr_sl b (fun x hx => g x ((e x).2 (Or.inr hx)))
  have gq := g qb ((e qb).2 (Or.inl ((a1 qb).2 rfl)))
  have hS : S = qS qb sb := by
    funext x
    exact propext (by rw [e, a1, s2]; exact Iff.rfl)
  subst hS
  refine ⟨v, sb, ⟨a2, s1, gq.1, gq.2.1, gq.2.2, fun h => d qb ((a1 qb).2 rfl) ((s2 qb).2 h)⟩, fun h' v' sb' l' Q hsb c => k h' (Qr qb l') _ c Q.qr fun x hx => ?_⟩
  rcases hx with rfl | hx
  · exact Or.inl (Or.inl rfl)
  · rcases hsb with rfl | ⟨y, rfl, hy⟩
    · exact Or.inl (Or.inr hx)
    · obtain ⟨q1, q2⟩ := Q.sl.lt hx
      cases hx
      exact Or.inr ⟨q2, hy, q1⟩
def PutIs (l : List It) (x : It) (a : Bool) (e : Int) (l' : List It) : Prop :=
  (BadW x ∧ a = false ∧ e = 2 ∧ l' = l) ∨ (¬ BadW x ∧ IsPlace l x.r (-1) ∧ 8 ≤ l.length ∧ a = false ∧ e = 0 ∧ l' = l) ∨
    (¬ BadW x ∧ a = true ∧ e = 0 ∧ ∃ l2, PutTo l x l2 ∧ l'.length = l2.length ∧ (∀ y, l'.count y = l2.count y) ∧ Sorted l' 0 l'.length)
theorem put_h {n : Nat} (hn : 40 < n) (hl : l.length ≤ 8) (O : Has ro h (Qr qb l :: R)) (x : It) :
    (callV env (n + 9) (.func (.func 58) #[] #[]) [.pointer (some ⟨qb, 0, none⟩), iv x] h).Is fun p => ∃ a e l', p.1 = .tuple #[.bool a, .int .i64 e] ∧ PutIs l x a e l' ∧ Has ro p.2 (Qr qb l' :: R) := by
  obtain ⟨v, sb, Q, k⟩ := Has.qr O
  refine T.Is.mono ?_ (put_ok (n := n) (x := x) (by omega) hl O.fine Q)
  rintro ⟨w, h1⟩ (⟨b, rfl, e⟩ | ⟨b, p, g, rfl, e⟩ | ⟨b, rfl, l2, v', sb', l', p, Q', hsb, q1, q2, q3, c⟩)
  · exact ⟨false, 2, l, rfl, Or.inl ⟨b, rfl, rfl, rfl⟩, O.ext e⟩
  · exact ⟨false, 0, l, rfl, Or.inr (Or.inl ⟨b, p, g, rfl, rfl, rfl⟩), O.ext e⟩
  · exact ⟨true, 0, l', rfl, Or.inr (Or.inr ⟨b, rfl, rfl, l2, p, q1, q2, q3⟩), k _ _ _ _ Q' hsb c⟩
theorem clone_n {n : Nat} {v : Value} (hl : l.length ≤ 1000000) (hf : h.Fine) (V : View h v l) :
    (callV env (n + 1) (.func (.func 66) #[] #[]) [v] h).Is fun q => Ext h q.2 ∧ New h q.2 (Sc 3 ic q.1 l) := by
  refine call_is env66 ?_
  obtain ⟨p, c, rfl, hb⟩ := V
  cases p with
  | none =>
    have hl0 : l = [] := by
      rcases Nat.eq_zero_or_pos l.length with e | e
      · exact List.eq_nil_of_length_eq_zero e
      · obtain ⟨b, sp, rest, zz, t, e1, _⟩ := hb e
        cases e1
    subst hl0
    simp only [ir66, Nat.reduceAdd, Nat.reduceSub, wkF, ↓reduceIte, reduceCtorEq, wkN, wkG, wkH]
    exact leaf1 ⟨Ext.refl _, fun _ => False, Or.inl ⟨rfl, rfl, fun _ h => h⟩, fun b hb => hb.elim⟩
  | some a =>
    have bs : pBuildSlice h 3 0 [.int .i64 0, .int .u64 0, .int .i64 0] [] = some (.slice (some ⟨2 * h.next, 0, none⟩) 0 0, h.alloc (.cells [] 3 false)) := rfl
    have f1 := alloc_fine (o := .cells [] 3 false) hf
    have e1 : Ext h (h.alloc (.cells [] 3 false)) := (Ext.refl h).alloc _
    have g1 : (h.alloc (.cells [] 3 false)).get (2 * h.next) = some (.cells [] 3 false) := get_alloc_new hf
    rcases Nat.eq_zero_or_pos l.length with e | e
    · have hl0 : l = [] := List.eq_nil_of_length_eq_zero e
      subst hl0
      have ap : iappend (h.alloc (.cells [] 3 false)) 3 24 (.slice (some ⟨2 * h.next, 0, none⟩) 0 0) (.slice (some a) 0 c) = some (.slice (some ⟨2 * h.next, 0, none⟩) 0 0, h.alloc (.cells [] 3 false)) := rfl
      simp only [ir66, Nat.reduceAdd, Nat.reduceSub, bs, ap, wkF, ↓reduceIte, reduceCtorEq, wkN, wkG, wkH]
      refine leaf1 ⟨e1, fun x => x = 2 * h.next, Or.inr ⟨2 * h.next, 0, [], none, 3, false, rfl, fun x => Iff.rfl, Nat.le_refl _, rfl, Or.inr rfl, g1⟩, fun b hb => ?_⟩
      subst hb
      exact ⟨by omega, Nat.le_refl _, by show 2 * h.next < 2 * (h.next + 1); omega⟩
    · obtain ⟨b, sp, rest, zz, t, hp, b2, b3⟩ := hb e
      cases hp
      have b3' := (e1.old b b2).trans b3
      have ap : iappend (h.alloc (.cells [] 3 false)) 3 24 (.slice (some ⟨2 * h.next, 0, none⟩) 0 0) (.slice (some ⟨b, 0, sp⟩) l.length c) = some (.slice (some ⟨2 * (h.next + 1), 0, some 3⟩) l.length l.length, (h.alloc (.cells [] 3 false)).alloc (.cells (l.flatMap ic) 3 true)) := by
        unfold iappend
        simp only [lenOf?]
        rw [if_neg (by omega)]
        simp only [slice_firstN b3', Nat.zero_add]
        rw [if_neg (by omega), if_pos ⟨by unfold roomMost; omega, by unfold roomMost; omega⟩]
        have fz : firstN (h.alloc (.cells [] 3 false)) 3 0 (.slice (some ⟨2 * h.next, 0, none⟩) 0 0) = some [] := rfl
        have i1 : isCells (h.alloc (.cells [] 3 false)) (2 * h.next) = true := by unfold isCells; rw [g1]
        have i2 : spotOk 3 (⟨2 * h.next, 0, none⟩ : Addr) = true := rfl
        have i3 : reaches (h.alloc (.cells [] 3 false)) 3 ⟨2 * h.next, 0, none⟩ 0 = false := by
          unfold reaches
          simp only [g1]
          rfl
        simp only [fz, i1, i2, i3, Bool.not_true, Bool.or_self, Bool.false_eq_true, if_false, List.nil_append]
        rfl
      simp only [ir66, Nat.reduceAdd, Nat.reduceSub, bs, ap, wkF, ↓reduceIte, reduceCtorEq, wkN, wkG, wkH]
      refine leaf1 ⟨e1.alloc _, fun x => x = 2 * (h.next + 1), Or.inr ⟨2 * (h.next + 1), l.length, [], some 3, 3, true, rfl, fun x => Iff.rfl, Nat.le_refl _, by simp, Or.inl ⟨rfl, rfl⟩, by rw [List.append_nil]; exact get_alloc_new f1⟩, fun b hb => ?_⟩
      subst hb
      refine ⟨by omega, by omega, ?_⟩
      show 2 * (h.next + 1) < 2 * (h.next + 1 + 1)
      omega
theorem list_h {n : Nat} (hl : l.length ≤ 1000000) (O : Has ro h (Qr qb l :: R)) :
    (callV env (n + 2) (.func (.func 53) #[] #[]) [.pointer (some ⟨qb, 0, none⟩)] h).Is fun q => Has ro q.2 (Sc 3 ic q.1 l :: Qr qb l :: R) := by
  obtain ⟨v, sb, Q, k⟩ := Has.qr O
  refine call_is env53 ?_
  have r1 := Q.rd
  simp only [ir53, Nat.reduceAdd, Nat.reduceSub, r1, wkF, ↓reduceIte, reduceCtorEq, wkN, wkG, wkH]
  refine Z_is (clone_n (n := n) hl O.fine Q.view) ?_
  rintro v2 k2 ⟨q1, q2⟩
  simp only [wkF, ↓reduceIte, reduceCtorEq, Nat.reduceAdd, wkG, wkH]
  exact leaf1 (O.new q1 q2)
theorem delete_ok {n b c i : Nat} {rest : List Value} (hl : l.length ≤ 1000000) (hi : i < l.length) (hc : l.length ≤ c) (hr : rest.length = (c - l.length) * 3) (O : Has ro h (Ob b (.cells (l.flatMap ic ++ rest) 3 true) :: R)) :
    (callV env (n + 1) (.func (.func 68) #[] #[]) [.slice (some ⟨b, 0, some 3⟩) l.length c, .int .i64 (i : Int), .int .i64 ((i + 1 : Nat) : Int)] h).Is fun q => q.1 = .slice (some ⟨b, 0, some 3⟩) (l.eraseIdx i).length c ∧ ∃ rest', rest'.length = (c - (l.eraseIdx i).length) * 3 ∧ Has ro q.2 (Ob b (.cells ((l.eraseIdx i).flatMap ic ++ rest') 3 true) :: R) := by
  refine call_is env68 ?_
  have hle : (l.eraseIdx i).length = l.length - 1 := by rw [List.length_eraseIdx, if_pos hi]
  have hfl := flatMap_len ic_len l
  have s1 := vSlice_lhm (len := l.length) (cap := c) (lo := i) (hi := i + 1) (mx := l.length) (z := 3) (b := b) (off := 0) (k := .i64) (k' := .i64) (k'' := .i64) (sp := some 3) (by omega) (by omega) hc spotOk_some
  have s2 := vSlice_h (len := l.length) (cap := c) (hi := i) (z := 3) (b := b) (off := 0) (k' := .i64) (sp := some 3) (by omega) spotOk_some
  have s3 := vSlice_l (len := l.length) (cap := c) (lo := i + 1) (z := 3) (b := b) (off := 0) (k := .i64) (sp := some 3) (by omega) spotOk_some
  have d1 : decide ((i : Int) = ((i + 1 : Nat) : Int)) = false := decide_eq_false (by omega)
  have g := O.get 0 rfl
  -- what is moved
  obtain ⟨w, h2, Y, ap, hY, O2⟩ : ∃ (w : Value) (h2 : Heap) (Y : List Value), iappend h 3 24 (.slice (some ⟨b, 0, some 3⟩) i c) (.slice (some ⟨b, 0 + (i + 1) * 3, some 3⟩) (l.length - (i + 1)) (c - (i + 1))) = some (.slice (some ⟨b, 0, some 3⟩) (l.length - 1) c, h2) ∧ Y.length = 3 + rest.length ∧ Has ro h2 (Ob b (.cells ((l.eraseIdx i).flatMap ic ++ Y) 3 true) :: R) ∧ w = .bool true := by
    have hA := flatMap_len ic_len (l.take i)
    have hB := flatMap_len ic_len (l.drop (i + 1))
    have hD := flatMap_len ic_len (l.drop i)
    have hsp : l.flatMap ic = (l.take i).flatMap ic ++ (l.drop i).flatMap ic := by rw [← List.flatMap_append, List.take_append_drop]
    have her : l.eraseIdx i = l.take i ++ l.drop (i + 1) := List.eraseIdx_eq_take_drop_succ _ _
    rw [List.length_take, Nat.min_eq_left (by omega)] at hA
    rw [List.length_drop] at hB hD
    by_cases hlast : l.length - (i + 1) = 0
    · refine ⟨.bool true, h, (l.drop i).flatMap ic ++ rest, ?_, by rw [List.length_append]; omega, ?_, rfl⟩
      · unfold iappend
        simp only [lenOf?, hlast, if_true]
        rw [show l.length - 1 = i by omega]
      · have : l.drop (i + 1) = [] := List.drop_eq_nil_of_le (by omega)
        rw [her, this, List.append_nil, ← List.append_assoc, ← hsp]
        exact O
    · have hf1 : firstN h 3 (l.length - (i + 1)) (.slice (some ⟨b, 0 + (i + 1) * 3, some 3⟩) (l.length - (i + 1)) (c - (i + 1))) = some ((l.drop (i + 1)).flatMap ic) := by
        rw [firstN_slice, if_neg (by omega)]
        show h.read ⟨b, 0 + (i + 1) * 3, none⟩ ((l.length - (i + 1)) * 3) = _
        rw [read_eq, g]
        simp only [readC, readN]
        rw [if_pos (by rw [List.length_append]; omega)]
        have hs2 : l.flatMap ic = (l.take (i + 1)).flatMap ic ++ (l.drop (i + 1)).flatMap ic := by rw [← List.flatMap_append, List.take_append_drop]
        have hA2 := flatMap_len ic_len (l.take (i + 1))
        rw [List.length_take, Nat.min_eq_left (by omega)] at hA2
        rw [hs2, List.append_assoc, show 0 + (i + 1) * 3 = ((l.take (i + 1)).flatMap ic).length by omega, List.drop_left, ← hB, List.take_left']
        rfl
      have hone : ((l.drop (i + 1)).flatMap ic).all oneCell = true := by
        rw [List.all_flatMap, List.all_eq_true]
        intro y _
        exact ic_one y
      refine ⟨.bool true, h.setB b (.cells ((l.take i).flatMap ic ++ ((l.drop (i + 1)).flatMap ic ++ ((l.drop i).flatMap ic ++ rest).drop ((l.drop (i + 1)).flatMap ic).length)) 3 true), ((l.drop i).flatMap ic ++ rest).drop ((l.drop (i + 1)).flatMap ic).length, ?_, by rw [List.length_drop, List.length_append]; omega, ?_, rfl⟩
      · unfold iappend
        simp only [lenOf?, hf1]
        rw [if_neg hlast, if_pos (by omega), write_eq, g, writeC_cells, if_pos ⟨by rw [List.length_append]; omega, hone, O.can 0 rfl⟩, hsp, List.append_assoc, show 0 + i * 3 = ((l.take i).flatMap ic).length by omega, setAt_append _ _ _ (by rw [List.length_append]; omega), show i + (l.length - (i + 1)) = l.length - 1 by omega]
      · rw [her, List.flatMap_append, List.append_assoc]
        exact O.set 0 rfl _
  have g2 := O2.1.get 0 rfl
  have p2 := O2.1.can 0 rfl
  have hE := flatMap_len ic_len (l.eraseIdx i)
  have s4 := vSlice_lh (len := l.length - 1) (cap := c) (lo := l.length - 1) (hi := l.length) (z := 3) (b := b) (off := 0) (k := .i64) (k' := .i64) (sp := some 3) (by omega) hc spotOk_some
  have hcl : vClear h2 3 [.int .i64 0, .int .u64 0, .int .i64 0] (.slice (some ⟨b, 0 + (l.length - 1) * 3, some 3⟩) (l.length - (l.length - 1)) (c - (l.length - 1))) = some (h2.setB b (.cells ((l.eraseIdx i).flatMap ic ++ ([.int .i64 0, .int .u64 0, .int .i64 0] ++ Y.drop 3)) 3 true)) := by
    unfold vClear
    simp only []
    rw [if_neg (by omega), show l.length - (l.length - 1) = 1 by omega]
    show (match h2.write ⟨b, 0 + (l.length - 1) * 3, none⟩ [.int .i64 0, .int .u64 0, .int .i64 0] with | some h' => if 3 = 3 then some h' else none | none => none) = _
    rw [write_eq, g2, writeC_cells, if_pos ⟨by rw [List.length_append]; simp only [List.length_cons, List.length_nil]; omega, rfl, p2⟩, show 0 + (l.length - 1) * 3 = ((l.eraseIdx i).flatMap ic).length by omega, setAt_append _ _ _ (by simp only [List.length_cons, List.length_nil]; omega)]
    rfl
  rw [Nat.zero_add] at s1 s3 s4 ap hcl
  simp only [ir68, Nat.reduceAdd, Nat.reduceSub, s1, d1, wkF, ↓reduceIte, reduceCtorEq, wkN, wkG, wkH]
  refine X_drawn _ fun an => ?_
  simp only [s2, s3, ap, s4, hcl, wkF, ↓reduceIte, reduceCtorEq, Nat.reduceAdd, wkG, wkH]
  refine leaf1 ?_
  exact ⟨by rw [hle]; rfl, _, by rw [List.length_append, List.length_drop, hle]; simp only [List.length_cons, List.length_nil]; omega, O2.1.set 0 rfl _⟩
theorem agg_ic (x : It) : Value.agg (ic x).toArray = iv x := rfl
theorem rd_full (x : It) : readN (ic x) 0 3 = some (ic x) := rfl
theorem tk_ic (x : It) : List.take 3 (ic x) = ic x := rfl
theorem set_ic (a b c : Value) (x : It) : setAt [a, b, c] 0 (ic x) = ic x := rfl
def CutIs (l : List It) (r : Int) (a : Bool) (l' : List It) : Prop := (a = false ∧ IsPlace l r (-1) ∧ l' = l) ∨ (a = true ∧ ∃ i : Nat, IsPlace l r (i : Int) ∧ i < l.length ∧ l' = l.eraseIdx i)
theorem cut_h {n : Nat} {r : Int} (hn : 40 < n) (hl : l.length ≤ 8) (O : Has ro h (Qr qb l :: R)) :
    (callV env (n + 4) (.func (.func 54) #[] #[]) [.pointer (some ⟨qb, 0, none⟩), .int .i64 r] h).Is fun p => ∃ a l', p.1 = .bool a ∧ CutIs l r a l' ∧ Has ro p.2 (Qr qb l' :: R) := by
  obtain ⟨v, sb, Q, k⟩ := Has.qr O
  refine call_is env54 ?_
  simp only [ir54, Nat.reduceAdd, Nat.reduceSub, wkF, ↓reduceIte, reduceCtorEq, wkN, wkG, wkH]
  refine Z_is (place_ok (n := n) (r := r) (by omega) (by omega) O.fine Q) ?_
  rintro v2 k2 ⟨⟨kk, hk, rfl⟩, e2⟩
  simp only at e2
  replace O := O.ext e2
  have hpl := hk
  rcases hk with ⟨rfl, hno⟩ | ⟨i, rfl, hi, hr, hno⟩
  · have m1 : ¬ (0 : Int) ≤ -1 := by omega
    simp only [m1, wkF, ↓reduceIte, reduceCtorEq, Nat.reduceAdd, wkG, wkH]
    exact leaf1 ⟨false, l, rfl, Or.inl ⟨rfl, hpl, rfl⟩, O⟩
  · have m1 : (0 : Int) ≤ (i : Int) := by omega
    have y1 : IntKind.i64.wrap ((i : Int) + 1) = ((i + 1 : Nat) : Int) := by rw [wrap_i64 (by omega) (by omega)]; omega
    obtain ⟨v3, O3⟩ := Has.ex.1 O
    replace O3 := (Has.star.1 O3).swap2
    rcases O3.slrOpen with ⟨rfl, _⟩ | ⟨b, c, rest, rfl, b3, b4, O4⟩
    · simp at hi
    have g1 := O4.get 1 rfl
    simp only [m1, g1, y1, wkF, ↓reduceIte, reduceCtorEq, Nat.reduceAdd, Nat.reduceLeDiff, Nat.reduceMul, Nat.reduceLT, Nat.reduceEqDiff, wkG, wkH]
    refine Z_is (delete_ok (n := n + 2) (i := i) (by omega) hi b3 b4 O4) ?_
    rintro w3 h3 ⟨rfl, rest', b5, O5⟩
    simp only at O5
    have g2 := O5.get 1 rfl
    have p2 := O5.can 1 rfl
    have O6 := O5.set 1 rfl (.cells [.slice (some ⟨b, 0, some 3⟩) (l.eraseIdx i).length c] 1 false)
    simp only [List.set_cons_succ, List.set_cons_zero] at O6
    simp only [m1, g2, p2, slI, wkF, ↓reduceIte, reduceCtorEq, Nat.reduceAdd, Nat.reduceLeDiff, Nat.reduceMul, Nat.reduceLT, Nat.reduceEqDiff, wkG, wkH]
    have hle : (l.eraseIdx i).length = l.length - 1 := by rw [List.length_eraseIdx, if_pos hi]
    exact leaf1 ⟨true, l.eraseIdx i, rfl, Or.inr ⟨rfl, i, hpl, hi, rfl⟩, Has.ex.2 ⟨_, Has.star.2 (Has.slrClose rfl (by omega) b5 O6).swap2⟩⟩
theorem first_h {n : Nat} (hn : 40 < n) (hl : l.length ≤ 8) (O : Has ro h (Qr qb l :: R)) :
    (callV env (n + 3) (.func (.func 57) #[] #[]) [.pointer (some ⟨qb, 0, none⟩)] h).Is fun p => p.1 = .tuple #[iv (nth l 0), .bool (decide (0 < l.length))] ∧ Has ro p.2 (Qr qb l :: R) := by
  refine call_is env57 ?_
  simp only [ir57, Nat.reduceAdd, Nat.reduceSub, wkF, X_seq, Y_store, Y_makeMap, Y_buildSlice, ↓reduceIte, reduceCtorEq, wkO, wkS, wkN, wkG]
  refine Y_boxO O ?_
  intro bA h1 O e1
  simp only [wkF, X_seq, Y_store, Y_makeMap, Y_buildSlice, ↓reduceIte, reduceCtorEq, wkO, wkS, Nat.reduceAdd, wkG]
  refine Y_boxO O ?_
  intro bB h2 O e2
  simp only [cellsOf_bool, wkF, ↓reduceIte, reduceCtorEq, Nat.reduceAdd, wkG, wkH]
  refine Z_is (all_ok (n := n + 1)) ?_
  rintro v3 h3 ⟨rfl, rfl⟩
  replace O := O.alloc (.cells [.pointer (some ⟨qb, 0, none⟩)] 1 false)
  simp only [wkF, ↓reduceIte, reduceCtorEq, Nat.reduceAdd, wkG, wkH]
  generalize 2 * h2.next = bE at O ⊢
  refine X_abs O ?_
  clear O e1 e2
  intro h4 O
  refine X_rangeO O (g := 73) (first := #[]) rfl ?_
  intro m l1 h5 O5
  refine call_is env73 ?_
  have gE := O5.get 2 rfl
  obtain ⟨v6, O6⟩ := Has.ex.1 (O5.at 5 rfl)
  replace O6 := Has.star.1 O6
  have gq := O6.get 0 rfl
  obtain ⟨pv, cv, rfl, hblk⟩ := O6.slrVal 1 rfl
  simp only [ir73, Nat.reduceAdd, Nat.reduceSub, gE, gq, wkF, ↓reduceIte, reduceCtorEq, Nat.reduceLeDiff, Nat.reduceMul, Nat.reduceLT, Nat.reduceEqDiff, wkN, wkG, wkH]
  refine L_is (fun q s => s.defers = [] ∧ s.tmps.length = 23 ∧ s.tmps.getD 0 undefV = .func (.yield l1) #[] #[] ∧ s.tmps.getD 10 undefV = .slice pv l.length cv ∧ s.tmps.getD 11 undefV = .int .i64 (l.length : Int) ∧ s.tmps.getD 12 undefV = .int .i64 0 ∧ s.h = h5) 0 ?_ (by omega) ?_
  · exact ⟨rfl, rfl, rfl, rfl, rfl, rfl, rfl⟩
  rintro q tm df h6 ⟨hd, hlen_, g0, g10, g11, g12, hh⟩
  simp only at hd hh g0 g10 g11 g12
  subst hd hh
  obtain ⟨w, hg_, rfl⟩ := explode hlen_
  simp only [hg_] at g0 g10 g11 g12
  clear hlen_ hg_
  by_cases h0 : 0 < l.length
  · have h0' : (0 : Int) < (l.length : Int) := by omega
    obtain ⟨b, rest, rfl, hgb, _, _⟩ := hblk h0
    have r1 : readC (h6.get b) 0 3 = some (ic (nth l 0)) := rd_all (i := 0) ic_len (nth_get h0) hgb
    simp only [g0, g10, g11, g12, h0', r1, agg_ic, Int.le_refl, wkF, X_seq, Y_store, Y_makeMap, Y_buildSlice, ↓reduceIte, reduceCtorEq, wkO, wkS, Nat.reduceAdd, wkG]
    refine Y_boxO O5 ?_
    intro b7 h7 O7 e7
    have g7 := O7.get 0 rfl
    have p7 := O7.can 0 rfl
    have O8 := O7.set 0 rfl (.cells (ic (nth l 0)) 1 false)
    simp only [List.set_cons_zero] at O8
    have g8 := O8.get 0 rfl
    simp only [g7, p7, g8, set_ic, iv_cells, ic_len, ic_one, rd_full, tk_ic, agg_ic, wkF, ↓reduceIte, reduceCtorEq, Nat.reduceAdd, Nat.reduceLeDiff, Nat.reduceMul, Nat.reduceLT, Nat.reduceEqDiff, wkG, wkH]
    have O9 := (O8.at 1 rfl)
    simp only [List.eraseIdx_cons_succ, List.eraseIdx_cons_zero] at O9
    refine Z_is (R := fun p => p.1 = .bool false ∧ ∃ lp L', lp.state ≠ .busy ∧ Has ro p.2 (Ob l1 (.loop lp) :: L') ∧ lp.pending = .ret ∧ L' = (Ob b7 (.cells (ic (nth l 0)) 1 false) :: Ob m (.deferred true) :: Ob bE (.cells [.pointer (some ⟨qb, 0, none⟩)] 1 false) :: Ob bB (.cells [.bool true] 1 false) :: Ob bA (.cells (ic (nth l 0)) 1 false) :: Qr qb l :: R)) ?_ ?_
    · rw [callV_yield]
      refine round_isO O9 rfl rfl ?_
      clear O5 O6 O7 O8 g7 p7 g8 gE gq hgb r1 g0 g10 g11 g12
      simp only [List.nil_append, wkF, X_seq, Y_store, Y_makeMap, Y_buildSlice, ↓reduceIte, reduceCtorEq, wkO, wkS, Nat.reduceAdd, wkG]
      refine Y_boxO O9 ?_
      intro b10 h10 O10 e10
      have g10 := O10.get 0 rfl
      have p10 := O10.can 0 rfl
      have O11 := (O10.set 0 rfl (.cells (ic (nth l 0)) 1 false)).swap2
      simp only [List.nil_append, g10, p10, set_ic, iv_cells, ic_len, ic_one, wkF, ↓reduceIte, reduceCtorEq, Nat.reduceAdd, Nat.reduceLeDiff, Nat.reduceMul, Nat.reduceLT, Nat.reduceEqDiff, wkG, wkH]
      refine Is_in ⟨rfl, _, O11, fun h12 O12 => ?_⟩
      have gX := O12.get 1 rfl
      have gA := O12.get 6 rfl
      have pA := O12.can 6 rfl
      have O13 := O12.set 6 rfl (.cells (ic (nth l 0)) 1 false)
      simp only [List.set_cons_succ, List.set_cons_zero] at O13
      have gB := O13.get 5 rfl
      have pB := O13.can 5 rfl
      have O14 := O13.set 5 rfl (.cells [.bool true] 1 false)
      simp only [List.set_cons_succ, List.set_cons_zero] at O14
      simp only [gX, gA, pA, gB, pB, set_ic, iv_cells, ic_len, ic_one, rd_full, tk_ic, agg_ic, wkF, ↓reduceIte, reduceCtorEq, Nat.reduceAdd, Nat.reduceLeDiff, Nat.reduceMul, Nat.reduceLT, Nat.reduceEqDiff, wkG, wkH]
      refine Is_in ⟨_, _, O14, fun h15 O15 => ?_⟩
      exact ⟨rfl, _, _, (by intro h; cases h), O15.rid 1 rfl, rfl, rfl⟩
    · rintro v9 h9 ⟨rfl, lp, L', hst, O10, hpd, rfl⟩
      simp only [wkF, ↓reduceIte, reduceCtorEq, Nat.reduceAdd, wkG, wkH]
      refine Is_in ?_
      simp only [wkF, ↓reduceIte, reduceCtorEq, Nat.reduceAdd, wkG, wkH]
      refine leaf0 ⟨lp, _, hst, O10, fun h11 O11 => ?_⟩
      rw [hpd]
      simp only [wkF, ↓reduceIte, reduceCtorEq, Nat.reduceAdd, wkG, wkH]
      refine leafMO O11 1 rfl fun h12 O12 => ?_
      simp only [List.set_cons_succ, List.set_cons_zero] at O12
      exact ⟨_, answer2 _ _ _ _ (cellN O12 4 rfl rfl rfl) (cell1 O12 3 rfl rfl), by rw [decide_eq_true h0]; rfl, O12.drop.drop.drop.drop.drop⟩
  · have h0' : ¬ (0 : Int) < (l.length : Int) := by omega
    have hl0 : l = [] := List.eq_nil_of_length_eq_zero (by omega)
    simp only [g0, g10, g11, g12, h0', wkF, ↓reduceIte, reduceCtorEq, Nat.reduceAdd, wkG, wkH]
    refine Is_in ?_
    simp only [wkF, ↓reduceIte, reduceCtorEq, Nat.reduceAdd, wkG, wkH]
    refine leaf0n ⟨_, _, ?_, O5, fun h11 O11 => ?_⟩
    · intro h; cases h
    · have gA := O11.get 3 rfl
      have pA := O11.can 3 rfl
      have O13 := O11.set 3 rfl (.cells (ic it0) 1 false)
      simp only [List.set_cons_succ, List.set_cons_zero] at O13
      have gB := O13.get 2 rfl
      have pB := O13.can 2 rfl
      have O14 := O13.set 2 rfl (.cells [.bool false] 1 false)
      simp only [List.set_cons_succ, List.set_cons_zero] at O14
      unfold ic it0 at gB pB O14
      simp only [gA, pA, gB, pB, wkF, ↓reduceIte, reduceCtorEq, Nat.reduceAdd, Nat.reduceLeDiff, Nat.reduceMul, Nat.reduceLT, Nat.reduceEqDiff, wkG, wkH]
      refine leafMO O14 0 rfl fun h12 O12 => ?_
      simp only [List.set_cons_succ, List.set_cons_zero] at O12
      subst hl0
      exact ⟨_, answer2 _ _ _ _ (cellN O12 3 rfl rfl rfl) (cell1 O12 2 rfl rfl), rfl, O12.drop.drop.drop.drop⟩
end
structure En where
  o : Int
  g : Int
deriving DecidableEq
def ec (e : En) : List Value := [.int .i64 e.o, .int .u32 e.g]
def ev (e : En) : Value := .agg #[.int .i64 e.o, .int .u32 e.g]
def e0 : En := ⟨-1, 0⟩
theorem ev_cells (e : En) : cellsOf (ev e) = ec e := rfl
theorem ec_len (e : En) : (ec e).length = 2 := rfl
theorem ec_one (e : En) : (ec e).all oneCell = true := rfl
theorem agg_ec (e : En) : Value.agg (ec e).toArray = ev e := rfl
theorem rd_ec (e : En) : readN (ec e) 0 2 = some (ec e) := rfl
theorem rd_ec0 (e : En) : readN (ec e) 0 1 = some [.int .i64 e.o] := rfl
theorem rd_ec1 (e : En) : readN (ec e) 1 1 = some [.int .u32 e.g] := rfl
theorem tk_ec1 (e : En) : List.take 1 (ec e) = [.int .i64 e.o] := rfl
theorem dr_ec1 (e : En) : List.drop 1 (ec e) = [.int .u32 e.g] := rfl
theorem tk_ec (e : En) : List.take 2 (ec e) = ec e := rfl
theorem cells_e0 : cellsOf (.agg #[.int .i64 (-1), .int .u32 0]) = ec e0 := rfl
theorem z_cells : cellsOf (.agg #[.int .i64 0, .int .u32 0]) = [.int .i64 0, .int .u32 0] := rfl
theorem z_set : setAt [Value.int .i64 0, .int .u32 0] 0 [.int .i64 0, .int .u32 0] = [.int .i64 0, .int .u32 0] := rfl
theorem set_ec (a b : Value) (e : En) : setAt [a, b] 0 (ec e) = ec e := rfl
theorem eq_ev (neg : Bool) (x y : En) : vEqAgg neg [.int, .int] (ev x) (ev y) = some (.bool (decide (x = y) != neg)) := by
  obtain ⟨a, b⟩ := x
  obtain ⟨d, e⟩ := y
  have ha : ((a == d) = decide (a = d)) := rfl
  have hb : ((b == e) = decide (b = e)) := rfl
  unfold vEqAgg aggEq ev
  cases neg <;> by_cases h1 : a = d <;> by_cases h2 : b = e <;> simp [cellsEq, cellEq, ha, hb, h1, h2]
structure Ls where
  home : Int
  rob : Int
  cells : Int
  ents : List (Int × En)
  qs : List (Int × Nat)
  told : List (Int × Int)
  W : Int → List It
def K64 : KeyK Int := intKey .i64
def pq (b : Nat) : Value := .pointer (some ⟨b, 0, none⟩)
def tv (x : Int) : Value := .int .i64 x
def Qall (qs : List (Int × Nat)) (W : Int → List It) : Rs := Rs.all (qs.map fun p => Qr p.2 (W p.1))
def lc (S : Ls) (eb qb tb : Nat) : List Value := [.int .i64 S.home, .int .i64 S.rob, .int .i64 S.cells, .map (some eb), .map (some qb), .map (some tb)]
def Lg (lb : Nat) (S : Ls) : Rs := Rs.ex fun x : Nat × Nat × Nat => Rs.all [Ob lb (.cells (lc S x.1 x.2.1 x.2.2) 1 false), Mp K64 ev x.1 S.ents, Mp K64 pq x.2.1 S.qs, Mp K64 tv x.2.2 S.told, Qall S.qs S.W]
def Ls.E (S : Ls) (c : Int) : En := (lk S.ents c).getD e0
def Ls.Is (S : Ls) (c : Int) : Prop := S.rob ≠ 0 ∧ 0 ≤ c ∧ c < S.cells ∧ c.tmod S.rob = S.home
instance (S : Ls) (c : Int) : Decidable (S.Is c) := by unfold Ls.Is; infer_instance
def Ls.Rob (S : Ls) (r : Int) : Prop := S.rob ≠ 0 ∧ 0 ≤ r ∧ r < S.rob
instance (S : Ls) (c : Int) : Decidable (S.Rob c) := by unfold Ls.Rob; infer_instance
section
variable {ro : Nat → Option (List Value × Nat)} {h : Heap} {R : List Rs} {lb : Nat} {S : Ls}
theorem Has.lgOpen (O : Has ro h (Lg lb S :: R)) : ∃ eb qb tb, Has ro h (Ob lb (.cells (lc S eb qb tb) 1 false) :: Mp K64 ev eb S.ents :: Mp K64 pq qb S.qs :: Mp K64 tv tb S.told :: Qall S.qs S.W :: R) := by
  obtain ⟨⟨eb, qb, tb⟩, O⟩ := Has.ex.1 O
  exact ⟨eb, qb, tb, Has.all.1 O⟩
theorem Has.lgClose {eb qb tb : Nat} (O : Has ro h (Ob lb (.cells (lc S eb qb tb) 1 false) :: Mp K64 ev eb S.ents :: Mp K64 pq qb S.qs :: Mp K64 tv tb S.told :: Qall S.qs S.W :: R)) : Has ro h (Lg lb S :: R) :=
  Has.ex.2 ⟨(eb, qb, tb), Has.all.2 O⟩
theorem qs_perm {qs : List (Int × Nat)} {c : Int} {b : Nat} (hn : NoDup qs) (hk : lk qs c = some b) : qs.Perm ((c, b) :: del1 qs c) := by
  induction qs with
  | nil => cases hk
  | cons p qs ih =>
    obtain ⟨x, y⟩ := p
    rw [lk_cons] at hk
    unfold NoDup at hn
    rw [List.map_cons, List.nodup_cons] at hn
    unfold del1
    by_cases e : x = c
    · subst e
      rw [if_pos rfl] at hk
      cases hk
      rw [List.filter_cons, if_neg (by simp)]
      have : qs.filter (fun p => decide (p.1 ≠ x)) = qs := by
        rw [List.filter_eq_self]
        intro q hq
        simp only [ne_eq, decide_not, Bool.not_eq_true', decide_eq_false_iff_not]
        rintro rfl
        exact hn.1 (List.mem_map.2 ⟨q, hq, rfl⟩)
      rw [this]
    · rw [if_neg e] at hk
      rw [List.filter_cons, if_pos (by simpa using e)]
      exact ((ih hn.2 hk).cons _).trans (List.Perm.swap _ _ _)
def updW (W : Int → List It) (c : Int) (l : List It) : Int → List It := fun x => if x = c then l else W x
theorem rest_same {qs : List (Int × Nat)} {W : Int → List It} {c : Int} {l : List It} : (del1 qs c).map (fun p => Qr p.2 (updW W c l p.1)) = (del1 qs c).map fun p => Qr p.2 (W p.1) := by
  apply List.map_congr_left
  intro p hp
  unfold del1 at hp
  have : p.1 ≠ c := by simpa using (List.mem_filter.1 hp).2
  unfold updW
  rw [if_neg this]
theorem Has.qOpen {qs : List (Int × Nat)} {W : Int → List It} {c : Int} {b : Nat} (hn : NoDup qs) (hk : lk qs c = some b) (O : Has ro h (Qall qs W :: R)) :
    Has ro h (Qr b (W c) :: Rs.all ((del1 qs c).map fun p => Qr p.2 (W p.1)) :: R) := by
  have O1 := Has.all.1 O
  have pm := ((qs_perm hn hk).map fun p => Qr p.2 (W p.1)).append_right R
  have O2 := O1.perm pm
  rw [List.map_cons, List.cons_append] at O2
  have O3 : Has ro h (((del1 qs c).map fun p => Qr p.2 (W p.1)) ++ (Qr b (W c) :: R)) := O2.perm List.perm_middle.symm
  exact (Has.all.2 O3).swap2
theorem Has.qClose {qs : List (Int × Nat)} {W : Int → List It} {c : Int} {b : Nat} {l : List It} (hn : NoDup qs) (hk : lk qs c = some b) (O : Has ro h (Qr b l :: Rs.all ((del1 qs c).map fun p => Qr p.2 (W p.1)) :: R)) :
    Has ro h (Qall qs (updW W c l) :: R) := by
  have O1 := Has.all.1 O.swap2
  have O2 : Has ro h (Qr b l :: (((del1 qs c).map fun p => Qr p.2 (W p.1)) ++ R)) := O1.perm List.perm_middle
  refine Has.all.2 (O2.perm ?_)
  have pm := ((qs_perm hn hk).map fun p => Qr p.2 (updW W c l p.1)).append_right R
  refine List.Perm.trans ?_ pm.symm
  rw [List.map_cons, List.cons_append, rest_same]
  have : updW W c l c = l := by unfold updW; rw [if_pos rfl]
  rw [this]
end
theorem env30 : env 30 = some ir30 := rfl
theorem env31 : env 31 = some ir31 := rfl
theorem env26 : env 26 = some ir26 := rfl
theorem env33 : env 33 = some ir33 := rfl
theorem env32 : env 32 = some ir32 := rfl
theorem bin_rem (x y : Int) (hy : y ≠ 0) : ibin .rem (.int .i64 x) (.int .i64 y) = some (.int .i64 (x.tmod y)) := by
  simp only [ibin, if_neg hy, if_true]
section
variable {ro : Nat → Option (List Value × Nat)} {h : Heap} {R : List Rs} {lb : Nat} {S : Ls} {n : Nat}
theorem none_g {eb qb tb : Nat} (g : h.get lb = some (.cells (lc S eb qb tb) 1 false)) : (callV env (n + 1) (.func (.func 30) #[] #[]) [.pointer (some ⟨lb, 0, none⟩)] h).Is fun p => p = (.bool (decide (S.rob = 0)), h) := by
  refine call_is env30 ?_
  unfold lc at g
  simp only [ir30, Nat.reduceAdd, Nat.reduceSub, g, wkF, ↓reduceIte, reduceCtorEq, Nat.reduceLeDiff, Nat.reduceMul, Nat.reduceLT, Nat.reduceEqDiff, wkN, wkG, wkH]
  exact leaf1 rfl
theorem robot_g {eb qb tb : Nat} (r : Int) (g : h.get lb = some (.cells (lc S eb qb tb) 1 false)) : (callV env (n + 2) (.func (.func 31) #[] #[]) [.pointer (some ⟨lb, 0, none⟩), .int .i64 r] h).Is fun p => p = (.bool (decide (S.Rob r)), h) := by
  refine call_is env31 ?_
  simp only [ir31, Nat.reduceAdd, Nat.reduceSub, wkF, ↓reduceIte, reduceCtorEq, wkN, wkG, wkH]
  refine Z_is (none_g g) ?_
  rintro v h1 ⟨rfl, rfl⟩
  unfold lc at g
  unfold Ls.Rob
  by_cases h0 : S.rob = 0
  · simp only [h0, wkF, ↓reduceIte, reduceCtorEq, Nat.reduceAdd, wkG, wkH]
    exact leaf1 (by simp [h0])
  by_cases h1 : 0 ≤ r
  · simp only [h0, h1, g, wkF, ↓reduceIte, reduceCtorEq, Nat.reduceAdd, Nat.reduceLeDiff, Nat.reduceMul, Nat.reduceLT, Nat.reduceEqDiff, wkG, wkH]
    exact leaf1 (by simp [h0, h1])
  · simp only [h0, h1, wkF, ↓reduceIte, reduceCtorEq, Nat.reduceAdd, wkG, wkH]
    exact leaf1 (by simp [h0, h1])
theorem first_e (hf : h.Fine) : (callV env (n + 1) (.func (.func 33) #[] #[]) [] h).Is fun p => p.1 = ev e0 ∧ Ext h p.2 := by
  have O : Has h.ro h [] := Has.zero hf rfl
  refine call_is env33 ?_
  simp only [ir33, Nat.reduceAdd, Nat.reduceSub, wkF, X_seq, Y_store, Y_makeMap, Y_buildSlice, ↓reduceIte, reduceCtorEq, wkO, wkS, Nat.reduceLeDiff, Nat.reduceMul, Nat.reduceLT, Nat.reduceEqDiff, wkN, wkG]
  refine Y_boxE O ?_
  intro b h1 be nb O1 e1
  replace O1 : Has h.ro h1 [Ob b (.cells [.int .i64 0, .int .u32 0] 1 false)] := O1
  have g1 := O1.get 0 rfl
  have p1 := O1.can 0 rfl
  have g2 : (h1.setB b (.cells [.int .i64 (-1), .int .u32 0] 1 false)).get b = some (.cells (ec e0) 1 false) := get_setB_same be (by rw [g1]; rfl)
  simp only [g1, p1, cells_e0, set_ec, ec_one, ec_len, wkF, ↓reduceIte, reduceCtorEq, Nat.reduceAdd, Nat.reduceLeDiff, Nat.reduceMul, Nat.reduceLT, Nat.reduceEqDiff, wkG, wkH]
  exact leafC (cs := ec e0) rfl (by rw [g2]; rfl) ⟨rfl, e1.setB b _ be nb⟩
theorem entry_e {eb qb tb : Nat} (c : Int) (O : Has ro h (Ob lb (.cells (lc S eb qb tb) 1 false) :: Mp K64 ev eb S.ents :: R)) : (callV env (n + 2) (.func (.func 32) #[] #[]) [.pointer (some ⟨lb, 0, none⟩), .int .i64 c] h).Is fun p => p.1 = ev (S.E c) ∧ Ext h p.2 := by
  refine call_is env32 ?_
  simp only [ir32, Nat.reduceAdd, Nat.reduceSub, wkF, X_seq, Y_store, Y_makeMap, Y_buildSlice, ↓reduceIte, reduceCtorEq, wkO, wkS, wkN, wkG]
  refine Y_boxE O ?_
  intro b h1 be nb O1 e1
  replace O1 : Has ro h1 (Ob b (.cells [.int .i64 0, .int .u32 0] 1 false) :: Ob lb (.cells (lc S eb qb tb) 1 false) :: Mp K64 ev eb S.ents :: R) := O1
  have g1 := O1.get 1 rfl
  unfold lc at g1
  have m1 := O1.mpLook 2 rfl c (.agg #[.int .i64 0, .int .u32 0]) true
  simp only [if_true] at m1
  have m1' : vLookup h1 none (.agg #[.int .i64 0, .int .u32 0]) true (.map (some eb)) (.int .i64 c) = _ := m1
  simp only [g1, m1', wkF, X_seq, Y_store, Y_makeMap, Y_buildSlice, ↓reduceIte, reduceCtorEq, wkO, wkS, Nat.reduceAdd, Nat.reduceLeDiff, Nat.reduceMul, Nat.reduceLT, Nat.reduceEqDiff, wkG]
  refine Y_boxE O1 ?_
  intro b2 h2 be2 nb2 O2 e2
  replace O2 : Has ro h2 (Ob b2 (.cells [.int .i64 0, .int .u32 0] 1 false) :: Ob b (.cells [.int .i64 0, .int .u32 0] 1 false) :: Ob lb (.cells (lc S eb qb tb) 1 false) :: Mp K64 ev eb S.ents :: R) := O2
  have e12 := e1.trans e2
  have nb2' : 2 * h.next ≤ b2 := by have := e1.next; omega
  have g2 := O2.get 0 rfl
  have p2 := O2.can 0 rfl
  cases hk : lk S.ents c with
  | none =>
    have hE : S.E c = e0 := by unfold Ls.E; rw [hk]; rfl
    have O3 := O2.set 0 rfl (.cells [.int .i64 0, .int .u32 0] 1 false)
    simp only [List.set_cons_zero] at O3
    simp only [hk, g2, p2, z_cells, z_set, Option.getD_none, wkF, ↓reduceIte, reduceCtorEq, Nat.reduceAdd, Nat.reduceLeDiff, Nat.reduceMul, Nat.reduceLT, Nat.reduceEqDiff, wkG, wkH]
    have e3 := e12.setB b2 (.cells [.int .i64 0, .int .u32 0] 1 false) be2 nb2'
    refine Z_is (first_e O3.fine) ?_
    rintro v h4 ⟨rfl, e4⟩
    simp only at e4
    have O4 := O3.ext e4
    have g4 := O4.get 1 rfl
    have p4 := O4.can 1 rfl
    have g5 : (h4.setB b (.cells (ec e0) 1 false)).get b = some (.cells (ec e0) 1 false) := get_setB_same be (by rw [g4]; rfl)
    simp only [g4, p4, ev_cells, set_ec, ec_one, ec_len, wkF, ↓reduceIte, reduceCtorEq, Nat.reduceAdd, Nat.reduceLeDiff, Nat.reduceMul, Nat.reduceLT, Nat.reduceEqDiff, wkG, wkH]
    exact leafC (cs := ec e0) rfl (by rw [g5]; rfl) ⟨by rw [hE]; rfl, (e3.trans e4).setB b _ be nb⟩
  | some e =>
    have hE : S.E c = e := by unfold Ls.E; rw [hk]; rfl
    have O3 := O2.set 0 rfl (.cells (ec e) 1 false)
    simp only [List.set_cons_zero] at O3
    have e3 := e12.setB b2 (.cells (ec e) 1 false) be2 nb2'
    have g3 := O3.get 0 rfl
    have g4 := O3.get 1 rfl
    have p4 := O3.can 1 rfl
    simp only [hk, g2, p2, Option.getD_some, ev_cells, set_ec, ec_one, ec_len, g3, g4, p4, rd_ec, tk_ec, agg_ec, wkF, ↓reduceIte, reduceCtorEq, Nat.reduceAdd, Nat.reduceLeDiff, Nat.reduceMul, Nat.reduceLT, Nat.reduceEqDiff, wkG, wkH]
    have g5 : ((h2.setB b2 (.cells (ec e) 1 false)).setB b (.cells (ec e) 1 false)).get b = some (.cells (ec e) 1 false) := get_setB_same be (by rw [g4]; rfl)
    exact leafC (cs := ec e) rfl (by rw [g5]; rfl) ⟨by rw [hE]; rfl, e3.setB b _ be nb⟩
theorem is_g {eb qb tb : Nat} (c : Int) (g : h.get lb = some (.cells (lc S eb qb tb) 1 false)) : (callV env (n + 2) (.func (.func 26) #[] #[]) [.pointer (some ⟨lb, 0, none⟩), .int .i64 c] h).Is fun p => p = (.bool (decide (S.Is c)), h) := by
  refine call_is env26 ?_
  simp only [ir26, Nat.reduceAdd, Nat.reduceSub, wkF, ↓reduceIte, reduceCtorEq, wkN, wkG, wkH]
  refine X_drawn _ fun an => ?_
  simp only [wkF, ↓reduceIte, reduceCtorEq, Nat.reduceAdd, wkG, wkH]
  refine DB_is (none_g g) ?_
  rintro v h1 ⟨rfl, rfl⟩
  unfold lc at g
  unfold Ls.Is
  by_cases h0 : S.rob = 0
  · simp only [h0, wkF, ↓reduceIte, reduceCtorEq, Nat.reduceAdd, wkG, wkH]
    exact leaf1 (by simp [h0])
  by_cases h1 : 0 ≤ c
  · by_cases h2 : c < S.cells
    · simp only [h0, h1, h2, g, seen0_nil_get, bin_rem c S.rob h0, wkF, ↓reduceIte, reduceCtorEq, Nat.reduceAdd, Nat.reduceLeDiff, Nat.reduceMul, Nat.reduceLT, Nat.reduceEqDiff, wkG, wkH]
      exact leaf1 (by simp [h0, h1, h2])
    · simp only [h0, h1, h2, g, wkF, ↓reduceIte, reduceCtorEq, Nat.reduceAdd, Nat.reduceLeDiff, Nat.reduceMul, Nat.reduceLT, Nat.reduceEqDiff, wkG, wkH]
      exact leaf1 (by simp [h0, h1, h2])
  · simp only [h0, h1, wkF, ↓reduceIte, reduceCtorEq, Nat.reduceAdd, wkG, wkH]
    exact leaf1 (by simp [h0, h1])
end
end Go.Proofs.Ytmpnldmdchchjaa
