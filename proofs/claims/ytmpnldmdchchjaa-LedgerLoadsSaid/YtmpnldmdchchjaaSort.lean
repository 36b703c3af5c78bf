import Derived.Test.YtmpnldmdchchjaaIt
namespace Go.Proofs.Ytmpnldmdchchjaa
open Go Go.Ideal Go.ChangeShapes Go.RowKit
set_option maxHeartbeats 0
set_option linter.unusedSimpArgs false
set_option linter.unusedVariables false
set_option maxRecDepth 100000
attribute [local irreducible] callV T.All T.Is run
theorem env82 : env 82 = some ir82 := rfl
theorem env77 : env 77 = some ir77 := rfl
theorem env74 : env 74 = some ir74 := rfl
theorem env78 : env 78 = some ir78 := rfl
def len8S : ByteArray := ⟨#[0, 1, 2, 2, 3, 3, 3, 3, 4, 4, 4, 4, 4, 4, 4, 4, 5, 5, 5, 5, 5, 5, 5, 5, 5, 5, 5, 5, 5, 5, 5, 5, 6, 6, 6, 6, 6, 6, 6, 6, 6, 6, 6, 6, 6, 6, 6, 6, 6, 6, 6, 6, 6, 6, 6, 6, 6, 6, 6, 6, 6, 6, 6, 6, 7, 7, 7, 7, 7, 7, 7, 7, 7, 7, 7, 7, 7, 7, 7, 7, 7, 7, 7, 7, 7, 7, 7, 7, 7, 7, 7, 7, 7, 7, 7, 7, 7, 7, 7, 7, 7, 7, 7, 7, 7, 7, 7, 7, 7, 7, 7, 7, 7, 7, 7, 7, 7, 7, 7, 7, 7, 7, 7, 7, 7, 7, 7, 7, 8, 8, 8, 8, 8, 8, 8, 8, 8, 8, 8, 8, 8, 8, 8, 8, 8, 8, 8, 8, 8, 8, 8, 8, 8, 8, 8, 8, 8, 8, 8, 8, 8, 8, 8, 8, 8, 8, 8, 8, 8, 8, 8, 8, 8, 8, 8, 8, 8, 8, 8, 8, 8, 8, 8, 8, 8, 8, 8, 8, 8, 8, 8, 8, 8, 8, 8, 8, 8, 8, 8, 8, 8, 8, 8, 8, 8, 8, 8, 8, 8, 8, 8, 8, 8, 8, 8, 8, 8, 8, 8, 8, 8, 8, 8, 8, 8, 8, 8, 8, 8, 8, 8, 8, 8, 8, 8, 8, 8, 8, 8, 8, 8, 8, 8, 8, 8, 8, 8, 8, 8, 8, 8, 8, 8, 8, 8, 8]⟩
def irLv (s : ByteArray) : IFunc :=
{ ntmps := 25, results := [.tmp 2], body :=
  (.seq (.region [
    ⟨(some 2), .move (.const (.int .i64 0)), none, [], true⟩])
  (.seq (.seq (.region [
    ⟨(some 3), .move (.tmp 0), none, [], true⟩,
    ⟨(some 4), .bin .geq (.tmp 3) (.const (.int .u64 4294967296)), none, [], true⟩])
  (.cond (.tmp 4)
   (.seq (.region [
     ⟨(some 5), .move (.tmp 0), none, [], true⟩,
     ⟨(some 6), .bin .shr (.tmp 5) (.const (.int .u64 32)), none, [], true⟩,
     ⟨(some 0), .move (.tmp 6), none, [], true⟩])
   (.region [
     ⟨(some 2), .move (.const (.int .i64 32)), none, [], true⟩]))
   .skip))
  (.seq (.seq (.region [
    ⟨(some 7), .move (.tmp 0), none, [], true⟩,
    ⟨(some 8), .bin .geq (.tmp 7) (.const (.int .u64 65536)), none, [], true⟩])
  (.cond (.tmp 8)
   (.seq (.region [
     ⟨(some 9), .move (.tmp 0), none, [], true⟩,
     ⟨(some 10), .bin .shr (.tmp 9) (.const (.int .u64 16)), none, [], true⟩,
     ⟨(some 0), .move (.tmp 10), none, [], true⟩])
   (.region [
     ⟨(some 11), .move (.tmp 2), none, [], true⟩,
     ⟨(some 12), .bin .add (.tmp 11) (.const (.int .i64 16)), none, [], true⟩,
     ⟨(some 2), .move (.tmp 12), none, [], true⟩]))
   .skip))
  (.seq (.seq (.region [
    ⟨(some 13), .move (.tmp 0), none, [], true⟩,
    ⟨(some 14), .bin .geq (.tmp 13) (.const (.int .u64 256)), none, [], true⟩])
  (.cond (.tmp 14)
   (.seq (.region [
     ⟨(some 15), .move (.tmp 0), none, [], true⟩,
     ⟨(some 16), .bin .shr (.tmp 15) (.const (.int .u64 8)), none, [], true⟩,
     ⟨(some 0), .move (.tmp 16), none, [], true⟩])
   (.region [
     ⟨(some 17), .move (.tmp 2), none, [], true⟩,
     ⟨(some 18), .bin .add (.tmp 17) (.const (.int .i64 8)), none, [], true⟩,
     ⟨(some 2), .move (.tmp 18), none, [], true⟩]))
   .skip))
  (.seq (.region [
    ⟨(some 19), .move (.tmp 2), none, [], true⟩,
    ⟨(some 20), .move (.tmp 0), none, [], true⟩,
    ⟨(some 21), .conv .u8 (.tmp 20), none, [], true⟩,
    ⟨(some 22), .indexStr (.const (.string s)) (.tmp 21), none, [], true⟩,
    ⟨(some 23), .conv .i64 (.tmp 22), none, [], true⟩,
    ⟨(some 24), .bin .add (.tmp 19) (.tmp 23), none, [], true⟩,
    ⟨(some 2), .move (.tmp 24), none, [], true⟩])
  .ret))))) }
theorem env91 : env 91 = some (irLv len8S) := rfl
theorem len8S_size : len8S.data.toList.length = 256 := by decide +kernel
theorem index8 {x : Nat} (hx : x < 256) : ∃ k : Nat, k < 256 ∧ vIndexStr (.string len8S) (.int .u8 (x : Int)) = some (.int .u8 (k : Int)) := by
  have h := len8S_size
  have h2 : len8S.data.toList[x]? = some (len8S.data.toList[x]'(by omega)) := List.getElem?_eq_getElem (by omega)
  generalize len8S.data.toList[x]'(by omega) = c at h2
  refine ⟨c.toNat, c.toNat_lt, ?_⟩
  simp only [vIndexStr, Int.toNat_natCast]
  rw [if_pos (Int.natCast_nonneg x), h2]
attribute [local irreducible] len8S
def it0 : It := ⟨0, 0, 0⟩
def nth (l : List It) (k : Nat) : It := l.getD k it0
theorem nth_get {l : List It} {k : Nat} (h : k < l.length) : l[k]? = some (nth l k) := by
  unfold nth
  rw [List.getD_eq_getElem?_getD, List.getElem?_eq_getElem h]
  rfl
theorem nth_set {l : List It} {i k : Nat} {x : It} (hi : i < l.length) : nth (l.set i x) k = if k = i then x else nth l k := by
  unfold nth
  rw [List.getD_eq_getElem?_getD, List.getD_eq_getElem?_getD, List.getElem?_set]
  by_cases h : i = k
  · subst h; simp [hi]
  · rw [if_neg h, if_neg (Ne.symm h)]
def one (p : Prop) [Decidable p] : Nat := if p then 1 else 0
theorem cnt_set {l : List It} {i : Nat} {x : It} (y : It) (hi : i < l.length) : (l.set i x).count y + one (nth l i = y) = l.count y + one (x = y) := by
  have h1 := List.count_set (l := l) (i := i) (a := x) (b := y) hi
  have h2 : l[i] = nth l i := by
    have := nth_get hi
    rw [List.getElem?_eq_getElem hi] at this
    exact Option.some.inj this
  rw [h2] at h1
  have h3 : nth l i = y → 0 < l.count y := by
    rintro rfl
    exact List.count_pos_iff.2 (by rw [← h2]; exact List.getElem_mem hi)
  unfold one
  rw [h1]
  by_cases e1 : nth l i = y <;> by_cases e2 : x = y <;> simp [e1, e2] <;> (have := h3 e1; omega)
structure SP (lo hi : Nat) (a b : List It) : Prop where
  len : b.length = a.length
  cnt : ∀ y, b.count y = a.count y
  out : ∀ k, (k < lo ∨ hi ≤ k) → nth b k = nth a k
  all : ∀ P : It → Prop, (∀ k, lo ≤ k → k < hi → P (nth a k)) → ∀ k, lo ≤ k → k < hi → P (nth b k)
theorem SP.refl (lo hi : Nat) (a : List It) : SP lo hi a a := ⟨rfl, fun _ => rfl, fun _ _ => rfl, fun _ h => h⟩
theorem SP.trans {lo hi : Nat} {a b c : List It} (h : SP lo hi a b) (k : SP lo hi b c) : SP lo hi a c :=
  ⟨k.len.trans h.len, fun y => (k.cnt y).trans (h.cnt y), fun i hi => (k.out i hi).trans (h.out i hi), fun P hp => k.all P (h.all P hp)⟩
theorem SP.swap {lo hi i j : Nat} {a : List It} (h1 : lo ≤ i) (h2 : i < hi) (h3 : lo ≤ j) (h4 : j < hi) (hl : hi ≤ a.length) : SP lo hi a ((a.set i (nth a j)).set j (nth a i)) := by
  have li : i < a.length := by omega
  have lj : j < (a.set i (nth a j)).length := by rw [List.length_set]; omega
  refine ⟨by simp, fun y => ?_, fun k hk => ?_, fun P hp k k1 k2 => ?_⟩
  · have c1 := cnt_set (l := a) (i := i) (x := nth a j) y li
    have c2 := cnt_set (l := a.set i (nth a j)) (i := j) (x := nth a i) y lj
    rw [nth_set li] at c2
    by_cases e : j = i
    · subst e
      rw [if_pos rfl] at c2
      omega
    · rw [if_neg e] at c2
      omega
  · rw [nth_set lj, nth_set li, if_neg (by omega), if_neg (by omega)]
  · rw [nth_set lj, nth_set li]
    split
    · exact hp i h1 h2
    · split
      · exact hp j h3 h4
      · exact hp k k1 k2
def Sorted (a : List It) (lo hi : Nat) : Prop := ∀ i j, lo ≤ i → i < j → j < hi → le (nth a i) (nth a j)
structure Arr (h : Heap) (b : Nat) (a : List It) (rest : List Value) (zz : Nat) (t : Bool) : Prop where
  at_ : h.get b = some (.cells (a.flatMap ic ++ rest) zz t)
  even : b % 2 = 0
  fl : h.floor ≤ b / 2 ∨ b / 2 ∈ h.may
  lt : b < 2 * h.next
theorem Arr.ext {h h' : Heap} {b : Nat} {a : List It} {rest : List Value} {zz : Nat} {t : Bool} (A : Arr h b a rest zz t) (e : Ext h h') : Arr h' b a rest zz t :=
  ⟨(e.old b (Or.inr A.lt)).trans A.at_, A.even, by rw [e.floor, e.may]; exact A.fl, by have := e.next; have := A.lt; omega⟩
theorem Arr.rd {h : Heap} {b : Nat} {a : List It} {rest : List Value} {zz : Nat} {t : Bool} (A : Arr h b a rest zz t) {k : Nat} (hk : k < a.length) : readC (h.get b) (k * 3) 3 = some (ic (nth a k)) := rd_all ic_len (nth_get hk) A.at_
theorem Arr.wr {h : Heap} {b : Nat} {a : List It} {rest : List Value} {zz : Nat} {t : Bool} (A : Arr h b a rest zz t) {k : Nat} (hk : k < a.length) (x : It) : writeC (h.get b) h b (k * 3) (ic x) = some (h.setB b (.cells ((a.set k x).flatMap ic ++ rest) zz t)) := wr_at ic_len ic_one hk A.at_ (decide_eq_true ⟨A.even, A.fl⟩)
theorem Arr.set {h : Heap} {b : Nat} {a a' : List It} {rest : List Value} {zz : Nat} {t : Bool} (A : Arr h b a rest zz t) : Arr (h.setB b (.cells (a'.flatMap ic ++ rest) zz t)) b a' rest zz t :=
  ⟨get_setB_same A.even (by rw [A.at_]; rfl), A.even, A.fl, A.lt⟩
structure Ins (a : List It) (lo i j : Nat) : Prop where
  sorted : ∀ p q, lo ≤ p → p < q → q ≤ i → p ≠ j → q ≠ j → le (nth a p) (nth a q)
  above : ∀ q, j < q → q ≤ i → le (nth a j) (nth a q)
theorem Ins.start {a : List It} {lo i : Nat} (h : Sorted a lo i) : Ins a lo i i := ⟨fun p q h1 h2 h3 h4 h5 => h p q h1 h2 (by omega), fun q h1 h2 => by omega⟩
theorem Ins.done {a : List It} {lo i j : Nat} (h : Ins a lo i j) (hj : lo ≤ j) (hji : j ≤ i) (hx : lo < j → le (nth a (j - 1)) (nth a j)) : Sorted a lo (i + 1) := by
  intro p q h1 h2 h3
  by_cases e1 : p = j
  · subst e1; exact h.above q h2 (by omega)
  · by_cases e2 : q = j
    · subst e2
      by_cases e3 : p = q - 1
      · subst e3; exact hx (by omega)
      · exact le_trans (h.sorted p (q - 1) h1 (by omega) (by omega) e1 (by omega)) (hx (by omega))
    · exact h.sorted p q h1 h2 (by omega) e1 e2
theorem Ins.step {a : List It} {lo i j : Nat} (h : Ins a lo i j) (hj : lo < j) (hji : j ≤ i) (hi : i < a.length) (hx : ¬ le (nth a (j - 1)) (nth a j)) : Ins ((a.set j (nth a (j - 1))).set (j - 1) (nth a j)) lo i (j - 1) := by
  have lj : j < a.length := by omega
  have lj' : j - 1 < (a.set j (nth a (j - 1))).length := by rw [List.length_set]; omega
  have hle : le (nth a j) (nth a (j - 1)) := (le_total _ _).resolve_right hx
  constructor
  · intro p q h1 h2 h3 h4 h5
    rw [nth_set lj', nth_set lj', nth_set lj, nth_set lj, if_neg h4, if_neg h5]
    by_cases e1 : p = j
    · subst e1
      rw [if_pos rfl, if_neg (by omega)]
      exact h.sorted (p - 1) q (by omega) (by omega) h3 (by omega) (by omega)
    · rw [if_neg e1]
      by_cases e2 : q = j
      · subst e2
        rw [if_pos rfl]
        exact h.sorted p (q - 1) h1 (by omega) (by omega) e1 (by omega)
      · rw [if_neg e2]
        exact h.sorted p q h1 h2 h3 e1 e2
  · intro q h1 h2
    rw [nth_set lj', nth_set lj', nth_set lj, nth_set lj, if_pos rfl, if_neg (by omega)]
    by_cases e : q = j
    · subst e; rw [if_pos rfl]; exact hle
    · rw [if_neg e]; exact h.above q (by omega) h2
theorem insertion_ok {n b lo hi cap zz : Nat} {sp : Option Nat} {h : Heap} {a : List It} {rest : List Value} {t : Bool} (hn : a.length + 20 < n) (hl : a.length < 1000000) (hf : h.Fine) (A : Arr h b a rest zz t) (hlo : lo ≤ hi) (hhi : hi ≤ a.length) :
    (callV env (n + 5) (.func (.func 82) #[] #[]) [.slice (some ⟨b, 0, sp⟩) a.length cap, .int .i64 (lo : Int), .int .i64 (hi : Int), .func (.func 75) #[] #[]] h).Is fun p => ∃ a', Arr p.2 b a' rest zz t ∧ SP lo hi a a' ∧ Sorted a' lo hi ∧ Chg (fun y => y = b) h p.2 := by
  refine call_is env82 ?_
  have x0 : IntKind.i64.wrap ((lo : Int) + 1) = ((lo + 1 : Nat) : Int) := by rw [wrap_i64 (by omega) (by omega)]; omega
  simp (disch := first | assumption | omega | (simp only [wkD, oneCell, Option.isSome_some, *]; done) | (simp only [wkE, ne_eq]; omega)) only [ir82, List.append_nil, List.nil_append, List.cons_append, List.length_cons, List.length_nil, Nat.reduceAdd, Nat.reduceSub, List.replicate_succ, List.replicate_zero, x0, wk0, wk1, wk2, wk3, wk4, wk5, X_region, X_seq, X_block, X_loop, X_cond, Y_box, Y_un, Y_store, Y_append, Y_makeMap, Y_buildSlice, ibin_shl, ibin_shr, ibin_and, List.set_cons_zero, List.set_cons_succ, List.getD_cons_zero, List.getD_cons_succ, List.map_cons, List.map_nil, ↓reduceIte, reduceCtorEq, oneCell, List.length_cons, List.length_nil, setAt, readN, bne_iff_ne, ne_eq, Nat.reduceAdd, Nat.reduceLeDiff, List.getElem?_cons_zero, List.getElem?_cons_succ, Nat.reduceMul, Option.isSome_some, layAt, Nat.reduceLT, Option.isNone_some, Option.isNone_none, beq_self_eq_true, Nat.reduceEqDiff, setParams, Int.reduceLT, Int.reduceLE, Int.reduceGT, Int.reduceGE, Int.reduceEq, Int.reduceNe, Option.map_some, Option.map_none, Option.isSome_none]
  refine L_is (fun q s => ∃ (i : Nat) (a1 : List It), s.defers = [] ∧ s.tmps.length = 53 ∧ s.tmps.getD 0 undefV = .slice (some ⟨b, 0, sp⟩) a.length cap ∧ s.tmps.getD 1 undefV = .int .i64 (lo : Int) ∧ s.tmps.getD 2 undefV = .int .i64 (hi : Int) ∧ s.tmps.getD 3 undefV = .func (.func 75) #[] #[] ∧ s.tmps.getD 8 undefV = .int .i64 (i : Int) ∧ q = hi + 1 - i ∧ lo + 1 ≤ i ∧ i ≤ hi + 1 ∧ Arr s.h b a1 rest zz t ∧ SP lo hi a a1 ∧ Sorted a1 lo i ∧ Chg (fun y => y = b) h s.h) (hi + 1 - (lo + 1)) ?_ (by omega) ?_
  · exact ⟨lo + 1, a, rfl, rfl, rfl, rfl, rfl, rfl, rfl, by omega, Nat.le_refl _, by omega, A, SP.refl _ _ _, fun i j h1 h2 h3 => by omega, Chg.refl _ _⟩
  clear A
  rintro q tm df h1 ⟨i, a1, hd, hlen_, g0, g1, g2, g3, g8, hq, hi0, hi1, A, S, so, C⟩
  simp only at hd g0 g1 g2 g3 g8 A C
  subst hd
  obtain ⟨w, hg_, rfl⟩ := explode hlen_
  simp only [hg_] at g0 g1 g2 g3 g8
  clear hlen_ hg_
  by_cases hlt : i < hi
  · have hlt' : (i : Int) < (hi : Int) := by omega
    simp (disch := first | assumption | omega | (simp only [wkD, oneCell, Option.isSome_some, *]; done) | (simp only [wkE, ne_eq]; omega)) only [g0, g1, g2, g3, g8, hlt', wk0, wk1, wk2, wk3, wk4, wk5, X_region, X_seq, X_block, X_loop, X_cond, Y_box, Y_un, Y_store, Y_append, Y_makeMap, Y_buildSlice, ibin_shl, ibin_shr, ibin_and, List.set_cons_zero, List.set_cons_succ, List.getD_cons_zero, List.getD_cons_succ, List.map_cons, List.map_nil, ↓reduceIte, reduceCtorEq, oneCell, List.length_cons, List.length_nil, setAt, readN, bne_iff_ne, ne_eq, Nat.reduceAdd, Nat.reduceLeDiff, List.getElem?_cons_zero, List.getElem?_cons_succ, Nat.reduceMul, Option.isSome_some, layAt, Nat.reduceLT, Option.isNone_some, Option.isNone_none, beq_self_eq_true, Nat.reduceEqDiff, setParams, Int.reduceLT, Int.reduceLE, Int.reduceGT, Int.reduceGE, Int.reduceEq, Int.reduceNe, Option.map_some, Option.map_none, Option.isSome_none]
    have so0 := so
    have S1 := S
    refine L_is (fun q s => ∃ (j : Nat) (a2 : List It), s.defers = [] ∧ s.tmps.length = 53 ∧ s.tmps.getD 0 undefV = .slice (some ⟨b, 0, sp⟩) a.length cap ∧ s.tmps.getD 1 undefV = .int .i64 (lo : Int) ∧ s.tmps.getD 2 undefV = .int .i64 (hi : Int) ∧ s.tmps.getD 3 undefV = .func (.func 75) #[] #[] ∧ s.tmps.getD 8 undefV = .int .i64 (i : Int) ∧ s.tmps.getD 9 undefV = .int .i64 (j : Int) ∧ q = j ∧ lo ≤ j ∧ j ≤ i ∧ Arr s.h b a2 rest zz t ∧ SP lo hi a a2 ∧ Ins a2 lo i j ∧ Chg (fun y => y = b) h s.h) i ?_ (by omega) ?_
    · exact ⟨i, a1, rfl, rfl, rfl, rfl, rfl, rfl, rfl, rfl, rfl, by omega, Nat.le_refl _, A, S, Ins.start so0, C⟩
    clear A S C so so0 S1 g0 g1 g2 g3 g8
    rintro q2 tm df h2 ⟨j, a2, hd, hlen_, g0, g1, g2, g3, g8, g9, hq2, hj0, hj1, A, S, I, C⟩
    simp only at hd g0 g1 g2 g3 g8 g9 A C
    subst hd
    obtain ⟨w, hg_, rfl⟩ := explode hlen_
    simp only [hg_] at g0 g1 g2 g3 g8 g9
    clear hlen_ hg_
    have hl2 := S.len
    have z1 : IntKind.i64.wrap ((i : Int) + 1) = ((i + 1 : Nat) : Int) := by rw [wrap_i64 (by omega) (by omega)]; omega
    by_cases hjl : lo < j
    · have hjl' : (lo : Int) < (j : Int) := by omega
      have y1 : IntKind.i64.wrap ((j : Int) - 1) = ((j - 1 : Nat) : Int) := by rw [wrap_i64 (by omega) (by omega)]; omega
      have r1 := A.rd (k := j) (by omega)
      have r2 := A.rd (k := j - 1) (by omega)
      have c1 : (0 : Int) ≤ (j : Int) := by omega
      have c2 : (j : Int) < (a.length : Int) := by omega
      have c3 : (0 : Int) ≤ ((j - 1 : Nat) : Int) := by omega
      have c4 : ((j - 1 : Nat) : Int) < (a.length : Int) := by omega
      unfold ic at r1 r2
      simp (disch := first | assumption | omega | (simp only [wkD, oneCell, Option.isSome_some, *]; done) | (simp only [wkE, ne_eq]; omega)) only [g0, g1, g2, g3, g8, g9, wk0, wk1, wk2, wk3, wk4, wk5, X_region, X_seq, X_block, X_loop, X_cond, Y_box, Y_un, Y_store, Y_append, Y_makeMap, Y_buildSlice, ibin_shl, ibin_shr, ibin_and, List.set_cons_zero, List.set_cons_succ, List.getD_cons_zero, List.getD_cons_succ, List.map_cons, List.map_nil, ↓reduceIte, reduceCtorEq, oneCell, List.length_cons, List.length_nil, setAt, readN, bne_iff_ne, ne_eq, Nat.reduceAdd, Nat.reduceLeDiff, List.getElem?_cons_zero, List.getElem?_cons_succ, Nat.reduceMul, Option.isSome_some, layAt, Nat.reduceLT, Option.isNone_some, Option.isNone_none, beq_self_eq_true, Nat.reduceEqDiff, setParams, Int.reduceLT, Int.reduceLE, Int.reduceGT, Int.reduceGE, Int.reduceEq, Int.reduceNe, Option.map_some, Option.map_none, Option.isSome_none]
      refine X_drawn _ fun an => ?_
      simp (disch := first | assumption | omega | (simp only [wkD, oneCell, Option.isSome_some, *]; done) | (simp only [wkE, ne_eq]; omega)) only [g0, g1, g2, g3, g8, g9, hjl', y1, r1, r2, c1, c2, c3, c4, Int.toNat_natCast, wk0, wk1, wk2, wk3, wk4, wk5, X_region, X_seq, X_block, X_loop, X_cond, Y_box, Y_un, Y_store, Y_append, Y_makeMap, Y_buildSlice, ibin_shl, ibin_shr, ibin_and, List.set_cons_zero, List.set_cons_succ, List.getD_cons_zero, List.getD_cons_succ, List.map_cons, List.map_nil, ↓reduceIte, reduceCtorEq, oneCell, List.length_cons, List.length_nil, setAt, readN, bne_iff_ne, ne_eq, Nat.reduceAdd, Nat.reduceLeDiff, List.getElem?_cons_zero, List.getElem?_cons_succ, Nat.reduceMul, Option.isSome_some, layAt, Nat.reduceLT, Option.isNone_some, Option.isNone_none, beq_self_eq_true, Nat.reduceEqDiff, setParams, Int.reduceLT, Int.reduceLE, Int.reduceGT, Int.reduceGE, Int.reduceEq, Int.reduceNe, Option.map_some, Option.map_none, Option.isSome_none]
      refine DB_is (cmp_ok (n := n) (by omega) (C.fine hf) (nth a2 j) (nth a2 (j - 1))) ?_
      rintro v3 h3 ⟨rfl, e3⟩
      simp only at e3
      have A3 := A.ext e3
      have C3 := C.trans (e3.chg _)
      by_cases hc : cmpI (nth a2 j) (nth a2 (j - 1)) < 0
      · have r1 := A3.rd (k := j) (by omega)
        have r2 := A3.rd (k := j - 1) (by omega)
        have w1 := A3.wr (k := j) (by omega) (nth a2 (j - 1))
        have A4 := A3.set (a' := a2.set j (nth a2 (j - 1)))
        have w2 := A4.wr (k := j - 1) (by rw [List.length_set]; omega) (nth a2 j)
        unfold ic at r1 r2
        unfold ic at w1 w2
        simp (disch := first | assumption | omega | (simp only [wkD, oneCell, Option.isSome_some, *]; done) | (simp only [wkE, ne_eq]; omega)) only [hc, wk0, wk1, wk2, wk3, wk4, wk5, X_region, X_seq, X_block, X_loop, X_cond, Y_box, Y_un, Y_store, Y_append, Y_makeMap, Y_buildSlice, ibin_shl, ibin_shr, ibin_and, List.set_cons_zero, List.set_cons_succ, List.getD_cons_zero, List.getD_cons_succ, List.map_cons, List.map_nil, ↓reduceIte, reduceCtorEq, oneCell, List.length_cons, List.length_nil, setAt, readN, bne_iff_ne, ne_eq, Nat.reduceAdd, Nat.reduceLeDiff, List.getElem?_cons_zero, List.getElem?_cons_succ, Nat.reduceMul, Option.isSome_some, layAt, Nat.reduceLT, Option.isNone_some, Option.isNone_none, beq_self_eq_true, Nat.reduceEqDiff, setParams, Int.reduceLT, Int.reduceLE, Int.reduceGT, Int.reduceGE, Int.reduceEq, Int.reduceNe, Option.map_some, Option.map_none, Option.isSome_none]
        refine X_drawn _ fun an => ?_
        simp (disch := first | assumption | omega | (simp only [wkD, oneCell, Option.isSome_some, *]; done) | (simp only [wkE, ne_eq]; omega)) only [r1, r2, w1, w2, y1, c1, c2, c3, c4, Int.toNat_natCast, wk0, wk1, wk2, wk3, wk4, wk5, X_region, X_seq, X_block, X_loop, X_cond, Y_box, Y_un, Y_store, Y_append, Y_makeMap, Y_buildSlice, ibin_shl, ibin_shr, ibin_and, List.set_cons_zero, List.set_cons_succ, List.getD_cons_zero, List.getD_cons_succ, List.map_cons, List.map_nil, ↓reduceIte, reduceCtorEq, oneCell, List.length_cons, List.length_nil, setAt, readN, bne_iff_ne, ne_eq, Nat.reduceAdd, Nat.reduceLeDiff, List.getElem?_cons_zero, List.getElem?_cons_succ, Nat.reduceMul, Option.isSome_some, layAt, Nat.reduceLT, Option.isNone_some, Option.isNone_none, beq_self_eq_true, Nat.reduceEqDiff, setParams, Int.reduceLT, Int.reduceLE, Int.reduceGT, Int.reduceGE, Int.reduceEq, Int.reduceNe, Option.map_some, Option.map_none, Option.isSome_none]
        exact Is_in ⟨j - 1, by omega, j - 1, _, rfl, rfl, rfl, rfl, rfl, rfl, rfl, rfl, rfl, by omega, by omega, A4.set, S.trans (SP.swap (by omega) (by omega) (by omega) (by omega) (by omega)), I.step hjl hj1 (by omega) ((cmpI_lt _ _).1 hc), (C3.setB _ _ A.even (fun _ => rfl)).setB _ _ A.even (fun _ => rfl)⟩
      · simp (disch := first | assumption | omega | (simp only [wkD, oneCell, Option.isSome_some, *]; done) | (simp only [wkE, ne_eq]; omega)) only [hc, wk0, wk1, wk2, wk3, wk4, wk5, X_region, X_seq, X_block, X_loop, X_cond, Y_box, Y_un, Y_store, Y_append, Y_makeMap, Y_buildSlice, ibin_shl, ibin_shr, ibin_and, List.set_cons_zero, List.set_cons_succ, List.getD_cons_zero, List.getD_cons_succ, List.map_cons, List.map_nil, ↓reduceIte, reduceCtorEq, oneCell, List.length_cons, List.length_nil, setAt, readN, bne_iff_ne, ne_eq, Nat.reduceAdd, Nat.reduceLeDiff, List.getElem?_cons_zero, List.getElem?_cons_succ, Nat.reduceMul, Option.isSome_some, layAt, Nat.reduceLT, Option.isNone_some, Option.isNone_none, beq_self_eq_true, Nat.reduceEqDiff, setParams, Int.reduceLT, Int.reduceLE, Int.reduceGT, Int.reduceGE, Int.reduceEq, Int.reduceNe, Option.map_some, Option.map_none, Option.isSome_none]
        refine Is_in ?_
        simp (disch := first | assumption | omega | (simp only [wkD, oneCell, Option.isSome_some, *]; done) | (simp only [wkE, ne_eq]; omega)) only [z1, wk0, wk1, wk2, wk3, wk4, wk5, X_region, X_seq, X_block, X_loop, X_cond, Y_box, Y_un, Y_store, Y_append, Y_makeMap, Y_buildSlice, ibin_shl, ibin_shr, ibin_and, List.set_cons_zero, List.set_cons_succ, List.getD_cons_zero, List.getD_cons_succ, List.map_cons, List.map_nil, ↓reduceIte, reduceCtorEq, oneCell, List.length_cons, List.length_nil, setAt, readN, bne_iff_ne, ne_eq, Nat.reduceAdd, Nat.reduceLeDiff, List.getElem?_cons_zero, List.getElem?_cons_succ, Nat.reduceMul, Option.isSome_some, layAt, Nat.reduceLT, Option.isNone_some, Option.isNone_none, beq_self_eq_true, Nat.reduceEqDiff, setParams, Int.reduceLT, Int.reduceLE, Int.reduceGT, Int.reduceGE, Int.reduceEq, Int.reduceNe, Option.map_some, Option.map_none, Option.isSome_none]
        exact Is_in ⟨hi + 1 - (i + 1), by omega, i + 1, a2, rfl, rfl, rfl, rfl, rfl, rfl, rfl, rfl, by omega, by omega, A3, S, I.done (by omega) hj1 (fun _ => Decidable.byContradiction fun e => hc ((cmpI_lt _ _).2 e)), C3⟩
    · have hjl' : ¬ (lo : Int) < (j : Int) := by omega
      simp (disch := first | assumption | omega | (simp only [wkD, oneCell, Option.isSome_some, *]; done) | (simp only [wkE, ne_eq]; omega)) only [g0, g1, g2, g3, g8, g9, wk0, wk1, wk2, wk3, wk4, wk5, X_region, X_seq, X_block, X_loop, X_cond, Y_box, Y_un, Y_store, Y_append, Y_makeMap, Y_buildSlice, ibin_shl, ibin_shr, ibin_and, List.set_cons_zero, List.set_cons_succ, List.getD_cons_zero, List.getD_cons_succ, List.map_cons, List.map_nil, ↓reduceIte, reduceCtorEq, oneCell, List.length_cons, List.length_nil, setAt, readN, bne_iff_ne, ne_eq, Nat.reduceAdd, Nat.reduceLeDiff, List.getElem?_cons_zero, List.getElem?_cons_succ, Nat.reduceMul, Option.isSome_some, layAt, Nat.reduceLT, Option.isNone_some, Option.isNone_none, beq_self_eq_true, Nat.reduceEqDiff, setParams, Int.reduceLT, Int.reduceLE, Int.reduceGT, Int.reduceGE, Int.reduceEq, Int.reduceNe, Option.map_some, Option.map_none, Option.isSome_none]
      refine X_drawn _ fun an => ?_
      simp (disch := first | assumption | omega | (simp only [wkD, oneCell, Option.isSome_some, *]; done) | (simp only [wkE, ne_eq]; omega)) only [g0, g1, g2, g3, g8, g9, hjl', wk0, wk1, wk2, wk3, wk4, wk5, X_region, X_seq, X_block, X_loop, X_cond, Y_box, Y_un, Y_store, Y_append, Y_makeMap, Y_buildSlice, ibin_shl, ibin_shr, ibin_and, List.set_cons_zero, List.set_cons_succ, List.getD_cons_zero, List.getD_cons_succ, List.map_cons, List.map_nil, ↓reduceIte, reduceCtorEq, oneCell, List.length_cons, List.length_nil, setAt, readN, bne_iff_ne, ne_eq, Nat.reduceAdd, Nat.reduceLeDiff, List.getElem?_cons_zero, List.getElem?_cons_succ, Nat.reduceMul, Option.isSome_some, layAt, Nat.reduceLT, Option.isNone_some, Option.isNone_none, beq_self_eq_true, Nat.reduceEqDiff, setParams, Int.reduceLT, Int.reduceLE, Int.reduceGT, Int.reduceGE, Int.reduceEq, Int.reduceNe, Option.map_some, Option.map_none, Option.isSome_none]
      refine Is_in ?_
      simp (disch := first | assumption | omega | (simp only [wkD, oneCell, Option.isSome_some, *]; done) | (simp only [wkE, ne_eq]; omega)) only [z1, wk0, wk1, wk2, wk3, wk4, wk5, X_region, X_seq, X_block, X_loop, X_cond, Y_box, Y_un, Y_store, Y_append, Y_makeMap, Y_buildSlice, ibin_shl, ibin_shr, ibin_and, List.set_cons_zero, List.set_cons_succ, List.getD_cons_zero, List.getD_cons_succ, List.map_cons, List.map_nil, ↓reduceIte, reduceCtorEq, oneCell, List.length_cons, List.length_nil, setAt, readN, bne_iff_ne, ne_eq, Nat.reduceAdd, Nat.reduceLeDiff, List.getElem?_cons_zero, List.getElem?_cons_succ, Nat.reduceMul, Option.isSome_some, layAt, Nat.reduceLT, Option.isNone_some, Option.isNone_none, beq_self_eq_true, Nat.reduceEqDiff, setParams, Int.reduceLT, Int.reduceLE, Int.reduceGT, Int.reduceGE, Int.reduceEq, Int.reduceNe, Option.map_some, Option.map_none, Option.isSome_none]
      exact Is_in ⟨hi + 1 - (i + 1), by omega, i + 1, a2, rfl, rfl, rfl, rfl, rfl, rfl, rfl, rfl, by omega, by omega, A, S, I.done (by omega) hj1 (fun e => absurd e hjl), C⟩
  · have hlt' : ¬ (i : Int) < (hi : Int) := by omega
    simp (disch := first | assumption | omega | (simp only [wkD, oneCell, Option.isSome_some, *]; done) | (simp only [wkE, ne_eq]; omega)) only [g0, g1, g2, g3, g8, hlt', wk0, wk1, wk2, wk3, wk4, wk5, X_region, X_seq, X_block, X_loop, X_cond, Y_box, Y_un, Y_store, Y_append, Y_makeMap, Y_buildSlice, ibin_shl, ibin_shr, ibin_and, List.set_cons_zero, List.set_cons_succ, List.getD_cons_zero, List.getD_cons_succ, List.map_cons, List.map_nil, ↓reduceIte, reduceCtorEq, oneCell, List.length_cons, List.length_nil, setAt, readN, bne_iff_ne, ne_eq, Nat.reduceAdd, Nat.reduceLeDiff, List.getElem?_cons_zero, List.getElem?_cons_succ, Nat.reduceMul, Option.isSome_some, layAt, Nat.reduceLT, Option.isNone_some, Option.isNone_none, beq_self_eq_true, Nat.reduceEqDiff, setParams, Int.reduceLT, Int.reduceLE, Int.reduceGT, Int.reduceGE, Int.reduceEq, Int.reduceNe, Option.map_some, Option.map_none, Option.isSome_none]
    refine Is_in ?_
    simp (disch := first | assumption | omega | (simp only [wkD, oneCell, Option.isSome_some, *]; done) | (simp only [wkE, ne_eq]; omega)) only [wk0, wk1, wk2, wk3, wk4, wk5, X_region, X_seq, X_block, X_loop, X_cond, Y_box, Y_un, Y_store, Y_append, Y_makeMap, Y_buildSlice, ibin_shl, ibin_shr, ibin_and, List.set_cons_zero, List.set_cons_succ, List.getD_cons_zero, List.getD_cons_succ, List.map_cons, List.map_nil, ↓reduceIte, reduceCtorEq, oneCell, List.length_cons, List.length_nil, setAt, readN, bne_iff_ne, ne_eq, Nat.reduceAdd, Nat.reduceLeDiff, List.getElem?_cons_zero, List.getElem?_cons_succ, Nat.reduceMul, Option.isSome_some, layAt, Nat.reduceLT, Option.isNone_some, Option.isNone_none, beq_self_eq_true, Nat.reduceEqDiff, setParams, Int.reduceLT, Int.reduceLE, Int.reduceGT, Int.reduceGE, Int.reduceEq, Int.reduceNe, Option.map_some, Option.map_none, Option.isSome_none]
    exact leaf0n ⟨a1, A, S, fun p q h1 h2 h3 => so p q h1 h2 (by omega), C⟩
theorem len64_ok {n x : Nat} {h : Heap} (hx : x < 256) : (callV env (n + 1) (.func (.func 91) #[] #[]) [.int .u64 (x : Int)] h).Is fun p => (∃ k : Nat, k < 256 ∧ p.1 = .int .i64 (k : Int)) ∧ p.2 = h := by
  refine call_is env91 ?_
  obtain ⟨k, hk, e⟩ := index8 hx
  have c1 : ¬ (4294967296 : Int) ≤ (x : Int) := by omega
  have c2 : ¬ (65536 : Int) ≤ (x : Int) := by omega
  have c3 : ¬ (256 : Int) ≤ (x : Int) := by omega
  have y1 : IntKind.u8.wrap (x : Int) = (x : Int) := by rw [wrap_u8_mod]; omega
  have y2 : IntKind.i64.wrap (k : Int) = (k : Int) := wrap_i64 (by omega) (by omega)
  have y3 : IntKind.i64.wrap (0 + (k : Int)) = (k : Int) := by rw [Int.zero_add]; exact y2
  simp (disch := first | assumption | omega | (simp only [wkD, oneCell, Option.isSome_some, *]; done) | (simp only [wkE, ne_eq]; omega)) only [irLv, List.append_nil, List.nil_append, List.cons_append, List.length_cons, List.length_nil, Nat.reduceAdd, Nat.reduceSub, List.replicate_succ, List.replicate_zero, c1, c2, c3, y1, y2, y3, e, wk0, wk1, wk2, wk3, wk4, wk5, X_region, X_seq, X_block, X_loop, X_cond, Y_box, Y_un, Y_store, Y_append, Y_makeMap, Y_buildSlice, ibin_shl, ibin_shr, ibin_and, List.set_cons_zero, List.set_cons_succ, List.getD_cons_zero, List.getD_cons_succ, List.map_cons, List.map_nil, ↓reduceIte, reduceCtorEq, oneCell, List.length_cons, List.length_nil, setAt, readN, bne_iff_ne, ne_eq, Nat.reduceAdd, Nat.reduceLeDiff, List.getElem?_cons_zero, List.getElem?_cons_succ, Nat.reduceMul, Option.isSome_some, layAt, Nat.reduceLT, Option.isNone_some, Option.isNone_none, beq_self_eq_true, Nat.reduceEqDiff, setParams, Int.reduceLT, Int.reduceLE, Int.reduceGT, Int.reduceGE, Int.reduceEq, Int.reduceNe, Option.map_some, Option.map_none, Option.isSome_none]
  exact leaf1 ⟨⟨k, hk, rfl⟩, rfl⟩
theorem len_ok' {n x : Nat} {h : Heap} (hx : x < 256) : (callV env (n + 2) (.func (.func 78) #[] #[]) [.int .u64 (x : Int)] h).Is fun p => (∃ k : Nat, k < 256 ∧ p.1 = .int .i64 (k : Int)) ∧ p.2 = h := by
  refine call_is env78 ?_
  simp (disch := first | assumption | omega | (simp only [wkD, oneCell, Option.isSome_some, *]; done) | (simp only [wkE, ne_eq]; omega)) only [ir78, List.append_nil, List.nil_append, List.cons_append, List.length_cons, List.length_nil, Nat.reduceAdd, Nat.reduceSub, List.replicate_succ, List.replicate_zero, wk0, wk1, wk2, wk3, wk4, wk5, X_region, X_seq, X_block, X_loop, X_cond, Y_box, Y_un, Y_store, Y_append, Y_makeMap, Y_buildSlice, ibin_shl, ibin_shr, ibin_and, List.set_cons_zero, List.set_cons_succ, List.getD_cons_zero, List.getD_cons_succ, List.map_cons, List.map_nil, ↓reduceIte, reduceCtorEq, oneCell, List.length_cons, List.length_nil, setAt, readN, bne_iff_ne, ne_eq, Nat.reduceAdd, Nat.reduceLeDiff, List.getElem?_cons_zero, List.getElem?_cons_succ, Nat.reduceMul, Option.isSome_some, layAt, Nat.reduceLT, Option.isNone_some, Option.isNone_none, beq_self_eq_true, Nat.reduceEqDiff, setParams, Int.reduceLT, Int.reduceLE, Int.reduceGT, Int.reduceGE, Int.reduceEq, Int.reduceNe, Option.map_some, Option.map_none, Option.isSome_none]
  refine Z_is (len64_ok (n := n) hx) ?_
  rintro v h1 ⟨⟨k, hk, rfl⟩, rfl⟩
  simp (disch := first | assumption | omega | (simp only [wkD, oneCell, Option.isSome_some, *]; done) | (simp only [wkE, ne_eq]; omega)) only [wk0, wk1, wk2, wk3, wk4, wk5, X_region, X_seq, X_block, X_loop, X_cond, Y_box, Y_un, Y_store, Y_append, Y_makeMap, Y_buildSlice, ibin_shl, ibin_shr, ibin_and, List.set_cons_zero, List.set_cons_succ, List.getD_cons_zero, List.getD_cons_succ, List.map_cons, List.map_nil, ↓reduceIte, reduceCtorEq, oneCell, List.length_cons, List.length_nil, setAt, readN, bne_iff_ne, ne_eq, Nat.reduceAdd, Nat.reduceLeDiff, List.getElem?_cons_zero, List.getElem?_cons_succ, Nat.reduceMul, Option.isSome_some, layAt, Nat.reduceLT, Option.isNone_some, Option.isNone_none, beq_self_eq_true, Nat.reduceEqDiff, setParams, Int.reduceLT, Int.reduceLE, Int.reduceGT, Int.reduceGE, Int.reduceEq, Int.reduceNe, Option.map_some, Option.map_none, Option.isSome_none]
  exact leaf1 ⟨⟨k, hk, rfl⟩, rfl⟩
theorem pdq_few {n b cap zz : Nat} {sp : Option Nat} {lim : Value} {h : Heap} {a : List It} {rest : List Value} {t : Bool} (hn : a.length + 20 < n) (hl : a.length ≤ 12) (hf : h.Fine) (A : Arr h b a rest zz t) :
    (callV env (n + 6) (.func (.func 77) #[] #[]) [.slice (some ⟨b, 0, sp⟩) a.length cap, .int .i64 0, .int .i64 (a.length : Int), lim, .func (.func 75) #[] #[]] h).Is fun p => ∃ a', Arr p.2 b a' rest zz t ∧ SP 0 a.length a a' ∧ Sorted a' 0 a.length ∧ Chg (fun y => y = b) h p.2 := by
  refine call_is env77 ?_
  simp (disch := first | assumption | omega | (simp only [wkD, oneCell, Option.isSome_some, *]; done) | (simp only [wkE, ne_eq]; omega)) only [ir77, List.append_nil, List.nil_append, List.cons_append, List.length_cons, List.length_nil, Nat.reduceAdd, Nat.reduceSub, List.replicate_succ, List.replicate_zero, wk0, wk1, wk2, wk3, wk4, wk5, X_region, X_seq, X_block, X_loop, X_cond, Y_box, Y_un, Y_store, Y_append, Y_makeMap, Y_buildSlice, ibin_shl, ibin_shr, ibin_and, List.set_cons_zero, List.set_cons_succ, List.getD_cons_zero, List.getD_cons_succ, List.map_cons, List.map_nil, ↓reduceIte, reduceCtorEq, oneCell, List.length_cons, List.length_nil, setAt, readN, bne_iff_ne, ne_eq, Nat.reduceAdd, Nat.reduceLeDiff, List.getElem?_cons_zero, List.getElem?_cons_succ, Nat.reduceMul, Option.isSome_some, layAt, Nat.reduceLT, Option.isNone_some, Option.isNone_none, beq_self_eq_true, Nat.reduceEqDiff, setParams, Int.reduceLT, Int.reduceLE, Int.reduceGT, Int.reduceGE, Int.reduceEq, Int.reduceNe, Option.map_some, Option.map_none, Option.isSome_none]
  refine L_is (fun q s => s.defers = [] ∧ s.tmps.length = 148 ∧ s.tmps.getD 0 undefV = .slice (some ⟨b, 0, sp⟩) a.length cap ∧ s.tmps.getD 1 undefV = .int .i64 0 ∧ s.tmps.getD 2 undefV = .int .i64 (a.length : Int) ∧ s.tmps.getD 4 undefV = .func (.func 75) #[] #[] ∧ s.h = h) 0 ?_ (by omega) ?_
  · exact ⟨rfl, rfl, rfl, rfl, rfl, rfl, rfl⟩
  rintro q tm df h1 ⟨hd, hlen_, g0, g1, g2, g4, hh⟩
  simp only at hd hh g0 g1 g2 g4
  subst hd hh
  obtain ⟨w, hg_, rfl⟩ := explode hlen_
  simp only [hg_] at g0 g1 g2 g4
  clear hlen_ hg_
  have y1 : IntKind.i64.wrap ((a.length : Int) - 0) = (a.length : Int) := by rw [wrap_i64 (by omega) (by omega)]; omega
  have c1 : (a.length : Int) ≤ 12 := by omega
  simp (disch := first | assumption | omega | (simp only [wkD, oneCell, Option.isSome_some, *]; done) | (simp only [wkE, ne_eq]; omega)) only [g0, g1, g2, g4, y1, c1, wk0, wk1, wk2, wk3, wk4, wk5, X_region, X_seq, X_block, X_loop, X_cond, Y_box, Y_un, Y_store, Y_append, Y_makeMap, Y_buildSlice, ibin_shl, ibin_shr, ibin_and, List.set_cons_zero, List.set_cons_succ, List.getD_cons_zero, List.getD_cons_succ, List.map_cons, List.map_nil, ↓reduceIte, reduceCtorEq, oneCell, List.length_cons, List.length_nil, setAt, readN, bne_iff_ne, ne_eq, Nat.reduceAdd, Nat.reduceLeDiff, List.getElem?_cons_zero, List.getElem?_cons_succ, Nat.reduceMul, Option.isSome_some, layAt, Nat.reduceLT, Option.isNone_some, Option.isNone_none, beq_self_eq_true, Nat.reduceEqDiff, setParams, Int.reduceLT, Int.reduceLE, Int.reduceGT, Int.reduceGE, Int.reduceEq, Int.reduceNe, Option.map_some, Option.map_none, Option.isSome_none]
  refine Z_is (insertion_ok (n := n) (lo := 0) hn (by omega) hf A (Nat.zero_le _) (Nat.le_refl _)) ?_
  rintro v2 h2 ⟨a', A', S', so, C⟩
  simp (disch := first | assumption | omega | (simp only [wkD, oneCell, Option.isSome_some, *]; done) | (simp only [wkE, ne_eq]; omega)) only [wk0, wk1, wk2, wk3, wk4, wk5, X_region, X_seq, X_block, X_loop, X_cond, Y_box, Y_un, Y_store, Y_append, Y_makeMap, Y_buildSlice, ibin_shl, ibin_shr, ibin_and, List.set_cons_zero, List.set_cons_succ, List.getD_cons_zero, List.getD_cons_succ, List.map_cons, List.map_nil, ↓reduceIte, reduceCtorEq, oneCell, List.length_cons, List.length_nil, setAt, readN, bne_iff_ne, ne_eq, Nat.reduceAdd, Nat.reduceLeDiff, List.getElem?_cons_zero, List.getElem?_cons_succ, Nat.reduceMul, Option.isSome_some, layAt, Nat.reduceLT, Option.isNone_some, Option.isNone_none, beq_self_eq_true, Nat.reduceEqDiff, setParams, Int.reduceLT, Int.reduceLE, Int.reduceGT, Int.reduceGE, Int.reduceEq, Int.reduceNe, Option.map_some, Option.map_none, Option.isSome_none]
  refine Is_in ?_
  simp (disch := first | assumption | omega | (simp only [wkD, oneCell, Option.isSome_some, *]; done) | (simp only [wkE, ne_eq]; omega)) only [wk0, wk1, wk2, wk3, wk4, wk5, X_region, X_seq, X_block, X_loop, X_cond, Y_box, Y_un, Y_store, Y_append, Y_makeMap, Y_buildSlice, ibin_shl, ibin_shr, ibin_and, List.set_cons_zero, List.set_cons_succ, List.getD_cons_zero, List.getD_cons_succ, List.map_cons, List.map_nil, ↓reduceIte, reduceCtorEq, oneCell, List.length_cons, List.length_nil, setAt, readN, bne_iff_ne, ne_eq, Nat.reduceAdd, Nat.reduceLeDiff, List.getElem?_cons_zero, List.getElem?_cons_succ, Nat.reduceMul, Option.isSome_some, layAt, Nat.reduceLT, Option.isNone_some, Option.isNone_none, beq_self_eq_true, Nat.reduceEqDiff, setParams, Int.reduceLT, Int.reduceLE, Int.reduceGT, Int.reduceGE, Int.reduceEq, Int.reduceNe, Option.map_some, Option.map_none, Option.isSome_none]
  exact leaf0 ⟨a', A', S', so, C⟩
theorem sort_few {n b cap zz : Nat} {sp : Option Nat} {h : Heap} {a : List It} {rest : List Value} {t : Bool} (hn : a.length + 20 < n) (hl : a.length ≤ 12) (hf : h.Fine) (A : Arr h b a rest zz t) :
    (callV env (n + 7) (.func (.func 74) #[] #[]) [.slice (some ⟨b, 0, sp⟩) a.length cap, .func (.func 75) #[] #[]] h).Is fun p => ∃ a', Arr p.2 b a' rest zz t ∧ SP 0 a.length a a' ∧ Sorted a' 0 a.length ∧ Chg (fun y => y = b) h p.2 := by
  refine call_is env74 ?_
  have y1 : IntKind.u64.wrap (a.length : Int) = (a.length : Int) := wrap_u64 (by omega) (by omega)
  simp (disch := first | assumption | omega | (simp only [wkD, oneCell, Option.isSome_some, *]; done) | (simp only [wkE, ne_eq]; omega)) only [ir74, List.append_nil, List.nil_append, List.cons_append, List.length_cons, List.length_nil, Nat.reduceAdd, Nat.reduceSub, List.replicate_succ, List.replicate_zero, y1, wk0, wk1, wk2, wk3, wk4, wk5, X_region, X_seq, X_block, X_loop, X_cond, Y_box, Y_un, Y_store, Y_append, Y_makeMap, Y_buildSlice, ibin_shl, ibin_shr, ibin_and, List.set_cons_zero, List.set_cons_succ, List.getD_cons_zero, List.getD_cons_succ, List.map_cons, List.map_nil, ↓reduceIte, reduceCtorEq, oneCell, List.length_cons, List.length_nil, setAt, readN, bne_iff_ne, ne_eq, Nat.reduceAdd, Nat.reduceLeDiff, List.getElem?_cons_zero, List.getElem?_cons_succ, Nat.reduceMul, Option.isSome_some, layAt, Nat.reduceLT, Option.isNone_some, Option.isNone_none, beq_self_eq_true, Nat.reduceEqDiff, setParams, Int.reduceLT, Int.reduceLE, Int.reduceGT, Int.reduceGE, Int.reduceEq, Int.reduceNe, Option.map_some, Option.map_none, Option.isSome_none]
  refine Z_is (len_ok' (n := n + 4) (by omega)) ?_
  rintro v1 h1 ⟨⟨k, hk, rfl⟩, rfl⟩
  simp (disch := first | assumption | omega | (simp only [wkD, oneCell, Option.isSome_some, *]; done) | (simp only [wkE, ne_eq]; omega)) only [wk0, wk1, wk2, wk3, wk4, wk5, X_region, X_seq, X_block, X_loop, X_cond, Y_box, Y_un, Y_store, Y_append, Y_makeMap, Y_buildSlice, ibin_shl, ibin_shr, ibin_and, List.set_cons_zero, List.set_cons_succ, List.getD_cons_zero, List.getD_cons_succ, List.map_cons, List.map_nil, ↓reduceIte, reduceCtorEq, oneCell, List.length_cons, List.length_nil, setAt, readN, bne_iff_ne, ne_eq, Nat.reduceAdd, Nat.reduceLeDiff, List.getElem?_cons_zero, List.getElem?_cons_succ, Nat.reduceMul, Option.isSome_some, layAt, Nat.reduceLT, Option.isNone_some, Option.isNone_none, beq_self_eq_true, Nat.reduceEqDiff, setParams, Int.reduceLT, Int.reduceLE, Int.reduceGT, Int.reduceGE, Int.reduceEq, Int.reduceNe, Option.map_some, Option.map_none, Option.isSome_none]
  refine Z_is (pdq_few (n := n) hn hl hf A) ?_
  rintro v2 h2 ⟨a', A', S', so, C⟩
  simp (disch := first | assumption | omega | (simp only [wkD, oneCell, Option.isSome_some, *]; done) | (simp only [wkE, ne_eq]; omega)) only [wk0, wk1, wk2, wk3, wk4, wk5, X_region, X_seq, X_block, X_loop, X_cond, Y_box, Y_un, Y_store, Y_append, Y_makeMap, Y_buildSlice, ibin_shl, ibin_shr, ibin_and, List.set_cons_zero, List.set_cons_succ, List.getD_cons_zero, List.getD_cons_succ, List.map_cons, List.map_nil, ↓reduceIte, reduceCtorEq, oneCell, List.length_cons, List.length_nil, setAt, readN, bne_iff_ne, ne_eq, Nat.reduceAdd, Nat.reduceLeDiff, List.getElem?_cons_zero, List.getElem?_cons_succ, Nat.reduceMul, Option.isSome_some, layAt, Nat.reduceLT, Option.isNone_some, Option.isNone_none, beq_self_eq_true, Nat.reduceEqDiff, setParams, Int.reduceLT, Int.reduceLE, Int.reduceGT, Int.reduceGE, Int.reduceEq, Int.reduceNe, Option.map_some, Option.map_none, Option.isSome_none]
  exact leaf0n ⟨a', A', S', so, C⟩
theorem count_zero {a : List It} (h : ∀ y, a.count y = 0) : a = [] := by
  rcases a with _ | ⟨x, a⟩
  · rfl
  · have := h x
    simp at this
end Go.Proofs.Ytmpnldmdchchjaa
