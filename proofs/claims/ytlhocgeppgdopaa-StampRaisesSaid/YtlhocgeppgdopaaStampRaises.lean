/-
  The law StampRaises holds: the call answers true whatever waiters, robot and priority it is handed, whatever the machine chooses, and nothing that was there before it is changed; no condition.
-/
import Derived.Test.YtlhocgeppgdopaaFk
import Derived.Test.YtlhocgeppgdopaaHt
import Derived.Test.YtlhocgeppgdopaaRows
namespace Go.Proofs.Ytlhocgeppgdopaa
open Go Go.Ideal Go.ChangeShapes Go.RowKit
set_option maxHeartbeats 0
set_option linter.unusedSimpArgs false
set_option linter.unusedVariables false
set_option maxRecDepth 100000
/-- The chapter's examples, in a memory in which only a box was laid. -/
def aliveX (ro : Nat → Option (List Value × Nat)) (r : Int) : T (Value × Heap) := callV env 999 (.func (.func 14) #[] #[]) [] ((fresh ro).alloc (.cells [.int .i64 r] 1 false))
def aliveH (ro : Nat → Option (List Value × Nat)) (r : Int) : Heap := match aliveX ro r with
  | .ret p => p.2
  | _ => fresh ro
theorem alive_eq (ro r) : aliveX ro r = .ret (.bool true, aliveH ro r) := by kernel_rfl
theorem alive_floor (ro r) : (aliveH ro r).floor = 0 := by kernel_rfl
theorem alive_hid (ro r) : (aliveH ro r).hid = [] := by kernel_rfl
theorem alive_ro (ro r) : (aliveH ro r).ro = ro := by kernel_rfl
theorem alive_get (ro r) : (aliveH ro r).get 0 = some (.cells [.int .i64 r] 1 false) := by kernel_rfl
theorem alive_next (ro r) : decide (0 < (aliveH ro r).next) = true := by kernel_rfl
attribute [local irreducible] callV T.All T.Is run
theorem env5 : env 5 = some ir5 := rfl

theorem it_inv (vs : List Value) (h : Fits [.int .i64, .int .u64, .int .i64] vs) : ∃ s : It, vs = ic s ∧ True := by
  match vs, h with
  | [x, y, z], h =>
    obtain ⟨⟨a, rfl, _⟩, ⟨b, rfl, _⟩, ⟨c, rfl, _⟩, _⟩ := h
    exact ⟨⟨a, b, c⟩, rfl, trivial⟩
  | [], h => exact h.elim
  | [_], h => exact h.2.elim
  | [_, _], h => exact h.2.2.elim
  | _ :: _ :: _ :: _ :: _, h => exact h.2.2.2.elim

theorem place_uniq {A : List It} {r j k : Int} (h1 : IsPlace A r j) (h2 : IsPlace A r k) : j = k := by
  rcases h1 with ⟨rfl, n1⟩ | ⟨i, rfl, i1, i2, i3⟩ <;> rcases h2 with ⟨rfl, n2⟩ | ⟨i', rfl, j1, j2, j3⟩
  · rfl
  · exact absurd j2 (n1 i' j1)
  · exact absurd i2 (n2 i i1)
  · have : i = i' := by
      rcases Nat.lt_trichotomy i i' with h | h | h
      · exact absurd i2 (j3 i h)
      · exact h
      · exact absurd j2 (i3 i' h)
    rw [this]

theorem mem_nth {A : List It} {x : It} : x ∈ A ↔ ∃ i, i < A.length ∧ nth A i = x := by
  constructor
  · intro h
    obtain ⟨i, hi, rfl⟩ := List.mem_iff_getElem.1 h
    refine ⟨i, hi, ?_⟩
    have := nth_get hi
    rw [List.getElem?_eq_getElem hi] at this
    exact (Option.some.inj this).symm
  · rintro ⟨i, hi, rfl⟩
    exact List.mem_of_getElem? (nth_get hi)

theorem sorted_tail {x : It} {a : List It} (hs : Sorted (x :: a) 0 (x :: a).length) : Sorted a 0 a.length := fun i j h1 h2 h3 => hs (i + 1) (j + 1) (by omega) (by omega) (by simpa using h3)
theorem sorted_head {x : It} {a : List It} (hs : Sorted (x :: a) 0 (x :: a).length) {y : It} (hy : y ∈ a) : le x y := by
  obtain ⟨i, hi, rfl⟩ := mem_nth.1 hy
  exact hs 0 (i + 1) (by omega) (by omega) (by simpa using hi)
theorem sorted_cons {x : It} {a : List It} (h1 : Sorted a 0 a.length) (h2 : ∀ y ∈ a, le x y) : Sorted (x :: a) 0 (x :: a).length := by
  intro i j h0 hij hj
  rcases j with _ | j
  · omega
  · rcases i with _ | i
    · exact h2 _ (mem_nth.2 ⟨j, by simpa using hj, rfl⟩)
    · exact h1 i j (by omega) (by omega) (by simpa using hj)
theorem sorted_filter {p : It → Bool} : ∀ {a : List It}, Sorted a 0 a.length → Sorted (a.filter p) 0 (a.filter p).length
  | [], _ => fun i j h1 h2 h3 => by simp at h3
  | x :: a, hs => by
    have ih := sorted_filter (p := p) (sorted_tail hs)
    rw [List.filter_cons]
    split
    · exact sorted_cons ih fun y hy => sorted_head hs (List.mem_filter.1 hy).1
    · exact ih

theorem raise_rest {A A' : List It} {r p : Int} {a : Bool} (hs : Sorted A 0 A.length) (hr : RaiseIs A r p a A') : (A'.filter fun x => decide (x.r ≠ r)) = A.filter fun x => decide (x.r ≠ r) := by
  rcases hr with ⟨_, _, rfl⟩ | ⟨_, l2, ⟨i, hpl, hi, h15, hlt, rfl⟩, q1, q2, q3⟩
  · rfl
  · refine sorted_uniq (sorted_filter q3) (sorted_filter hs) fun y => ?_
    have hir : (nth A i).r = r := by
      rcases hpl with ⟨h, _⟩ | ⟨i', h, _, h2, _⟩
      · omega
      · have : i = i' := by omega
        rw [this]; exact h2
    by_cases hy : y.r = r
    · have e1 : ∀ B : List It, (B.filter fun x => decide (x.r ≠ r)).count y = 0 := fun B => List.count_eq_zero.2 fun hm => by
        have := (List.mem_filter.1 hm).2
        simp [hy] at this
      rw [e1, e1]
    · have e1 : ∀ B : List It, (B.filter fun x => decide (x.r ≠ r)).count y = B.count y := fun B => List.count_filter (by simpa using hy)
      rw [e1, e1, q2]
      have := cnt_set (l := A) (i := i) (x := { nth A i with p := p }) y hi
      have n1 : ¬ nth A i = y := by rintro rfl; exact hy hir
      have n2 : ¬ ({ nth A i with p := p } : It) = y := by rintro rfl; exact hy hir
      unfold one at this
      rw [if_neg n1, if_neg n2] at this
      omega

theorem raise_len {A A' : List It} {r p : Int} {a : Bool} (hr : RaiseIs A r p a A') : A'.length = A.length := by
  rcases hr with ⟨_, _, rfl⟩ | ⟨_, l2, ⟨i, hpl, hi, h15, hlt, rfl⟩, q1, q2, q3⟩
  · rfl
  · rw [q1, List.length_set]

theorem filter_nth {A : List It} {r : Int} {i : Nat} (h : ∀ j, j < i → (nth A j).r ≠ r) (hi : i ≤ A.length) : A.filter (fun x => decide (x.r ≠ r)) = A.take i ++ (A.drop i).filter fun x => decide (x.r ≠ r) := by
  conv => lhs; rw [← List.take_append_drop i A]
  rw [List.filter_append]
  congr 1
  rw [List.filter_eq_self]
  intro x hx
  obtain ⟨j, hj, rfl⟩ := mem_nth.1 hx
  rw [List.length_take] at hj
  have : nth (A.take i) j = nth A j := by
    unfold nth
    rw [List.getD_eq_getElem?_getD, List.getD_eq_getElem?_getD, List.getElem?_take, if_pos (by omega)]
  rw [this]
  simpa using h j (by omega)

theorem raise_at {A A' : List It} {r p ka kb : Int} {a : Bool} (hs : Sorted A 0 A.length) (hr : RaiseIs A r p a A') (hka : IsPlace A' r ka) (hkb : IsPlace A r kb) : ka ≤ kb := by
  have hrest := raise_rest hs hr
  have hlen := raise_len hr
  rcases hr with ⟨_, _, rfl⟩ | ⟨_, l2, ⟨i, hpl, hi, h15, hlt, rfl⟩, q1, q2, q3⟩
  · rw [place_uniq hka hkb]; omega
  · have e := place_uniq hkb hpl
    subst e
    have hir : (nth A i).r = r ∧ ∀ j, j < i → (nth A j).r ≠ r := by
      rcases hpl with ⟨h, _⟩ | ⟨i', h, _, h2, h3⟩
      · omega
      · have : i = i' := by omega
        rw [this]; exact ⟨h2, h3⟩
    -- the one that was raised is there
    have hw : ({ nth A i with p := p } : It) ∈ A' := by
      refine List.count_pos_iff.1 ?_
      rw [q2]
      refine List.count_pos_iff.2 (mem_nth.2 ⟨i, by simpa using hi, ?_⟩)
      rw [nth_set hi, if_pos rfl]
    obtain ⟨t, ht, htw⟩ := mem_nth.1 hw
    rcases hka with ⟨rfl, no⟩ | ⟨k, rfl, k1, k2, k3⟩
    · omega
    · refine Decidable.byContradiction fun hgt => ?_
      have hik : i < k := by omega
      have hkt : k ≤ t := Nat.le_of_not_lt fun h => k3 t h (by rw [htw]; exact hir.1)
      -- the i-th of the rest
      have f1 := filter_nth (A := A') (r := r) (i := i + 1) (fun j hj => k3 j (by omega)) (by omega)
      have f2 := filter_nth (A := A) (r := r) (i := i) hir.2 (by omega)
      have g1 : nth (A'.filter fun x => decide (x.r ≠ r)) i = nth A' i := by
        rw [f1]
        unfold nth
        rw [List.getD_eq_getElem?_getD, List.getD_eq_getElem?_getD, List.getElem?_append_left (by rw [List.length_take]; omega), List.getElem?_take, if_pos (by omega)]
      have hl1 : i < (A'.filter fun x => decide (x.r ≠ r)).length := by
        rw [f1, List.length_append, List.length_take]
        omega
      have hm : nth A' i ∈ A.drop (i + 1) := by
        have h2 : nth A' i ∈ (A.drop i).filter fun x => decide (x.r ≠ r) := by
          rw [← g1]
          refine mem_nth.2 ⟨0, ?_, ?_⟩
          · rw [hrest, f2, List.length_append, List.length_take] at hl1
            omega
          · rw [hrest, f2]
            unfold nth
            rw [List.getD_eq_getElem?_getD, List.getD_eq_getElem?_getD, List.getElem?_append_right (by rw [List.length_take]; omega), List.length_take]
            congr 2
            omega
        obtain ⟨h3, h4⟩ := List.mem_filter.1 h2
        have : A.drop i = nth A i :: A.drop (i + 1) := by
          rw [List.drop_eq_getElem_cons hi]
          congr 1
          have := nth_get hi
          rw [List.getElem?_eq_getElem hi] at this
          exact Option.some.inj this
        rw [this] at h3
        rcases List.mem_cons.1 h3 with h5 | h5
        · rw [h5] at h4
          simp [hir.1] at h4
        · exact h5
      obtain ⟨j, hj, hje⟩ := mem_nth.1 hm
      rw [List.length_drop] at hj
      have hje2 : nth A (i + 1 + j) = nth A' i := by
        rw [← hje]
        unfold nth
        rw [List.getD_eq_getElem?_getD, List.getD_eq_getElem?_getD, List.getElem?_drop]
      have l1 : le (nth A i) (nth A' i) := by rw [← hje2]; exact hs i (i + 1 + j) (by omega) (by omega) (by omega)
      have l2 : le (nth A' i) (nth A' t) := q3 i t (by omega) (by omega) ht
      have l3 := le_trans l1 l2
      rw [htw] at l3
      unfold le at l3
      simp only at l3
      omega

theorem put_sorted {A A' : List It} {x : It} {a : Bool} {e : Int} (hs : Sorted A 0 A.length) (hl : A.length ≤ 8) (hp : PutIs A x a e A') : Sorted A' 0 A'.length ∧ A'.length ≤ 8 ∧ A'.length ≤ A.length + 1 := by
  rcases hp with ⟨_, _, _, rfl⟩ | ⟨_, _, _, _, _, rfl⟩ | ⟨_, _, _, l2, p, q1, q2, q3⟩
  · exact ⟨hs, hl, by omega⟩
  · exact ⟨hs, hl, by omega⟩
  · refine ⟨q3, ?_⟩
    rcases p with ⟨_, h, rfl⟩ | ⟨i, _, h, ⟨_, rfl⟩ | ⟨_, rfl⟩⟩
    · simp at q1; omega
    · simp at q1; omega
    · omega

theorem stampRaises_run {ro : Nat → Option (List Value × Nat)} {p : Option Addr} {bb len cap : Nat} {l : List It} {r pr : Int} (hbb : bb % 2 = 1) (hl : l.length = len)
    (hg : 0 < len → p = some ⟨bb, 0, none⟩ ∧ (fresh ro).get bb = some (.cells (l.flatMap ic) 1 true)) :
    (callV env 1000 (.func (.func 5) #[] #[]) [.slice p len cap, .int .i64 r, .int .i64 pr] (fresh ro)).Is fun p => p.1 = .bool true := by
  refine call_is (n := 999) env5 ?_
  have fn : (fresh ro).next = 0 := rfl
  simp (disch := first | assumption | omega | (simp only [wkD, oneCell, Option.isSome_some, *]; done) | (simp only [wkE, ne_eq]; omega)) only [ir5, List.append_nil, List.nil_append, List.cons_append, List.length_cons, List.length_nil, Nat.reduceAdd, Nat.reduceSub, List.replicate_succ, List.replicate_zero, fn, Nat.mul_zero, wk0, wk1, wk2, wk3, wk4, wk5, X_region, X_seq, X_block, X_loop, X_cond, Y_box, Y_un, Y_store, Y_append, Y_makeMap, Y_buildSlice, ibin_shl, ibin_shr, ibin_and, List.set_cons_zero, List.set_cons_succ, List.getD_cons_zero, List.getD_cons_succ, List.map_cons, List.map_nil, ↓reduceIte, reduceCtorEq, oneCell, List.length_cons, List.length_nil, setAt, readN, bne_iff_ne, ne_eq, Nat.reduceAdd, Nat.reduceLeDiff, List.getElem?_cons_zero, List.getElem?_cons_succ, Nat.reduceMul, Option.isSome_some, layAt, Nat.reduceLT, Option.isNone_some, Option.isNone_none, beq_self_eq_true, Nat.reduceEqDiff, setParams, Int.reduceLT, Int.reduceLE, Int.reduceGT, Int.reduceGE, Int.reduceEq, Int.reduceNe, Option.map_some, Option.map_none, Option.isSome_none]
  have hA : (callV env 999 (.func (.func 14) #[] #[]) [] ((fresh ro).alloc (.cells [.int .i64 r] 1 false))) = .ret (.bool true, aliveH ro r) := alive_eq ro r
  rw [hA]
  have O : Has ro (aliveH ro r) [Ob 0 (.cells [.int .i64 r] 1 false)] := ⟨⟨by rw [alive_floor]; omega, fun p hp => by rw [alive_hid] at hp; cases hp⟩, alive_ro ro r, fun x => x = 0, fun b hb => by
    subst hb
    have := of_decide_eq_true (alive_next ro r)
    exact ⟨rfl, by rw [alive_floor]; omega, by omega⟩, fun x => x = 0, fun _ => False, fun b => by simp, fun b _ h => h, ⟨fun x => Iff.rfl, alive_get ro r⟩, fun b h => h⟩
  clear hA
  generalize aliveH ro r = h at O
  by_cases hlen : 8 < len
  · have c : (8 : Int) < (len : Int) := by omega
    simp (disch := first | assumption | omega | (simp only [wkD, oneCell, Option.isSome_some, *]; done) | (simp only [wkE, ne_eq]; omega)) only [c, wk0, wk1, wk2, wk3, wk4, wk5, X_region, X_seq, X_block, X_loop, X_cond, Y_box, Y_un, Y_store, Y_append, Y_makeMap, Y_buildSlice, ibin_shl, ibin_shr, ibin_and, List.set_cons_zero, List.set_cons_succ, List.getD_cons_zero, List.getD_cons_succ, List.map_cons, List.map_nil, ↓reduceIte, reduceCtorEq, oneCell, List.length_cons, List.length_nil, setAt, readN, bne_iff_ne, ne_eq, Nat.reduceAdd, Nat.reduceLeDiff, List.getElem?_cons_zero, List.getElem?_cons_succ, Nat.reduceMul, Option.isSome_some, layAt, Nat.reduceLT, Option.isNone_some, Option.isNone_none, beq_self_eq_true, Nat.reduceEqDiff, setParams, Int.reduceLT, Int.reduceLE, Int.reduceGT, Int.reduceGE, Int.reduceEq, Int.reduceNe, Option.map_some, Option.map_none, Option.isSome_none]
    exact leaf1 rfl
  have c : ¬ (8 : Int) < (len : Int) := by omega
  simp (disch := first | assumption | omega | (simp only [wkD, oneCell, Option.isSome_some, *]; done) | (simp only [wkE, ne_eq]; omega)) only [c, wk0, wk1, wk2, wk3, wk4, wk5, X_region, X_seq, X_block, X_loop, X_cond, Y_un, Y_store, Y_append, Y_makeMap, Y_buildSlice, ibin_shl, ibin_shr, ibin_and, List.set_cons_zero, List.set_cons_succ, List.getD_cons_zero, List.getD_cons_succ, List.map_cons, List.map_nil, ↓reduceIte, reduceCtorEq, oneCell, List.length_cons, List.length_nil, setAt, readN, bne_iff_ne, ne_eq, Nat.reduceAdd, Nat.reduceLeDiff, List.getElem?_cons_zero, List.getElem?_cons_succ, Nat.reduceMul, Option.isSome_some, layAt, Nat.reduceLT, Option.isNone_some, Option.isNone_none, beq_self_eq_true, Nat.reduceEqDiff, setParams, Int.reduceLT, Int.reduceLE, Int.reduceGT, Int.reduceGE, Int.reduceEq, Int.reduceNe, Option.map_some, Option.map_none, Option.isSome_none]
  refine Y_boxO O ?_
  intro qb h1 O1 e1
  have O2 : Has ro h1 [Qr qb [], Ob 0 (.cells [.int .i64 r] 1 false)] := Has.ex.2 ⟨_, Has.star.2 (O1.slrNil (g := ic) (z := 3)).swap2⟩
  simp (disch := first | assumption | omega | (simp only [wkD, oneCell, Option.isSome_some, *]; done) | (simp only [wkE, ne_eq]; omega)) only [wk0, wk1, wk2, wk3, wk4, wk5, X_region, X_seq, X_block, X_loop, X_cond, Y_box, Y_un, Y_store, Y_append, Y_makeMap, Y_buildSlice, ibin_shl, ibin_shr, ibin_and, List.set_cons_zero, List.set_cons_succ, List.getD_cons_zero, List.getD_cons_succ, List.map_cons, List.map_nil, ↓reduceIte, reduceCtorEq, oneCell, List.length_cons, List.length_nil, setAt, readN, bne_iff_ne, ne_eq, Nat.reduceAdd, Nat.reduceLeDiff, List.getElem?_cons_zero, List.getElem?_cons_succ, Nat.reduceMul, Option.isSome_some, layAt, Nat.reduceLT, Option.isNone_some, Option.isNone_none, beq_self_eq_true, Nat.reduceEqDiff, setParams, Int.reduceLT, Int.reduceLE, Int.reduceGT, Int.reduceGE, Int.reduceEq, Int.reduceNe, Option.map_some, Option.map_none, Option.isSome_none]
  clear O1 e1 O
  refine L_is (fun k s => ∃ (i : Nat) (A : List It), s.defers = [] ∧ s.tmps.length = 95 ∧ s.tmps.getD 0 undefV = .slice p len cap ∧ s.tmps.getD 2 undefV = .int .i64 pr ∧ s.tmps.getD 4 undefV = .pointer (some ⟨0, 0, none⟩) ∧ s.tmps.getD 7 undefV = .bool true ∧ s.tmps.getD 8 undefV = .pointer (some ⟨qb, 0, none⟩) ∧ s.tmps.getD 29 undefV = .int .i64 (len : Int) ∧ s.tmps.getD 30 undefV = .int .i64 (i : Int) ∧ k = len - i ∧ i ≤ len ∧ A.length ≤ i ∧ Sorted A 0 A.length ∧ Has ro s.h [Qr qb A, Ob 0 (.cells [.int .i64 r] 1 false)]) len ?_ (by omega) ?_
  · exact ⟨0, [], rfl, rfl, rfl, rfl, rfl, rfl, rfl, rfl, rfl, rfl, by omega, by simp, fun i j h1 h2 h3 => by simp at h3, O2⟩
  clear O2
  rintro k tm df h2 ⟨i, A, hd, hlen_, g0, g2, g4, g7, g8, g29, g30, hk, hi, hA, hs, O⟩
  simp only at hd O g0 g2 g4 g7 g8 g29 g30
  subst hd
  obtain ⟨w, hg_, rfl⟩ := explode hlen_
  simp only [hg_] at g0 g2 g4 g7 g8 g29 g30
  clear hlen_ hg_
  by_cases hlt : i < len
  · have hlt' : (i : Int) < (len : Int) := by omega
    have c0 : (0 : Int) ≤ (i : Int) := by omega
    obtain ⟨rfl, hgb⟩ := hg (by omega)
    have hgb2 := O.odd hbb hgb
    have r1 : readC (h2.get bb) (i * 3) 3 = some (ic (nth l i)) := rd_all (rest := []) ic_len (nth_get (by omega)) (by rw [List.append_nil]; exact hgb2)
    have y1 : IntKind.i64.wrap ((i : Int) + 1) = ((i + 1 : Nat) : Int) := by rw [wrap_i64 (by omega) (by omega)]; omega
    simp (disch := first | assumption | omega | (simp only [wkD, oneCell, Option.isSome_some, *]; done) | (simp only [wkE, ne_eq]; omega)) only [g0, g2, g4, g7, g8, g29, g30, hlt', c0, r1, Int.toNat_natCast, agg_ic, wk0, wk1, wk2, wk3, wk4, wk5, X_region, X_seq, X_block, X_loop, X_cond, Y_box, Y_un, Y_store, Y_append, Y_makeMap, Y_buildSlice, ibin_shl, ibin_shr, ibin_and, List.set_cons_zero, List.set_cons_succ, List.getD_cons_zero, List.getD_cons_succ, List.map_cons, List.map_nil, ↓reduceIte, reduceCtorEq, oneCell, List.length_cons, List.length_nil, setAt, readN, bne_iff_ne, ne_eq, Nat.reduceAdd, Nat.reduceLeDiff, List.getElem?_cons_zero, List.getElem?_cons_succ, Nat.reduceMul, Option.isSome_some, layAt, Nat.reduceLT, Option.isNone_some, Option.isNone_none, beq_self_eq_true, Nat.reduceEqDiff, setParams, Int.reduceLT, Int.reduceLE, Int.reduceGT, Int.reduceGE, Int.reduceEq, Int.reduceNe, Option.map_some, Option.map_none, Option.isSome_none]
    refine Z_is (put_h (n := 990) (by omega) (by omega) O (nth l i)) ?_
    rintro v3 h3 ⟨a, e, A', rfl, hp, O3⟩
    simp only at O3
    obtain ⟨p1, p2, p3⟩ := put_sorted hs (by omega) hp
    simp (disch := first | assumption | omega | (simp only [wkD, oneCell, Option.isSome_some, *]; done) | (simp only [wkE, ne_eq]; omega)) only [y1, wk0, wk1, wk2, wk3, wk4, wk5, X_region, X_seq, X_block, X_loop, X_cond, Y_box, Y_un, Y_store, Y_append, Y_makeMap, Y_buildSlice, ibin_shl, ibin_shr, ibin_and, List.set_cons_zero, List.set_cons_succ, List.getD_cons_zero, List.getD_cons_succ, List.map_cons, List.map_nil, ↓reduceIte, reduceCtorEq, oneCell, List.length_cons, List.length_nil, setAt, readN, bne_iff_ne, ne_eq, Nat.reduceAdd, Nat.reduceLeDiff, List.getElem?_cons_zero, List.getElem?_cons_succ, Nat.reduceMul, Option.isSome_some, layAt, Nat.reduceLT, Option.isNone_some, Option.isNone_none, beq_self_eq_true, Nat.reduceEqDiff, setParams, Int.reduceLT, Int.reduceLE, Int.reduceGT, Int.reduceGE, Int.reduceEq, Int.reduceNe, Option.map_some, Option.map_none, Option.isSome_none]
    exact Is_in ⟨len - (i + 1), by omega, i + 1, A', rfl, rfl, rfl, rfl, rfl, rfl, rfl, rfl, rfl, rfl, by omega, by omega, p1, O3⟩
  · have hlt' : ¬ (i : Int) < (len : Int) := by omega
    simp (disch := first | assumption | omega | (simp only [wkD, oneCell, Option.isSome_some, *]; done) | (simp only [wkE, ne_eq]; omega)) only [g0, g2, g4, g7, g8, g29, g30, hlt', wk0, wk1, wk2, wk3, wk4, wk5, X_region, X_seq, X_block, X_loop, X_cond, Y_box, Y_un, Y_store, Y_append, Y_makeMap, Y_buildSlice, ibin_shl, ibin_shr, ibin_and, List.set_cons_zero, List.set_cons_succ, List.getD_cons_zero, List.getD_cons_succ, List.map_cons, List.map_nil, ↓reduceIte, reduceCtorEq, oneCell, List.length_cons, List.length_nil, setAt, readN, bne_iff_ne, ne_eq, Nat.reduceAdd, Nat.reduceLeDiff, List.getElem?_cons_zero, List.getElem?_cons_succ, Nat.reduceMul, Option.isSome_some, layAt, Nat.reduceLT, Option.isNone_some, Option.isNone_none, beq_self_eq_true, Nat.reduceEqDiff, setParams, Int.reduceLT, Int.reduceLE, Int.reduceGT, Int.reduceGE, Int.reduceEq, Int.reduceNe, Option.map_some, Option.map_none, Option.isSome_none]
    refine Is_in ?_
    simp (disch := first | assumption | omega | (simp only [wkD, oneCell, Option.isSome_some, *]; done) | (simp only [wkE, ne_eq]; omega)) only [g0, g2, g4, g7, g8, g29, g30, wk0, wk1, wk2, wk3, wk4, wk5, X_region, X_seq, X_block, X_loop, X_cond, Y_box, Y_un, Y_store, Y_append, Y_makeMap, Y_buildSlice, ibin_shl, ibin_shr, ibin_and, List.set_cons_zero, List.set_cons_succ, List.getD_cons_zero, List.getD_cons_succ, List.map_cons, List.map_nil, ↓reduceIte, reduceCtorEq, oneCell, List.length_cons, List.length_nil, setAt, readN, bne_iff_ne, ne_eq, Nat.reduceAdd, Nat.reduceLeDiff, List.getElem?_cons_zero, List.getElem?_cons_succ, Nat.reduceMul, Option.isSome_some, layAt, Nat.reduceLT, Option.isNone_some, Option.isNone_none, beq_self_eq_true, Nat.reduceEqDiff, setParams, Int.reduceLT, Int.reduceLE, Int.reduceGT, Int.reduceGE, Int.reduceEq, Int.reduceNe, Option.map_some, Option.map_none, Option.isSome_none]
    refine Z_is (list_h (n := 997) (by omega) O) ?_
    rintro v3 h3 O3
    simp only at O3
    have g2 := O3.get 2 rfl
    simp (disch := first | assumption | omega | (simp only [wkD, oneCell, Option.isSome_some, *]; done) | (simp only [wkE, ne_eq]; omega)) only [g0, g2, g4, g7, g8, g29, g30, g2, wk0, wk1, wk2, wk3, wk4, wk5, X_region, X_seq, X_block, X_loop, X_cond, Y_box, Y_un, Y_store, Y_append, Y_makeMap, Y_buildSlice, ibin_shl, ibin_shr, ibin_and, List.set_cons_zero, List.set_cons_succ, List.getD_cons_zero, List.getD_cons_succ, List.map_cons, List.map_nil, ↓reduceIte, reduceCtorEq, oneCell, List.length_cons, List.length_nil, setAt, readN, bne_iff_ne, ne_eq, Nat.reduceAdd, Nat.reduceLeDiff, List.getElem?_cons_zero, List.getElem?_cons_succ, Nat.reduceMul, Option.isSome_some, layAt, Nat.reduceLT, Option.isNone_some, Option.isNone_none, beq_self_eq_true, Nat.reduceEqDiff, setParams, Int.reduceLT, Int.reduceLE, Int.reduceGT, Int.reduceGE, Int.reduceEq, Int.reduceNe, Option.map_some, Option.map_none, Option.isSome_none]
    refine Z_is (find_h (n := 995) (r := r) (by omega) (by omega) (O3.at 1 rfl)) ?_
    rintro v4 h4 ⟨hf, O4⟩
    simp only at O4 hf
    simp only [List.eraseIdx_cons_succ, List.eraseIdx_cons_zero] at O4
    obtain ⟨x, is, rfl, hx⟩ : ∃ (x : It) (is : Bool), v4 = .tuple #[iv x, .bool is] ∧ ∀ a A', RaiseIs A r pr a A' → a = (is && decide (x.p < pr) && decide (pr ≤ 15)) := by
      rcases hf with ⟨hno, rfl⟩ | ⟨j, hj, hj2, rfl⟩
      · refine ⟨it0, false, rfl, ?_⟩
        rintro a A' (⟨rfl, _⟩ | ⟨_, l2, ⟨i', hpl, _⟩, _⟩)
        · rfl
        · have := place_uniq hno hpl
          omega
      · refine ⟨nth A j, true, rfl, ?_⟩
        rintro a A' (⟨rfl, h, _⟩ | ⟨rfl, l2, ⟨i', hpl, _, h15, hlt, _⟩, _⟩)
        · rcases h with h | ⟨i', hpl, _, h⟩
          · have := place_uniq hj h; omega
          · have := place_uniq hj hpl
            have e : j = i' := by omega
            subst e
            rcases h with h | h
            · rw [decide_eq_false (show ¬ pr ≤ 15 by omega)]; simp
            · rw [decide_eq_false (show ¬ (nth A j).p < pr by omega)]; simp
        · have := place_uniq hj hpl
          have e : j = i' := by omega
          subst e
          rw [decide_eq_true hlt, decide_eq_true h15]; rfl
    clear hf
    simp (disch := first | assumption | omega | (simp only [wkD, oneCell, Option.isSome_some, *]; done) | (simp only [wkE, ne_eq]; omega)) only [wk0, wk1, wk2, wk3, wk4, wk5, X_region, X_seq, X_block, X_loop, X_cond, Y_un, Y_store, Y_append, Y_makeMap, Y_buildSlice, ibin_shl, ibin_shr, ibin_and, List.set_cons_zero, List.set_cons_succ, List.getD_cons_zero, List.getD_cons_succ, List.map_cons, List.map_nil, ↓reduceIte, reduceCtorEq, oneCell, List.length_cons, List.length_nil, setAt, readN, bne_iff_ne, ne_eq, Nat.reduceAdd, Nat.reduceLeDiff, List.getElem?_cons_zero, List.getElem?_cons_succ, Nat.reduceMul, Option.isSome_some, layAt, Nat.reduceLT, Option.isNone_some, Option.isNone_none, beq_self_eq_true, Nat.reduceEqDiff, setParams, Int.reduceLT, Int.reduceLE, Int.reduceGT, Int.reduceGE, Int.reduceEq, Int.reduceNe, Option.map_some, Option.map_none, Option.isSome_none]
    refine Y_boxO O4 ?_
    intro xb h5 O5 e5
    have g5 := O5.get 0 rfl
    have p5 := O5.can 0 rfl
    have O6 := O5.set 0 rfl (.cells (ic x) 1 false)
    simp only [List.set_cons_zero] at O6
    have g6 := O6.get 3 rfl
    simp (disch := first | assumption | omega | (simp only [wkD, oneCell, Option.isSome_some, *]; done) | (simp only [wkE, ne_eq]; omega)) only [g5, p5, g6, set_ic, iv_cells, ic_len, ic_one, wk0, wk1, wk2, wk3, wk4, wk5, X_region, X_seq, X_block, X_loop, X_cond, Y_box, Y_un, Y_store, Y_append, Y_makeMap, Y_buildSlice, ibin_shl, ibin_shr, ibin_and, List.set_cons_zero, List.set_cons_succ, List.getD_cons_zero, List.getD_cons_succ, List.map_cons, List.map_nil, ↓reduceIte, reduceCtorEq, oneCell, List.length_cons, List.length_nil, setAt, readN, bne_iff_ne, ne_eq, Nat.reduceAdd, Nat.reduceLeDiff, List.getElem?_cons_zero, List.getElem?_cons_succ, Nat.reduceMul, Option.isSome_some, layAt, Nat.reduceLT, Option.isNone_some, Option.isNone_none, beq_self_eq_true, Nat.reduceEqDiff, setParams, Int.reduceLT, Int.reduceLE, Int.reduceGT, Int.reduceGE, Int.reduceEq, Int.reduceNe, Option.map_some, Option.map_none, Option.isSome_none]
    have O7 := O6.at 1 rfl
    simp only [List.eraseIdx_cons_succ, List.eraseIdx_cons_zero] at O7
    refine Z_is (raise_h (n := 990) (r := r) (p := pr) (by omega) (by omega) O7) ?_
    rintro v8 h8 ⟨up, A', rfl, hr, O8⟩
    simp only at O8
    have hup := hx up A' hr
    have hln := raise_len hr
    simp (disch := first | assumption | omega | (simp only [wkD, oneCell, Option.isSome_some, *]; done) | (simp only [wkE, ne_eq]; omega)) only [wk0, wk1, wk2, wk3, wk4, wk5, X_region, X_seq, X_block, X_loop, X_cond, Y_box, Y_un, Y_store, Y_append, Y_makeMap, Y_buildSlice, ibin_shl, ibin_shr, ibin_and, List.set_cons_zero, List.set_cons_succ, List.getD_cons_zero, List.getD_cons_succ, List.map_cons, List.map_nil, ↓reduceIte, reduceCtorEq, oneCell, List.length_cons, List.length_nil, setAt, readN, bne_iff_ne, ne_eq, Nat.reduceAdd, Nat.reduceLeDiff, List.getElem?_cons_zero, List.getElem?_cons_succ, Nat.reduceMul, Option.isSome_some, layAt, Nat.reduceLT, Option.isNone_some, Option.isNone_none, beq_self_eq_true, Nat.reduceEqDiff, setParams, Int.reduceLT, Int.reduceLE, Int.reduceGT, Int.reduceGE, Int.reduceEq, Int.reduceNe, Option.map_some, Option.map_none, Option.isSome_none]
    refine Z_is (list_h (n := 997) (by omega) O8) ?_
    rintro v9 h9 O9
    simp only at O9
    have gx := O9.get 2 rfl
    have rx : readC (h9.get xb) 2 1 = some [.int .i64 x.p] := by rw [gx]; rfl
    have gb := O9.get 4 rfl
    have Vn := View.of O9 0 rfl
    have Vw := View.of O9 3 rfl
    have hlow : ∀ q c, vLenSlice (.slice q A'.length c) = some (.int .i64 (A.length : Int)) := fun q c => by rw [hln]; rfl
    obtain ⟨pn, cn, rfl, hz1⟩ := O9.scVal 0 rfl
    obtain ⟨pw, cw, rfl, hz2⟩ := O9.scVal 3 rfl
    clear hz1 hz2
    -- the answer
    have hdl : decide ((A'.length : Int) = (A.length : Int)) = true := decide_eq_true (by omega)
    simp (disch := first | assumption | omega | (simp only [wkD, oneCell, Option.isSome_some, *]; done) | (simp only [wkE, ne_eq]; omega)) only [wk0, wk1, wk2, wk3, wk4, wk5, X_seq, X_block, X_loop, X_cond, Y_box, Y_un, Y_store, Y_append, Y_makeMap, Y_buildSlice, ibin_shl, ibin_shr, ibin_and, List.set_cons_zero, List.set_cons_succ, List.getD_cons_zero, List.getD_cons_succ, List.map_cons, List.map_nil, ↓reduceIte, reduceCtorEq, oneCell, List.length_cons, List.length_nil, setAt, readN, bne_iff_ne, ne_eq, Nat.reduceAdd, Nat.reduceLeDiff, List.getElem?_cons_zero, List.getElem?_cons_succ, Nat.reduceMul, Option.isSome_some, layAt, Nat.reduceLT, Option.isNone_some, Option.isNone_none, beq_self_eq_true, Nat.reduceEqDiff, setParams, Int.reduceLT, Int.reduceLE, Int.reduceGT, Int.reduceGE, Int.reduceEq, Int.reduceNe, Option.map_some, Option.map_none, Option.isSome_none]
    refine X_cut1 (fun s => s.tmps.length = 95 ∧ s.tmps.getD 4 undefV = .pointer (some ⟨0, 0, none⟩) ∧ s.tmps.getD 7 undefV = .bool true ∧ s.tmps.getD 10 undefV = .slice pw A.length cw ∧ s.tmps.getD 14 undefV = .slice pn A'.length cn ∧ Has ro s.h [Sc 3 ic (.slice pn A'.length cn) A', Qr qb A', Ob xb (.cells (ic x) 1 false), Sc 3 ic (.slice pw A.length cw) A, Ob 0 (.cells [.int .i64 r] 1 false)]) ?_ ?_
    · cases is with
      | false =>
        simp only [Bool.false_and] at hup
        subst hup
        simp (disch := first | assumption | omega | (simp only [wkD, oneCell, Option.isSome_some, *]; done) | (simp only [wkE, ne_eq]; omega)) only [rx, hdl, wk0, wk1, wk2, wk3, wk4, wk5, X_region, X_seq, X_block, X_loop, X_cond, Y_box, Y_un, Y_store, Y_append, Y_makeMap, Y_buildSlice, ibin_shl, ibin_shr, ibin_and, List.set_cons_zero, List.set_cons_succ, List.getD_cons_zero, List.getD_cons_succ, List.map_cons, List.map_nil, ↓reduceIte, reduceCtorEq, oneCell, List.length_cons, List.length_nil, setAt, readN, bne_iff_ne, ne_eq, Nat.reduceAdd, Nat.reduceLeDiff, List.getElem?_cons_zero, List.getElem?_cons_succ, Nat.reduceMul, Option.isSome_some, layAt, Nat.reduceLT, Option.isNone_some, Option.isNone_none, beq_self_eq_true, Nat.reduceEqDiff, setParams, Int.reduceLT, Int.reduceLE, Int.reduceGT, Int.reduceGE, Int.reduceEq, Int.reduceNe, Option.map_some, Option.map_none, Option.isSome_none]
        exact mid_in ⟨rfl, rfl, rfl, rfl, rfl, O9⟩
      | true =>
        simp only [Bool.true_and] at hup
        by_cases c1 : x.p < pr
        · by_cases c2 : pr ≤ 15
          · rw [decide_eq_true c1, decide_eq_true c2] at hup
            subst hup
            simp (disch := first | assumption | omega | (simp only [wkD, oneCell, Option.isSome_some, *]; done) | (simp only [wkE, ne_eq]; omega)) only [rx, hdl, c1, c2, wk0, wk1, wk2, wk3, wk4, wk5, X_region, X_seq, X_block, X_loop, X_cond, Y_box, Y_un, Y_store, Y_append, Y_makeMap, Y_buildSlice, ibin_shl, ibin_shr, ibin_and, List.set_cons_zero, List.set_cons_succ, List.getD_cons_zero, List.getD_cons_succ, List.map_cons, List.map_nil, ↓reduceIte, reduceCtorEq, oneCell, List.length_cons, List.length_nil, setAt, readN, bne_iff_ne, ne_eq, Nat.reduceAdd, Nat.reduceLeDiff, List.getElem?_cons_zero, List.getElem?_cons_succ, Nat.reduceMul, Option.isSome_some, layAt, Nat.reduceLT, Option.isNone_some, Option.isNone_none, beq_self_eq_true, Nat.reduceEqDiff, setParams, Int.reduceLT, Int.reduceLE, Int.reduceGT, Int.reduceGE, Int.reduceEq, Int.reduceNe, Option.map_some, Option.map_none, Option.isSome_none]
            exact mid_in ⟨rfl, rfl, rfl, rfl, rfl, O9⟩
          · rw [decide_eq_false c2, Bool.and_false] at hup
            subst hup
            simp (disch := first | assumption | omega | (simp only [wkD, oneCell, Option.isSome_some, *]; done) | (simp only [wkE, ne_eq]; omega)) only [rx, hdl, c1, c2, wk0, wk1, wk2, wk3, wk4, wk5, X_region, X_seq, X_block, X_loop, X_cond, Y_box, Y_un, Y_store, Y_append, Y_makeMap, Y_buildSlice, ibin_shl, ibin_shr, ibin_and, List.set_cons_zero, List.set_cons_succ, List.getD_cons_zero, List.getD_cons_succ, List.map_cons, List.map_nil, ↓reduceIte, reduceCtorEq, oneCell, List.length_cons, List.length_nil, setAt, readN, bne_iff_ne, ne_eq, Nat.reduceAdd, Nat.reduceLeDiff, List.getElem?_cons_zero, List.getElem?_cons_succ, Nat.reduceMul, Option.isSome_some, layAt, Nat.reduceLT, Option.isNone_some, Option.isNone_none, beq_self_eq_true, Nat.reduceEqDiff, setParams, Int.reduceLT, Int.reduceLE, Int.reduceGT, Int.reduceGE, Int.reduceEq, Int.reduceNe, Option.map_some, Option.map_none, Option.isSome_none]
            exact mid_in ⟨rfl, rfl, rfl, rfl, rfl, O9⟩
        · rw [decide_eq_false c1, Bool.false_and] at hup
          subst hup
          simp (disch := first | assumption | omega | (simp only [wkD, oneCell, Option.isSome_some, *]; done) | (simp only [wkE, ne_eq]; omega)) only [rx, hdl, c1, wk0, wk1, wk2, wk3, wk4, wk5, X_region, X_seq, X_block, X_loop, X_cond, Y_box, Y_un, Y_store, Y_append, Y_makeMap, Y_buildSlice, ibin_shl, ibin_shr, ibin_and, List.set_cons_zero, List.set_cons_succ, List.getD_cons_zero, List.getD_cons_succ, List.map_cons, List.map_nil, ↓reduceIte, reduceCtorEq, oneCell, List.length_cons, List.length_nil, setAt, readN, bne_iff_ne, ne_eq, Nat.reduceAdd, Nat.reduceLeDiff, List.getElem?_cons_zero, List.getElem?_cons_succ, Nat.reduceMul, Option.isSome_some, layAt, Nat.reduceLT, Option.isNone_some, Option.isNone_none, beq_self_eq_true, Nat.reduceEqDiff, setParams, Int.reduceLT, Int.reduceLE, Int.reduceGT, Int.reduceGE, Int.reduceEq, Int.reduceNe, Option.map_some, Option.map_none, Option.isSome_none]
          exact mid_in ⟨rfl, rfl, rfl, rfl, rfl, O9⟩
    clear O9 Vn Vw gb gx rx O8 O7 O6 O5 O4 O3 g2 g5 p5 g6
    rintro tm h10 ⟨hlen_, g4, g7, g10, g14, O⟩
    simp only at g4 g7 g10 g14 O
    obtain ⟨w, hg_, rfl⟩ := explode hlen_
    simp only [hg_] at g4 g7 g10 g14
    clear hlen_ hg_
    have Vn := View.of O 0 rfl
    have Vw := View.of O 3 rfl
    have gb := O.get 4 rfl
    simp (disch := first | assumption | omega | (simp only [wkD, oneCell, Option.isSome_some, *]; done) | (simp only [wkE, ne_eq]; omega)) only [g4, g7, g10, g14, wk0, wk1, wk2, wk3, wk4, wk5, X_region, X_seq, X_block, X_loop, X_cond, Y_box, Y_un, Y_store, Y_append, Y_makeMap, Y_buildSlice, ibin_shl, ibin_shr, ibin_and, List.set_cons_zero, List.set_cons_succ, List.getD_cons_zero, List.getD_cons_succ, List.map_cons, List.map_nil, ↓reduceIte, reduceCtorEq, oneCell, List.length_cons, List.length_nil, setAt, readN, bne_iff_ne, ne_eq, Nat.reduceAdd, Nat.reduceLeDiff, List.getElem?_cons_zero, List.getElem?_cons_succ, Nat.reduceMul, Option.isSome_some, layAt, Nat.reduceLT, Option.isNone_some, Option.isNone_none, beq_self_eq_true, Nat.reduceEqDiff, setParams, Int.reduceLT, Int.reduceLE, Int.reduceGT, Int.reduceGE, Int.reduceEq, Int.reduceNe, Option.map_some, Option.map_none, Option.isSome_none]
    refine Z_is (at_h (n := 998) (by omega) (by omega) Vn gb) ?_
    rintro v11 h11 ⟨ka, hv, hka⟩
    cases hv
    simp (disch := first | assumption | omega | (simp only [wkD, oneCell, Option.isSome_some, *]; done) | (simp only [wkE, ne_eq]; omega)) only [g4, g7, g10, g14, wk0, wk1, wk2, wk3, wk4, wk5, X_region, X_seq, X_block, X_loop, X_cond, Y_box, Y_un, Y_store, Y_append, Y_makeMap, Y_buildSlice, ibin_shl, ibin_shr, ibin_and, List.set_cons_zero, List.set_cons_succ, List.getD_cons_zero, List.getD_cons_succ, List.map_cons, List.map_nil, ↓reduceIte, reduceCtorEq, oneCell, List.length_cons, List.length_nil, setAt, readN, bne_iff_ne, ne_eq, Nat.reduceAdd, Nat.reduceLeDiff, List.getElem?_cons_zero, List.getElem?_cons_succ, Nat.reduceMul, Option.isSome_some, layAt, Nat.reduceLT, Option.isNone_some, Option.isNone_none, beq_self_eq_true, Nat.reduceEqDiff, setParams, Int.reduceLT, Int.reduceLE, Int.reduceGT, Int.reduceGE, Int.reduceEq, Int.reduceNe, Option.map_some, Option.map_none, Option.isSome_none]
    refine Z_is (at_h (n := 998) (by omega) (by omega) Vw gb) ?_
    rintro v12 h12 ⟨kb, hv, hkb⟩
    cases hv
    have hle := raise_at hs hr hka hkb
    simp (disch := first | assumption | omega | (simp only [wkD, oneCell, Option.isSome_some, *]; done) | (simp only [wkE, ne_eq]; omega)) only [g4, g7, g10, g14, hle, wk0, wk1, wk2, wk3, wk4, wk5, X_region, X_seq, X_block, X_loop, X_cond, Y_box, Y_un, Y_store, Y_append, Y_makeMap, Y_buildSlice, ibin_shl, ibin_shr, ibin_and, List.set_cons_zero, List.set_cons_succ, List.getD_cons_zero, List.getD_cons_succ, List.map_cons, List.map_nil, ↓reduceIte, reduceCtorEq, oneCell, List.length_cons, List.length_nil, setAt, readN, bne_iff_ne, ne_eq, Nat.reduceAdd, Nat.reduceLeDiff, List.getElem?_cons_zero, List.getElem?_cons_succ, Nat.reduceMul, Option.isSome_some, layAt, Nat.reduceLT, Option.isNone_some, Option.isNone_none, beq_self_eq_true, Nat.reduceEqDiff, setParams, Int.reduceLT, Int.reduceLE, Int.reduceGT, Int.reduceGE, Int.reduceEq, Int.reduceNe, Option.map_some, Option.map_none, Option.isSome_none]
    refine Z_is (rest_h (n := 998) (by omega) (by omega) 0 4 rfl rfl O) ?_
    rintro v13 h13 O13
    simp only at O13
    simp (disch := first | assumption | omega | (simp only [wkD, oneCell, Option.isSome_some, *]; done) | (simp only [wkE, ne_eq]; omega)) only [g4, g7, g10, g14, wk0, wk1, wk2, wk3, wk4, wk5, X_region, X_seq, X_block, X_loop, X_cond, Y_box, Y_un, Y_store, Y_append, Y_makeMap, Y_buildSlice, ibin_shl, ibin_shr, ibin_and, List.set_cons_zero, List.set_cons_succ, List.getD_cons_zero, List.getD_cons_succ, List.map_cons, List.map_nil, ↓reduceIte, reduceCtorEq, oneCell, List.length_cons, List.length_nil, setAt, readN, bne_iff_ne, ne_eq, Nat.reduceAdd, Nat.reduceLeDiff, List.getElem?_cons_zero, List.getElem?_cons_succ, Nat.reduceMul, Option.isSome_some, layAt, Nat.reduceLT, Option.isNone_some, Option.isNone_none, beq_self_eq_true, Nat.reduceEqDiff, setParams, Int.reduceLT, Int.reduceLE, Int.reduceGT, Int.reduceGE, Int.reduceEq, Int.reduceNe, Option.map_some, Option.map_none, Option.isSome_none]
    refine Z_is (rest_h (n := 998) (by omega) (by omega) 4 5 rfl rfl O13) ?_
    rintro v14 h14 O14
    simp only at O14
    simp (disch := first | assumption | omega | (simp only [wkD, oneCell, Option.isSome_some, *]; done) | (simp only [wkE, ne_eq]; omega)) only [g4, g7, g10, g14, wk0, wk1, wk2, wk3, wk4, wk5, X_region, X_seq, X_block, X_loop, X_cond, Y_box, Y_un, Y_store, Y_append, Y_makeMap, Y_buildSlice, ibin_shl, ibin_shr, ibin_and, List.set_cons_zero, List.set_cons_succ, List.getD_cons_zero, List.getD_cons_succ, List.map_cons, List.map_nil, ↓reduceIte, reduceCtorEq, oneCell, List.length_cons, List.length_nil, setAt, readN, bne_iff_ne, ne_eq, Nat.reduceAdd, Nat.reduceLeDiff, List.getElem?_cons_zero, List.getElem?_cons_succ, Nat.reduceMul, Option.isSome_some, layAt, Nat.reduceLT, Option.isNone_some, Option.isNone_none, beq_self_eq_true, Nat.reduceEqDiff, setParams, Int.reduceLT, Int.reduceLE, Int.reduceGT, Int.reduceGE, Int.reduceEq, Int.reduceNe, Option.map_some, Option.map_none, Option.isSome_none]
    have hfl : (A'.filter fun x => decide (x.r ≠ r)).length ≤ A'.length := List.length_filter_le _ _
    refine Z_is (same_h (n := 998) (by omega) (by omega) (View.of O14 1 rfl) (View.of O14 0 rfl)) ?_
    rintro v15 h15 ⟨rfl⟩
    rw [decide_eq_true (raise_rest hs hr)]
    simp (disch := first | assumption | omega | (simp only [wkD, oneCell, Option.isSome_some, *]; done) | (simp only [wkE, ne_eq]; omega)) only [wk0, wk1, wk2, wk3, wk4, wk5, X_region, X_seq, X_block, X_loop, X_cond, Y_box, Y_un, Y_store, Y_append, Y_makeMap, Y_buildSlice, ibin_shl, ibin_shr, ibin_and, List.set_cons_zero, List.set_cons_succ, List.getD_cons_zero, List.getD_cons_succ, List.map_cons, List.map_nil, ↓reduceIte, reduceCtorEq, oneCell, List.length_cons, List.length_nil, setAt, readN, bne_iff_ne, ne_eq, Nat.reduceAdd, Nat.reduceLeDiff, List.getElem?_cons_zero, List.getElem?_cons_succ, Nat.reduceMul, Option.isSome_some, layAt, Nat.reduceLT, Option.isNone_some, Option.isNone_none, beq_self_eq_true, Nat.reduceEqDiff, setParams, Int.reduceLT, Int.reduceLE, Int.reduceGT, Int.reduceGE, Int.reduceEq, Int.reduceNe, Option.map_some, Option.map_none, Option.isSome_none]
    exact leaf1 rfl

theorem stampRaises_all (N : Nat) (ro : Nat → Option (List Value × Nat)) (vs : List Value) (ha : ArgsAre N ro 0 [.slice [.int .i64, .int .u64, .int .i64], .one (.int .i64), .one (.int .i64)] vs) : (run env 1000 5 vs (fresh ro)).True := by
  match vs, ha with
  | [v0, v1, v2], ha =>
    obtain ⟨p, len, cap, cells, bb, rfl, hbb, hg, hl, hm, hf⟩ := argIs_slice ha.1
    obtain ⟨l, hl1, rfl, hok⟩ := fits_list ic _ _ it_inv _ _ hf
    obtain ⟨r, rfl, _⟩ := ha.2.1
    obtain ⟨pr, rfl, _⟩ := ha.2.2.1
    exact run_true (stampRaises_run hbb hl1 hg).all
  | [], ha => exact ha.elim
  | [_], ha => exact ha.2.elim
  | [_, _], ha => exact ha.2.2.elim
  | _ :: _ :: _ :: _ :: _, ha => exact ha.2.2.2.elim
theorem own : ownKnob Try.prog.godebug = none := by kernel_rfl
theorem mixed : Try.prog.follows .mixedOrders = true := by kernel_rfl
theorem laid_out : laidOutB Try.prog = true := by kernel_rfl
theorem stampRaises_kinds : Try.f5.params.toList.mapM (pkOf Try.prog) = some [.slice [.int .i64, .int .u64, .int .i64], .one (.int .i64), .one (.int .i64)] := by kernel_rfl
theorem stampRaises_reads : Try.f5.params.toList.all (fun t => Try.prog.readableRec t && decide (t < Try.prog.types.size)) = true := by kernel_rfl
theorem stampRaises_size : Try.f5.params.size = 3 := by kernel_rfl
theorem stampRaises_lifted (os : Os) (started : os.Started) (H : Type) (enc : TypeId × Value → H) :
    ReturnsInHanded {} Try.checked os 5 .any (Rows.stampRaisesSpec.pre6 enc Try.prog Try.f5 [] false) (Rows.stampRaisesSpec.post enc Try.prog Try.f5 false true false false) :=
  open_lifted (C := Try.checked) (n := 1000) own started (by kernel_rfl) Try.func5 (ChangeSpec.witness6 false ⟨#[], #[.slice none 0 0, .int .i64 0, .int .i64 0], []⟩ 8 (by kernel_rfl) (by kernel_rfl) (by kernel_rfl) (by kernel_rfl)) mixed env_ok laid_out stampRaises_kinds stampRaises_reads (by rfl) Try.underlying4 rfl
    (fun ds hds => by rw [stampRaises_size] at hds; match ds, hds with | [_, _, _], _ => rfl) stampRaises_all
theorem stampRaises_holds : Rows.StampRaisesSaid :=
  OpenClaim.holds_of_wide 5 Try.f5 rfl rfl rfl rfl rfl rfl rfl ⟨rfl, rfl, rfl, rfl, rfl⟩ rfl rfl rfl rfl rfl (by kernel_rfl) Try.func5 (by kernel_rfl)
    (of_decide_eq_true (by kernel_rfl)) (by unfold Func.isWrapper; rw [if_neg (of_decide_eq_false (by kernel_rfl))]; exact ⟨rfl, rfl⟩)
    (fun os started H enc _ => by rw [OpenClaim.pre_of_none rfl]; exact stampRaises_lifted os started H enc)

end Go.Proofs.Ytlhocgeppgdopaa
