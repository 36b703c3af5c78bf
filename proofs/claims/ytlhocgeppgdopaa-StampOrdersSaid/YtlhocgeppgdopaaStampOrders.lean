/-
  The law StampOrders holds: the call answers true whatever waiters and robot it is handed, whatever the machine chooses, and nothing that was there before it is changed; no condition.
-/
import Derived.Test.YtlhocgeppgdopaaFk
import Derived.Test.YtlhocgeppgdopaaHt
import Derived.Test.YtlhocgeppgdopaaRows
namespace Go.Proofs.Ytlhocgeppgdopaa
open Go Go.Ideal Go.ChangeShapes Go.RowKit
set_option maxHeartbeats 0
set_option linter.unusedSimpArgs false
set_option linter.unusedVariables false
set_option maxRecDepth 100000
/-- The chapter's examples, in a memory in which nothing was laid yet. -/
def aliveX (ro : Nat → Option (List Value × Nat)) : T (Value × Heap) := callV env 999 (.func (.func 14) #[] #[]) [] (fresh ro)
def aliveH (ro : Nat → Option (List Value × Nat)) : Heap := match aliveX ro with
  | .ret p => p.2
  | _ => fresh ro
theorem alive_eq (ro) : aliveX ro = .ret (.bool true, aliveH ro) := by kernel_rfl
theorem alive_floor (ro) : (aliveH ro).floor = 0 := by kernel_rfl
theorem alive_hid (ro) : (aliveH ro).hid = [] := by kernel_rfl
theorem alive_ro (ro) : (aliveH ro).ro = ro := by kernel_rfl
attribute [local irreducible] callV T.All T.Is run
theorem env6 : env 6 = some ir6 := rfl
theorem it_inv (vs : List Value) (h : Fits [.int .i64, .int .u64, .int .i64] vs) : ∃ s : It, vs = ic s ∧ True := by
  match vs, h with
  | [x, y, z], h =>
    obtain ⟨⟨a, rfl, _⟩, ⟨b, rfl, _⟩, ⟨c, rfl, _⟩, _⟩ := h
    exact ⟨⟨a, b, c⟩, rfl, trivial⟩
  | [], h => exact h.elim
  | [_], h => exact h.2.elim
  | [_, _], h => exact h.2.2.elim
  | _ :: _ :: _ :: _ :: _, h => exact h.2.2.2.elim

theorem place_uniq {A : List It} {r j k : Int} (h1 : IsPlace A r j) (h2 : IsPlace A r k) : j = k := by
  rcases h1 with ⟨rfl, n1⟩ | ⟨i, rfl, i1, i2, i3⟩ <;> rcases h2 with ⟨rfl, n2⟩ | ⟨i', rfl, j1, j2, j3⟩
  · rfl
  · exact absurd j2 (n1 i' j1)
  · exact absurd i2 (n2 i i1)
  · have : i = i' := by
      rcases Nat.lt_trichotomy i i' with h | h | h
      · exact absurd i2 (j3 i h)
      · exact h
      · exact absurd j2 (i3 i' h)
    rw [this]

theorem mem_nth {A : List It} {x : It} : x ∈ A ↔ ∃ i, i < A.length ∧ nth A i = x := by
  constructor
  · intro h
    obtain ⟨i, hi, rfl⟩ := List.mem_iff_getElem.1 h
    refine ⟨i, hi, ?_⟩
    have := nth_get hi
    rw [List.getElem?_eq_getElem hi] at this
    exact (Option.some.inj this).symm
  · rintro ⟨i, hi, rfl⟩
    exact List.mem_of_getElem? (nth_get hi)

theorem sorted_tail {x : It} {a : List It} (hs : Sorted (x :: a) 0 (x :: a).length) : Sorted a 0 a.length := fun i j h1 h2 h3 => hs (i + 1) (j + 1) (by omega) (by omega) (by simpa using h3)
theorem sorted_head {x : It} {a : List It} (hs : Sorted (x :: a) 0 (x :: a).length) {y : It} (hy : y ∈ a) : le x y := by
  obtain ⟨i, hi, rfl⟩ := mem_nth.1 hy
  exact hs 0 (i + 1) (by omega) (by omega) (by simpa using hi)
theorem sorted_cons {x : It} {a : List It} (h1 : Sorted a 0 a.length) (h2 : ∀ y ∈ a, le x y) : Sorted (x :: a) 0 (x :: a).length := by
  intro i j h0 hij hj
  rcases j with _ | j
  · omega
  · rcases i with _ | i
    · exact h2 _ (mem_nth.2 ⟨j, by simpa using hj, rfl⟩)
    · exact h1 i j (by omega) (by omega) (by simpa using hj)
theorem sorted_filter {p : It → Bool} : ∀ {a : List It}, Sorted a 0 a.length → Sorted (a.filter p) 0 (a.filter p).length
  | [], _ => fun i j h1 h2 h3 => by simp at h3
  | x :: a, hs => by
    have ih := sorted_filter (p := p) (sorted_tail hs)
    rw [List.filter_cons]
    split
    · exact sorted_cons ih fun y hy => sorted_head hs (List.mem_filter.1 hy).1
    · exact ih

theorem raise_rest {A A' : List It} {r p : Int} {a : Bool} (hs : Sorted A 0 A.length) (hr : RaiseIs A r p a A') : (A'.filter fun x => decide (x.r ≠ r)) = A.filter fun x => decide (x.r ≠ r) := by
  rcases hr with ⟨_, _, rfl⟩ | ⟨_, l2, ⟨i, hpl, hi, h15, hlt, rfl⟩, q1, q2, q3⟩
  · rfl
  · refine sorted_uniq (sorted_filter q3) (sorted_filter hs) fun y => ?_
    have hir : (nth A i).r = r := by
      rcases hpl with ⟨h, _⟩ | ⟨i', h, _, h2, _⟩
      · omega
      · have : i = i' := by omega
        rw [this]; exact h2
    by_cases hy : y.r = r
    · have e1 : ∀ B : List It, (B.filter fun x => decide (x.r ≠ r)).count y = 0 := fun B => List.count_eq_zero.2 fun hm => by
        have := (List.mem_filter.1 hm).2
        simp [hy] at this
      rw [e1, e1]
    · have e1 : ∀ B : List It, (B.filter fun x => decide (x.r ≠ r)).count y = B.count y := fun B => List.count_filter (by simpa using hy)
      rw [e1, e1, q2]
      have := cnt_set (l := A) (i := i) (x := { nth A i with p := p }) y hi
      have n1 : ¬ nth A i = y := by rintro rfl; exact hy hir
      have n2 : ¬ ({ nth A i with p := p } : It) = y := by rintro rfl; exact hy hir
      unfold one at this
      rw [if_neg n1, if_neg n2] at this
      omega

theorem raise_len {A A' : List It} {r p : Int} {a : Bool} (hr : RaiseIs A r p a A') : A'.length = A.length := by
  rcases hr with ⟨_, _, rfl⟩ | ⟨_, l2, ⟨i, hpl, hi, h15, hlt, rfl⟩, q1, q2, q3⟩
  · rfl
  · rw [q1, List.length_set]

theorem filter_nth {A : List It} {r : Int} {i : Nat} (h : ∀ j, j < i → (nth A j).r ≠ r) (hi : i ≤ A.length) : A.filter (fun x => decide (x.r ≠ r)) = A.take i ++ (A.drop i).filter fun x => decide (x.r ≠ r) := by
  conv => lhs; rw [← List.take_append_drop i A]
  rw [List.filter_append]
  congr 1
  rw [List.filter_eq_self]
  intro x hx
  obtain ⟨j, hj, rfl⟩ := mem_nth.1 hx
  rw [List.length_take] at hj
  have : nth (A.take i) j = nth A j := by
    unfold nth
    rw [List.getD_eq_getElem?_getD, List.getD_eq_getElem?_getD, List.getElem?_take, if_pos (by omega)]
  rw [this]
  simpa using h j (by omega)

theorem raise_at {A A' : List It} {r p ka kb : Int} {a : Bool} (hs : Sorted A 0 A.length) (hr : RaiseIs A r p a A') (hka : IsPlace A' r ka) (hkb : IsPlace A r kb) : ka ≤ kb := by
  have hrest := raise_rest hs hr
  have hlen := raise_len hr
  rcases hr with ⟨_, _, rfl⟩ | ⟨_, l2, ⟨i, hpl, hi, h15, hlt, rfl⟩, q1, q2, q3⟩
  · rw [place_uniq hka hkb]; omega
  · have e := place_uniq hkb hpl
    subst e
    have hir : (nth A i).r = r ∧ ∀ j, j < i → (nth A j).r ≠ r := by
      rcases hpl with ⟨h, _⟩ | ⟨i', h, _, h2, h3⟩
      · omega
      · have : i = i' := by omega
        rw [this]; exact ⟨h2, h3⟩
    -- the one that was raised is there
    have hw : ({ nth A i with p := p } : It) ∈ A' := by
      refine List.count_pos_iff.1 ?_
      rw [q2]
      refine List.count_pos_iff.2 (mem_nth.2 ⟨i, by simpa using hi, ?_⟩)
      rw [nth_set hi, if_pos rfl]
    obtain ⟨t, ht, htw⟩ := mem_nth.1 hw
    rcases hka with ⟨rfl, no⟩ | ⟨k, rfl, k1, k2, k3⟩
    · omega
    · refine Decidable.byContradiction fun hgt => ?_
      have hik : i < k := by omega
      have hkt : k ≤ t := Nat.le_of_not_lt fun h => k3 t h (by rw [htw]; exact hir.1)
      -- the i-th of the rest
      have f1 := filter_nth (A := A') (r := r) (i := i + 1) (fun j hj => k3 j (by omega)) (by omega)
      have f2 := filter_nth (A := A) (r := r) (i := i) hir.2 (by omega)
      have g1 : nth (A'.filter fun x => decide (x.r ≠ r)) i = nth A' i := by
        rw [f1]
        unfold nth
        rw [List.getD_eq_getElem?_getD, List.getD_eq_getElem?_getD, List.getElem?_append_left (by rw [List.length_take]; omega), List.getElem?_take, if_pos (by omega)]
      have hl1 : i < (A'.filter fun x => decide (x.r ≠ r)).length := by
        rw [f1, List.length_append, List.length_take]
        omega
      have hm : nth A' i ∈ A.drop (i + 1) := by
        have h2 : nth A' i ∈ (A.drop i).filter fun x => decide (x.r ≠ r) := by
          rw [← g1]
          refine mem_nth.2 ⟨0, ?_, ?_⟩
          · rw [hrest, f2, List.length_append, List.length_take] at hl1
            omega
          · rw [hrest, f2]
            unfold nth
            rw [List.getD_eq_getElem?_getD, List.getD_eq_getElem?_getD, List.getElem?_append_right (by rw [List.length_take]; omega), List.length_take]
            congr 2
            omega
        obtain ⟨h3, h4⟩ := List.mem_filter.1 h2
        have : A.drop i = nth A i :: A.drop (i + 1) := by
          rw [List.drop_eq_getElem_cons hi]
          congr 1
          have := nth_get hi
          rw [List.getElem?_eq_getElem hi] at this
          exact Option.some.inj this
        rw [this] at h3
        rcases List.mem_cons.1 h3 with h5 | h5
        · rw [h5] at h4
          simp [hir.1] at h4
        · exact h5
      obtain ⟨j, hj, hje⟩ := mem_nth.1 hm
      rw [List.length_drop] at hj
      have hje2 : nth A (i + 1 + j) = nth A' i := by
        rw [← hje]
        unfold nth
        rw [List.getD_eq_getElem?_getD, List.getD_eq_getElem?_getD, List.getElem?_drop]
      have l1 : le (nth A i) (nth A' i) := by rw [← hje2]; exact hs i (i + 1 + j) (by omega) (by omega) (by omega)
      have l2 : le (nth A' i) (nth A' t) := q3 i t (by omega) (by omega) ht
      have l3 := le_trans l1 l2
      rw [htw] at l3
      unfold le at l3
      simp only at l3
      omega

theorem put_sorted {A A' : List It} {x : It} {a : Bool} {e : Int} (hs : Sorted A 0 A.length) (hl : A.length ≤ 8) (hp : PutIs A x a e A') : Sorted A' 0 A'.length ∧ A'.length ≤ 8 ∧ A'.length ≤ A.length + 1 := by
  rcases hp with ⟨_, _, _, rfl⟩ | ⟨_, _, _, _, _, rfl⟩ | ⟨_, _, _, l2, p, q1, q2, q3⟩
  · exact ⟨hs, hl, by omega⟩
  · exact ⟨hs, hl, by omega⟩
  · refine ⟨q3, ?_⟩
    rcases p with ⟨_, h, rfl⟩ | ⟨i, _, h, ⟨_, rfl⟩ | ⟨_, rfl⟩⟩
    · simp at q1; omega
    · simp at q1; omega
    · omega

theorem nth_el {l : List It} {i : Nat} (h : i < l.length) : nth l i = l[i] := by
  have := nth_get h
  rw [List.getElem?_eq_getElem h] at this
  exact (Option.some.inj this).symm

/-- Robots that are all different. -/
def Dist (l : List It) : Prop := ∀ i j, i < j → j < l.length → (nth l i).r ≠ (nth l j).r

theorem dist_nodup {l : List It} (h : Dist l) : l.Nodup := by
  rw [List.nodup_iff_pairwise_ne, List.pairwise_iff_getElem]
  intro i j hi hj hij e
  refine h i j hij hj ?_
  rw [nth_el hi, nth_el hj, e]
theorem dist_mem {l : List It} (h : Dist l) {x y : It} (hx : x ∈ l) (hy : y ∈ l) (e : x.r = y.r) : x = y := by
  obtain ⟨i, hi, rfl⟩ := mem_nth.1 hx
  obtain ⟨j, hj, rfl⟩ := mem_nth.1 hy
  rcases Nat.lt_trichotomy i j with hh | hh | hh
  · exact absurd e (h i j hh hj)
  · rw [hh]
  · exact absurd e.symm (h j i hh hi)
theorem sub_dist {l A : List It} (h : Dist l) (hn : A.Nodup) (hs : ∀ x ∈ A, x ∈ l) : Dist A := by
  intro i j hij hj e
  have := dist_mem h (hs _ (mem_nth.2 ⟨i, by omega, rfl⟩)) (hs _ (mem_nth.2 ⟨j, hj, rfl⟩)) e
  rw [List.nodup_iff_pairwise_ne, List.pairwise_iff_getElem] at hn
  refine hn i j (by omega) hj hij ?_
  rw [← nth_el, ← nth_el, this]

theorem place_none {A : List It} {r : Int} (h : ∀ x ∈ A, x.r ≠ r) : IsPlace A r (-1) := Or.inl ⟨rfl, fun j hj => h _ (mem_nth.2 ⟨j, hj, rfl⟩)⟩

theorem put_new {A A' : List It} {x : It} {a : Bool} {e : Int} (hs : Sorted A 0 A.length) (h8 : A.length < 8) (hn : ∀ y ∈ A, y.r ≠ x.r) (hp : PutIs A x a e A') : Sorted A' 0 A'.length ∧ ∀ y, A'.count y = A.count y + (if BadW x then 0 else one (x = y)) := by
  have h0 := place_none hn
  rcases hp with ⟨b, _, _, rfl⟩ | ⟨b, _, h, _⟩ | ⟨b, _, _, l2, p, q1, q2, q3⟩
  · exact ⟨hs, fun y => by rw [if_pos b]; rfl⟩
  · omega
  · refine ⟨q3, fun y => ?_⟩
    rw [if_neg b, q2]
    rcases p with ⟨_, _, rfl⟩ | ⟨i, hp, _⟩
    · rw [cnt_append, cnt_single]
    · have := place_uniq h0 hp
      omega

def good (x : It) : Bool := decide (¬ BadW x)
theorem cnt_good (l : List It) (x : It) (y : It) : ((l ++ [x]).filter good).count y = (l.filter good).count y + (if BadW x then 0 else one (x = y)) := by
  rw [List.filter_append, cnt_append]
  congr 1
  by_cases b : BadW x
  · simp [good, b]
  · rw [if_neg b, ← cnt_single]
    simp [good, b]

theorem cut_filter {A C : List It} {r : Int} {a : Bool} (hd : Dist A) (hc : CutIs A r a C) : C = A.filter (fun x => decide (x.r ≠ r)) ∧ a = decide (C.length < A.length) := by
  rcases hc with ⟨rfl, h, rfl⟩ | ⟨rfl, i, h, hi, rfl⟩
  · rcases h with ⟨_, no⟩ | ⟨i, h, _⟩
    · refine ⟨?_, by simp⟩
      have := filter_nth (A := C) (r := r) (i := C.length) no (Nat.le_refl _)
      simp at this
      rw [List.filter_eq_self.2]
      intro x hx
      obtain ⟨j, hj, rfl⟩ := mem_nth.1 hx
      simpa using no j hj
    · omega
  · rcases h with ⟨h, _⟩ | ⟨i', h, h1, h2, h3⟩
    · omega
    · have e : i = i' := by omega
      subst e
      have hle : (A.eraseIdx i).length = A.length - 1 := by rw [List.length_eraseIdx, if_pos hi]
      refine ⟨?_, by rw [decide_eq_true (by omega)]⟩
      rw [filter_nth h3 (by omega), List.eraseIdx_eq_take_drop_succ, List.drop_eq_getElem_cons hi, ← nth_el hi, List.filter_cons, if_neg (by simp [h2])]
      congr 1
      symm
      rw [List.filter_eq_self]
      intro x hx
      obtain ⟨j, hj, rfl⟩ := mem_nth.1 hx
      rw [List.length_drop] at hj
      have : nth (A.drop (i + 1)) j = nth A (i + 1 + j) := by
        unfold nth
        rw [List.getD_eq_getElem?_getD, List.getD_eq_getElem?_getD, List.getElem?_drop]
      rw [this, ← h2]
      simpa using (hd i (i + 1 + j) (by omega) (by omega)).symm

theorem filter_step {A : List It} {p : It → Bool} {i : Nat} (hi : i < A.length) (hp : p (nth A i) = true) : ((A.take i).filter p).length < (A.filter p).length ∧ nth (A.filter p) ((A.take i).filter p).length = nth A i := by
  have h1 : A.filter p = (A.take i).filter p ++ (nth A i :: (A.drop (i + 1)).filter p) := by
    conv => lhs; rw [← List.take_append_drop i A]
    rw [List.filter_append, List.drop_eq_getElem_cons hi, ← nth_el hi, List.filter_cons, if_pos hp]
  constructor
  · rw [h1]; simp
  · rw [h1]
    unfold nth
    rw [List.getD_eq_getElem?_getD, List.getElem?_append_right (Nat.le_refl _), Nat.sub_self]
    rfl

def zv (n : Int) : Value := .int .i64 n

theorem stampOrders_run {ro : Nat → Option (List Value × Nat)} {p : Option Addr} {bb len cap : Nat} {l : List It} {r : Int} (hbb : bb % 2 = 1) (hl : l.length = len)
    (hg : 0 < len → p = some ⟨bb, 0, none⟩ ∧ (fresh ro).get bb = some (.cells (l.flatMap ic) 1 true)) :
    (callV env 1000 (.func (.func 6) #[] #[]) [.slice p len cap, .int .i64 r] (fresh ro)).Is fun p => p.1 = .bool true := by
  refine call_is (n := 999) env6 ?_
  simp (disch := first | assumption | omega | (simp only [wkD, oneCell, Option.isSome_some, *]; done) | (simp only [wkE, ne_eq]; omega)) only [ir6, List.append_nil, List.nil_append, List.cons_append, List.length_cons, List.length_nil, Nat.reduceAdd, Nat.reduceSub, List.replicate_succ, List.replicate_zero, wk0, wk1, wk2, wk3, wk4, wk5, X_region, X_seq, X_block, X_loop, X_cond, Y_box, Y_un, Y_store, Y_append, Y_makeMap, Y_buildSlice, ibin_shl, ibin_shr, ibin_and, List.set_cons_zero, List.set_cons_succ, List.getD_cons_zero, List.getD_cons_succ, List.map_cons, List.map_nil, ↓reduceIte, reduceCtorEq, oneCell, List.length_cons, List.length_nil, setAt, readN, bne_iff_ne, ne_eq, Nat.reduceAdd, Nat.reduceLeDiff, List.getElem?_cons_zero, List.getElem?_cons_succ, Nat.reduceMul, Option.isSome_some, layAt, Nat.reduceLT, Option.isNone_some, Option.isNone_none, beq_self_eq_true, Nat.reduceEqDiff, setParams, Int.reduceLT, Int.reduceLE, Int.reduceGT, Int.reduceGE, Int.reduceEq, Int.reduceNe, Option.map_some, Option.map_none, Option.isSome_none]
  have hA : (callV env 999 (.func (.func 14) #[] #[]) [] (fresh ro)) = .ret (.bool true, aliveH ro) := alive_eq ro
  rw [hA]
  have O : Has ro (aliveH ro) [] := Has.zero ⟨by rw [alive_floor]; omega, fun p hp => by rw [alive_hid] at hp; cases hp⟩ (alive_ro ro)
  clear hA
  generalize aliveH ro = h at O
  by_cases hlen : 8 < len
  · have c : (8 : Int) < (len : Int) := by omega
    simp (disch := first | assumption | omega | (simp only [wkD, oneCell, Option.isSome_some, *]; done) | (simp only [wkE, ne_eq]; omega)) only [c, wk0, wk1, wk2, wk3, wk4, wk5, X_region, X_seq, X_block, X_loop, X_cond, Y_box, Y_un, Y_store, Y_append, Y_makeMap, Y_buildSlice, ibin_shl, ibin_shr, ibin_and, List.set_cons_zero, List.set_cons_succ, List.getD_cons_zero, List.getD_cons_succ, List.map_cons, List.map_nil, ↓reduceIte, reduceCtorEq, oneCell, List.length_cons, List.length_nil, setAt, readN, bne_iff_ne, ne_eq, Nat.reduceAdd, Nat.reduceLeDiff, List.getElem?_cons_zero, List.getElem?_cons_succ, Nat.reduceMul, Option.isSome_some, layAt, Nat.reduceLT, Option.isNone_some, Option.isNone_none, beq_self_eq_true, Nat.reduceEqDiff, setParams, Int.reduceLT, Int.reduceLE, Int.reduceGT, Int.reduceGE, Int.reduceEq, Int.reduceNe, Option.map_some, Option.map_none, Option.isSome_none]
    exact leaf1 rfl
  have c : ¬ (8 : Int) < (len : Int) := by omega
  simp (disch := first | assumption | omega | (simp only [wkD, oneCell, Option.isSome_some, *]; done) | (simp only [wkE, ne_eq]; omega)) only [c, wk0, wk1, wk2, wk3, wk4, wk5, X_region, X_seq, X_block, X_loop, X_cond, Y_un, Y_store, Y_append, Y_makeMap, Y_buildSlice, ibin_shl, ibin_shr, ibin_and, List.set_cons_zero, List.set_cons_succ, List.getD_cons_zero, List.getD_cons_succ, List.map_cons, List.map_nil, ↓reduceIte, reduceCtorEq, oneCell, List.length_cons, List.length_nil, setAt, readN, bne_iff_ne, ne_eq, Nat.reduceAdd, Nat.reduceLeDiff, List.getElem?_cons_zero, List.getElem?_cons_succ, Nat.reduceMul, Option.isSome_some, layAt, Nat.reduceLT, Option.isNone_some, Option.isNone_none, beq_self_eq_true, Nat.reduceEqDiff, setParams, Int.reduceLT, Int.reduceLE, Int.reduceGT, Int.reduceGE, Int.reduceEq, Int.reduceNe, Option.map_some, Option.map_none, Option.isSome_none]
  refine Y_boxO O ?_
  intro pb h1 O1 e1
  simp (disch := first | assumption | omega | (simp only [wkD, oneCell, Option.isSome_some, *]; done) | (simp only [wkE, ne_eq]; omega)) only [wk0, wk1, wk2, wk3, wk4, wk5, X_region, X_seq, X_block, X_loop, X_cond, Y_un, Y_store, Y_append, Y_makeMap, Y_buildSlice, ibin_shl, ibin_shr, ibin_and, List.set_cons_zero, List.set_cons_succ, List.getD_cons_zero, List.getD_cons_succ, List.map_cons, List.map_nil, ↓reduceIte, reduceCtorEq, oneCell, List.length_cons, List.length_nil, setAt, readN, bne_iff_ne, ne_eq, Nat.reduceAdd, Nat.reduceLeDiff, List.getElem?_cons_zero, List.getElem?_cons_succ, Nat.reduceMul, Option.isSome_some, layAt, Nat.reduceLT, Option.isNone_some, Option.isNone_none, beq_self_eq_true, Nat.reduceEqDiff, setParams, Int.reduceLT, Int.reduceLE, Int.reduceGT, Int.reduceGE, Int.reduceEq, Int.reduceNe, Option.map_some, Option.map_none, Option.isSome_none]
  refine Y_boxO O1 ?_
  intro qb h2 O2 e2
  have O3 : Has ro h2 [Qr qb [], Ob pb (.cells [.slice none 0 0] 1 false)] := Has.ex.2 ⟨_, Has.star.2 (O2.slrNil (g := ic) (z := 3)).swap2⟩
  have O4 : Has ro h2 [Qr pb [], Qr qb []] := Has.ex.2 ⟨_, Has.star.2 (O3.swap2.slrNil (g := ic) (z := 3)).swap2⟩
  simp (disch := first | assumption | omega | (simp only [wkD, oneCell, Option.isSome_some, *]; done) | (simp only [wkE, ne_eq]; omega)) only [wk0, wk1, wk2, wk3, wk4, wk5, X_region, X_seq, X_block, X_loop, X_cond, Y_box, Y_un, Y_store, Y_append, Y_buildSlice, ibin_shl, ibin_shr, ibin_and, List.set_cons_zero, List.set_cons_succ, List.getD_cons_zero, List.getD_cons_succ, List.map_cons, List.map_nil, ↓reduceIte, reduceCtorEq, oneCell, List.length_cons, List.length_nil, setAt, readN, bne_iff_ne, ne_eq, Nat.reduceAdd, Nat.reduceLeDiff, List.getElem?_cons_zero, List.getElem?_cons_succ, Nat.reduceMul, Option.isSome_some, layAt, Nat.reduceLT, Option.isNone_some, Option.isNone_none, beq_self_eq_true, Nat.reduceEqDiff, setParams, Int.reduceLT, Int.reduceLE, Int.reduceGT, Int.reduceGE, Int.reduceEq, Int.reduceNe, Option.map_some, Option.map_none, Option.isSome_none]
  refine Y_makeMapO O4 ?_
  intro mb h3 O5 e3
  have O6 : Has ro h3 [Mp (intKey .i64) zv mb ([] : List (Int × Int)), Qr pb [], Qr qb []] := O5.mpNew
  simp (disch := first | assumption | omega | (simp only [wkD, oneCell, Option.isSome_some, *]; done) | (simp only [wkE, ne_eq]; omega)) only [wk0, wk1, wk2, wk3, wk4, wk5, X_region, X_seq, X_block, X_loop, X_cond, Y_box, Y_un, Y_store, Y_append, Y_makeMap, Y_buildSlice, ibin_shl, ibin_shr, ibin_and, List.set_cons_zero, List.set_cons_succ, List.getD_cons_zero, List.getD_cons_succ, List.map_cons, List.map_nil, ↓reduceIte, reduceCtorEq, oneCell, List.length_cons, List.length_nil, setAt, readN, bne_iff_ne, ne_eq, Nat.reduceAdd, Nat.reduceLeDiff, List.getElem?_cons_zero, List.getElem?_cons_succ, Nat.reduceMul, Option.isSome_some, layAt, Nat.reduceLT, Option.isNone_some, Option.isNone_none, beq_self_eq_true, Nat.reduceEqDiff, setParams, Int.reduceLT, Int.reduceLE, Int.reduceGT, Int.reduceGE, Int.reduceEq, Int.reduceNe, Option.map_some, Option.map_none, Option.isSome_none]
  clear O1 O2 O3 O4 O5 O e1 e2 e3
  have rd : ∀ {h : Heap} {L : List Rs} (i : Nat), Has ro h L → i < len → ∃ a, p = some ⟨a, 0, none⟩ ∧ readC (h.get a) (i * 3) 3 = some (ic (nth l i)) ∧ readC (h.get a) (i * 3) 1 = some [.int .i64 (nth l i).r] := by
    intro h L i O hi
    obtain ⟨rfl, hgb⟩ := hg (by omega)
    have hgb2 := O.odd hbb hgb
    refine ⟨bb, rfl, rd_all (rest := []) ic_len (nth_get (by omega)) (by rw [List.append_nil]; exact hgb2), ?_⟩
    have := rd_at (rest := []) (k := 0) (m := 1) ic_len (nth_get (l := l) (k := i) (by omega)) (by rw [List.append_nil]; exact hgb2) (by omega)
    rw [Nat.add_zero] at this
    rw [this]; rfl
  -- are robots different?
  refine L_cut1 (fun s => s.tmps.length = 157 ∧ s.tmps.getD 0 undefV = .slice p len cap ∧ s.tmps.getD 1 undefV = .int .i64 r ∧ s.tmps.getD 5 undefV = .bool true ∧ s.tmps.getD 6 undefV = .pointer (some ⟨pb, 0, none⟩) ∧ s.tmps.getD 7 undefV = .pointer (some ⟨qb, 0, none⟩) ∧ Has ro s.h [Qr pb [], Qr qb []] ∧ Dist l) ?_ ?_
  · refine L_is (fun k s => ∃ (i : Nat) (m : List (Int × Int)), s.defers = [] ∧ s.tmps.length = 157 ∧ s.tmps.getD 0 undefV = .slice p len cap ∧ s.tmps.getD 1 undefV = .int .i64 r ∧ s.tmps.getD 5 undefV = .bool true ∧ s.tmps.getD 6 undefV = .pointer (some ⟨pb, 0, none⟩) ∧ s.tmps.getD 7 undefV = .pointer (some ⟨qb, 0, none⟩) ∧ s.tmps.getD 8 undefV = .map (some mb) ∧ s.tmps.getD 33 undefV = .int .i64 (len : Int) ∧ s.tmps.getD 34 undefV = .int .i64 (i : Int) ∧ k = len - i ∧ i ≤ len ∧ Has ro s.h [Mp (intKey .i64) zv mb m, Qr pb [], Qr qb []] ∧ (∀ j1 j2, j1 < j2 → j2 < i → (nth l j1).r ≠ (nth l j2).r) ∧ (∀ k, (lk m k).getD 0 = 0 ∧ (∀ j, j < i → (nth l j).r ≠ k) ∨ (lk m k).getD 0 = 1 ∧ ∃ j, j < i ∧ (nth l j).r = k)) len ?_ (by omega) ?_
    · exact ⟨0, [], rfl, rfl, rfl, rfl, rfl, rfl, rfl, rfl, rfl, rfl, rfl, by omega, O6, fun _ _ _ h => by omega, fun k => Or.inl ⟨rfl, fun j hj => by omega⟩⟩
    clear O6
    rintro k tm df h4 ⟨i, m, hd, hlen_, g0, g1, g5, g6, g7, g8, g33, g34, hk, hi, O, hdist, hm⟩
    simp only at hd O g0 g1 g5 g6 g7 g8 g33 g34
    subst hd
    obtain ⟨w, hg_, rfl⟩ := explode hlen_
    simp only [hg_] at g0 g1 g5 g6 g7 g8 g33 g34
    clear hlen_ hg_
    by_cases hlt : i < len
    · have hlt' : (i : Int) < (len : Int) := by omega
      have c0 : (0 : Int) ≤ (i : Int) := by omega
      obtain ⟨ab, rfl, _, r1⟩ := rd i O hlt
      have y1 : IntKind.i64.wrap ((i : Int) + 1) = ((i + 1 : Nat) : Int) := by rw [wrap_i64 (by omega) (by omega)]; omega
      have lk1 : vLookup h4 none (.int .i64 0) false (.map (some mb)) (.int .i64 (nth l i).r) = some (.int .i64 ((lk m (nth l i).r).getD 0)) := by
        rw [show vLookup h4 none (.int .i64 0) false (.map (some mb)) (.int .i64 (nth l i).r) = _ from O.mpLook 0 rfl (nth l i).r (.int .i64 0) false]
        cases lk m (nth l i).r <;> rfl
      have hx := hm (nth l i).r
      obtain ⟨x, hxe⟩ : ∃ x, x = (lk m (nth l i).r).getD 0 := ⟨_, rfl⟩
      rw [← hxe] at lk1 hx
      have y2 : IntKind.i64.wrap (x + 1) = x + 1 := wrap_i64 (by omega) (by omega)
      obtain ⟨h5, u1, O5⟩ := O.mpUpd 0 rfl (nth l i).r (x + 1)
      replace u1 : vMapUpdate h4 none (.map (some mb)) (.int .i64 (nth l i).r) (.int .i64 (x + 1)) = some h5 := u1
      simp only [List.set_cons_zero] at O5
      obtain ⟨ab2, he, _, r2⟩ := rd i O5 hlt
      cases he
      have lk2 : vLookup h5 none (.int .i64 0) false (.map (some mb)) (.int .i64 (nth l i).r) = some (.int .i64 (x + 1)) := by
        rw [show vLookup h5 none (.int .i64 0) false (.map (some mb)) (.int .i64 (nth l i).r) = _ from O5.mpLook 0 rfl (nth l i).r (.int .i64 0) false, lk_upd, if_pos rfl]
        rfl
      rcases hx with ⟨h0, hno⟩ | ⟨h1, _⟩
      · have c1 : ¬ (1 : Int) < x + 1 := by omega
        simp (disch := first | assumption | omega | (simp only [wkD, oneCell, Option.isSome_some, *]; done) | (simp only [wkE, ne_eq]; omega)) only [g0, g1, g5, g6, g7, g8, g33, g34, hlt', c0, r1, lk1, y2, u1, r2, lk2, c1, y1, Int.toNat_natCast, wk0, wk1, wk2, wk3, wk4, wk5, X_region, X_seq, X_block, X_loop, X_cond, Y_box, Y_un, Y_store, Y_append, Y_makeMap, Y_buildSlice, ibin_shl, ibin_shr, ibin_and, List.set_cons_zero, List.set_cons_succ, List.getD_cons_zero, List.getD_cons_succ, List.map_cons, List.map_nil, ↓reduceIte, reduceCtorEq, oneCell, List.length_cons, List.length_nil, setAt, readN, bne_iff_ne, ne_eq, Nat.reduceAdd, Nat.reduceLeDiff, List.getElem?_cons_zero, List.getElem?_cons_succ, Nat.reduceMul, Option.isSome_some, layAt, Nat.reduceLT, Option.isNone_some, Option.isNone_none, beq_self_eq_true, Nat.reduceEqDiff, setParams, Int.reduceLT, Int.reduceLE, Int.reduceGT, Int.reduceGE, Int.reduceEq, Int.reduceNe, Option.map_some, Option.map_none, Option.isSome_none]
        refine Is_in ⟨len - (i + 1), by omega, i + 1, _, rfl, rfl, rfl, rfl, rfl, rfl, rfl, rfl, rfl, rfl, rfl, by omega, O5, fun j1 j2 q1 q2 => ?_, fun k => ?_⟩
        · by_cases e : j2 = i
          · subst e; exact hno j1 q1
          · exact hdist j1 j2 q1 (by omega)
        · rw [lk_upd]
          by_cases e : k = (nth l i).r
          · rw [if_pos e]
            exact Or.inr ⟨by show x + 1 = 1; omega, i, by omega, e.symm⟩
          · rw [if_neg e]
            rcases hm k with ⟨q1, q2⟩ | ⟨q1, j, q2, q3⟩
            · refine Or.inl ⟨q1, fun j hj => ?_⟩
              by_cases e2 : j = i
              · rw [e2]; exact fun h => e h.symm
              · exact q2 j (by omega)
            · exact Or.inr ⟨q1, j, by omega, q3⟩
      · have c1 : (1 : Int) < x + 1 := by omega
        simp (disch := first | assumption | omega | (simp only [wkD, oneCell, Option.isSome_some, *]; done) | (simp only [wkE, ne_eq]; omega)) only [g0, g1, g5, g6, g7, g8, g33, g34, hlt', c0, r1, lk1, y2, u1, r2, lk2, c1, y1, Int.toNat_natCast, wk0, wk1, wk2, wk3, wk4, wk5, X_region, X_seq, X_block, X_loop, X_cond, Y_box, Y_un, Y_store, Y_append, Y_makeMap, Y_buildSlice, ibin_shl, ibin_shr, ibin_and, List.set_cons_zero, List.set_cons_succ, List.getD_cons_zero, List.getD_cons_succ, List.map_cons, List.map_nil, ↓reduceIte, reduceCtorEq, oneCell, List.length_cons, List.length_nil, setAt, readN, bne_iff_ne, ne_eq, Nat.reduceAdd, Nat.reduceLeDiff, List.getElem?_cons_zero, List.getElem?_cons_succ, Nat.reduceMul, Option.isSome_some, layAt, Nat.reduceLT, Option.isNone_some, Option.isNone_none, beq_self_eq_true, Nat.reduceEqDiff, setParams, Int.reduceLT, Int.reduceLE, Int.reduceGT, Int.reduceGE, Int.reduceEq, Int.reduceNe, Option.map_some, Option.map_none, Option.isSome_none]
        refine Is_in ?_
        simp (disch := first | assumption | omega | (simp only [wkD, oneCell, Option.isSome_some, *]; done) | (simp only [wkE, ne_eq]; omega)) only [wk0, wk1, wk2, wk3, wk4, wk5, X_region, X_seq, X_block, X_loop, X_cond, Y_box, Y_un, Y_store, Y_append, Y_makeMap, Y_buildSlice, ibin_shl, ibin_shr, ibin_and, List.set_cons_zero, List.set_cons_succ, List.getD_cons_zero, List.getD_cons_succ, List.map_cons, List.map_nil, ↓reduceIte, reduceCtorEq, oneCell, List.length_cons, List.length_nil, setAt, readN, bne_iff_ne, ne_eq, Nat.reduceAdd, Nat.reduceLeDiff, List.getElem?_cons_zero, List.getElem?_cons_succ, Nat.reduceMul, Option.isSome_some, layAt, Nat.reduceLT, Option.isNone_some, Option.isNone_none, beq_self_eq_true, Nat.reduceEqDiff, setParams, Int.reduceLT, Int.reduceLE, Int.reduceGT, Int.reduceGE, Int.reduceEq, Int.reduceNe, Option.map_some, Option.map_none, Option.isSome_none]
        refine mid_ret ?_
        simp (disch := first | assumption | omega | (simp only [wkD, oneCell, Option.isSome_some, *]; done) | (simp only [wkE, ne_eq]; omega)) only [wk0, wk1, wk2, wk3, wk4, wk5, X_region, X_seq, X_block, X_loop, X_cond, Y_box, Y_un, Y_store, Y_append, Y_makeMap, Y_buildSlice, ibin_shl, ibin_shr, ibin_and, List.set_cons_zero, List.set_cons_succ, List.getD_cons_zero, List.getD_cons_succ, List.map_cons, List.map_nil, ↓reduceIte, reduceCtorEq, oneCell, List.length_cons, List.length_nil, setAt, readN, bne_iff_ne, ne_eq, Nat.reduceAdd, Nat.reduceLeDiff, List.getElem?_cons_zero, List.getElem?_cons_succ, Nat.reduceMul, Option.isSome_some, layAt, Nat.reduceLT, Option.isNone_some, Option.isNone_none, beq_self_eq_true, Nat.reduceEqDiff, setParams, Int.reduceLT, Int.reduceLE, Int.reduceGT, Int.reduceGE, Int.reduceEq, Int.reduceNe, Option.map_some, Option.map_none, Option.isSome_none]
        exact leaf1 rfl
    · have hlt' : ¬ (i : Int) < (len : Int) := by omega
      simp (disch := first | assumption | omega | (simp only [wkD, oneCell, Option.isSome_some, *]; done) | (simp only [wkE, ne_eq]; omega)) only [g0, g1, g5, g6, g7, g8, g33, g34, hlt', wk0, wk1, wk2, wk3, wk4, wk5, X_region, X_seq, X_block, X_loop, X_cond, Y_box, Y_un, Y_store, Y_append, Y_makeMap, Y_buildSlice, ibin_shl, ibin_shr, ibin_and, List.set_cons_zero, List.set_cons_succ, List.getD_cons_zero, List.getD_cons_succ, List.map_cons, List.map_nil, ↓reduceIte, reduceCtorEq, oneCell, List.length_cons, List.length_nil, setAt, readN, bne_iff_ne, ne_eq, Nat.reduceAdd, Nat.reduceLeDiff, List.getElem?_cons_zero, List.getElem?_cons_succ, Nat.reduceMul, Option.isSome_some, layAt, Nat.reduceLT, Option.isNone_some, Option.isNone_none, beq_self_eq_true, Nat.reduceEqDiff, setParams, Int.reduceLT, Int.reduceLE, Int.reduceGT, Int.reduceGE, Int.reduceEq, Int.reduceNe, Option.map_some, Option.map_none, Option.isSome_none]
      refine Is_in ?_
      simp (disch := first | assumption | omega | (simp only [wkD, oneCell, Option.isSome_some, *]; done) | (simp only [wkE, ne_eq]; omega)) only [wk0, wk1, wk2, wk3, wk4, wk5, X_region, X_seq, X_block, X_loop, X_cond, Y_box, Y_un, Y_store, Y_append, Y_makeMap, Y_buildSlice, ibin_shl, ibin_shr, ibin_and, List.set_cons_zero, List.set_cons_succ, List.getD_cons_zero, List.getD_cons_succ, List.map_cons, List.map_nil, ↓reduceIte, reduceCtorEq, oneCell, List.length_cons, List.length_nil, setAt, readN, bne_iff_ne, ne_eq, Nat.reduceAdd, Nat.reduceLeDiff, List.getElem?_cons_zero, List.getElem?_cons_succ, Nat.reduceMul, Option.isSome_some, layAt, Nat.reduceLT, Option.isNone_some, Option.isNone_none, beq_self_eq_true, Nat.reduceEqDiff, setParams, Int.reduceLT, Int.reduceLE, Int.reduceGT, Int.reduceGE, Int.reduceEq, Int.reduceNe, Option.map_some, Option.map_none, Option.isSome_none]
      exact mid_in ⟨rfl, rfl, rfl, rfl, rfl, rfl, O.drop, fun j1 j2 q1 q2 => hdist j1 j2 q1 (by omega)⟩
  clear O6
  rintro tm h4 ⟨hlen_, g0, g1, g5, g6, g7, O, hD⟩
  simp only at g0 g1 g5 g6 g7 O
  obtain ⟨w, hg_, rfl⟩ := explode hlen_
  simp only [hg_] at g0 g1 g5 g6 g7
  clear hlen_ hg_
  -- they are put
  simp (disch := first | assumption | omega | (simp only [wkD, oneCell, Option.isSome_some, *]; done) | (simp only [wkE, ne_eq]; omega)) only [g0, g1, g5, g6, g7, wk0, wk1, wk2, wk3, wk4, wk5, X_region, X_seq, X_block, X_loop, X_cond, Y_box, Y_un, Y_store, Y_append, Y_makeMap, Y_buildSlice, ibin_shl, ibin_shr, ibin_and, List.set_cons_zero, List.set_cons_succ, List.getD_cons_zero, List.getD_cons_succ, List.map_cons, List.map_nil, ↓reduceIte, reduceCtorEq, oneCell, List.length_cons, List.length_nil, setAt, readN, bne_iff_ne, ne_eq, Nat.reduceAdd, Nat.reduceLeDiff, List.getElem?_cons_zero, List.getElem?_cons_succ, Nat.reduceMul, Option.isSome_some, layAt, Nat.reduceLT, Option.isNone_some, Option.isNone_none, beq_self_eq_true, Nat.reduceEqDiff, setParams, Int.reduceLT, Int.reduceLE, Int.reduceGT, Int.reduceGE, Int.reduceEq, Int.reduceNe, Option.map_some, Option.map_none, Option.isSome_none]
  refine L_cut1 (fun s => ∃ A : List It, s.tmps.length = 157 ∧ s.tmps.getD 0 undefV = .slice p len cap ∧ s.tmps.getD 1 undefV = .int .i64 r ∧ s.tmps.getD 5 undefV = .bool true ∧ s.tmps.getD 6 undefV = .pointer (some ⟨pb, 0, none⟩) ∧ s.tmps.getD 7 undefV = .pointer (some ⟨qb, 0, none⟩) ∧ Has ro s.h [Qr pb A, Qr qb A] ∧ Sorted A 0 A.length ∧ A.length ≤ 8 ∧ Dist A) ?_ ?_
  · refine L_is (fun k s => ∃ (i : Nat) (A B : List It), s.defers = [] ∧ s.tmps.length = 157 ∧ s.tmps.getD 0 undefV = .slice p len cap ∧ s.tmps.getD 1 undefV = .int .i64 r ∧ s.tmps.getD 5 undefV = .bool true ∧ s.tmps.getD 6 undefV = .pointer (some ⟨pb, 0, none⟩) ∧ s.tmps.getD 7 undefV = .pointer (some ⟨qb, 0, none⟩) ∧ s.tmps.getD 56 undefV = .int .i64 (len : Int) ∧ s.tmps.getD 57 undefV = .int .i64 (i : Int) ∧ k = len - i ∧ i ≤ len ∧ Has ro s.h [Qr pb A, Qr qb B] ∧ Sorted A 0 A.length ∧ Sorted B 0 B.length ∧ A.length ≤ i ∧ B.length ≤ i ∧ (∀ y, A.count y = ((l.take i).filter good).count y) ∧ ∀ y, B.count y = ((l.drop (len - i)).filter good).count y) len ?_ (by omega) ?_
    · exact ⟨0, [], [], rfl, rfl, rfl, rfl, rfl, rfl, rfl, rfl, rfl, rfl, by omega, O, fun i j h1 h2 h3 => by simp at h3, fun i j h1 h2 h3 => by simp at h3, Nat.le_refl _, Nat.le_refl _, fun y => rfl, fun y => by rw [List.drop_of_length_le (by omega)]; rfl⟩
    clear O g0 g1 g5 g6 g7
    rintro k tm df h5 ⟨i, A, B, hd, hlen_, g0, g1, g5, g6, g7, g56, g57, hk, hi, O, sA, sB, lA, lB, cA, cB⟩
    simp only at hd O g0 g1 g5 g6 g7 g56 g57
    subst hd
    obtain ⟨w, hg_, rfl⟩ := explode hlen_
    simp only [hg_] at g0 g1 g5 g6 g7 g56 g57
    clear hlen_ hg_
    have inA : ∀ x ∈ A, x ∈ l.take i := fun x hx => (List.mem_filter.1 (List.count_pos_iff.1 (by rw [← cA]; exact List.count_pos_iff.2 hx))).1
    have inB : ∀ x ∈ B, x ∈ l.drop (len - i) := fun x hx => (List.mem_filter.1 (List.count_pos_iff.1 (by rw [← cB]; exact List.count_pos_iff.2 hx))).1
    have hnd := dist_nodup hD
    by_cases hlt : i < len
    · have hlt' : (i : Int) < (len : Int) := by omega
      have c0 : (0 : Int) ≤ (i : Int) := by omega
      obtain ⟨ab, rfl, r1, _⟩ := rd i O hlt
      have y1 : IntKind.i64.wrap ((i : Int) + 1) = ((i + 1 : Nat) : Int) := by rw [wrap_i64 (by omega) (by omega)]; omega
      have y2 : IntKind.i64.wrap ((len : Int) - 1) = ((len - 1 : Nat) : Int) := by rw [wrap_i64 (by omega) (by omega)]; omega
      have y3 : IntKind.i64.wrap (((len - 1 : Nat) : Int) - (i : Int)) = ((len - 1 - i : Nat) : Int) := by rw [wrap_i64 (by omega) (by omega)]; omega
      have c2 : (0 : Int) ≤ ((len - 1 - i : Nat) : Int) := by omega
      have c3 : ((len - 1 - i : Nat) : Int) < (len : Int) := by omega
      simp (disch := first | assumption | omega | (simp only [wkD, oneCell, Option.isSome_some, *]; done) | (simp only [wkE, ne_eq]; omega)) only [g0, g1, g5, g6, g7, g56, g57, hlt', c0, r1, Int.toNat_natCast, agg_ic, wk0, wk1, wk2, wk3, wk4, wk5, X_region, X_seq, X_block, X_loop, X_cond, Y_box, Y_un, Y_store, Y_append, Y_makeMap, Y_buildSlice, ibin_shl, ibin_shr, ibin_and, List.set_cons_zero, List.set_cons_succ, List.getD_cons_zero, List.getD_cons_succ, List.map_cons, List.map_nil, ↓reduceIte, reduceCtorEq, oneCell, List.length_cons, List.length_nil, setAt, readN, bne_iff_ne, ne_eq, Nat.reduceAdd, Nat.reduceLeDiff, List.getElem?_cons_zero, List.getElem?_cons_succ, Nat.reduceMul, Option.isSome_some, layAt, Nat.reduceLT, Option.isNone_some, Option.isNone_none, beq_self_eq_true, Nat.reduceEqDiff, setParams, Int.reduceLT, Int.reduceLE, Int.reduceGT, Int.reduceGE, Int.reduceEq, Int.reduceNe, Option.map_some, Option.map_none, Option.isSome_none]
      refine Z_is (put_h (n := 990) (by omega) (by omega) O (nth l i)) ?_
      rintro v6 h6 ⟨a, e, A', rfl, hp, O6⟩
      simp only at O6
      have hp2 := put_new sA (by omega) (fun y hy e => by
        obtain ⟨j, hj, rfl⟩ := mem_nth.1 (inA y hy)
        rw [List.length_take] at hj
        have : nth (l.take i) j = nth l j := by
          unfold nth
          rw [List.getD_eq_getElem?_getD, List.getD_eq_getElem?_getD, List.getElem?_take, if_pos (by omega)]
        rw [this] at e
        exact hD j i (by omega) (by omega) e) hp
      have hl2 := put_sorted sA (by omega) hp
      obtain ⟨ab2, he, r2, _⟩ := rd (len - 1 - i) O6 (by omega)
      cases he
      simp (disch := first | assumption | omega | (simp only [wkD, oneCell, Option.isSome_some, *]; done) | (simp only [wkE, ne_eq]; omega)) only [g0, g1, g5, g6, g7, g56, g57, y2, y3, c2, c3, r2, Int.toNat_natCast, agg_ic, wk0, wk1, wk2, wk3, wk4, wk5, X_region, X_seq, X_block, X_loop, X_cond, Y_box, Y_un, Y_store, Y_append, Y_makeMap, Y_buildSlice, ibin_shl, ibin_shr, ibin_and, List.set_cons_zero, List.set_cons_succ, List.getD_cons_zero, List.getD_cons_succ, List.map_cons, List.map_nil, ↓reduceIte, reduceCtorEq, oneCell, List.length_cons, List.length_nil, setAt, readN, bne_iff_ne, ne_eq, Nat.reduceAdd, Nat.reduceLeDiff, List.getElem?_cons_zero, List.getElem?_cons_succ, Nat.reduceMul, Option.isSome_some, layAt, Nat.reduceLT, Option.isNone_some, Option.isNone_none, beq_self_eq_true, Nat.reduceEqDiff, setParams, Int.reduceLT, Int.reduceLE, Int.reduceGT, Int.reduceGE, Int.reduceEq, Int.reduceNe, Option.map_some, Option.map_none, Option.isSome_none]
      refine Z_is (put_h (n := 990) (by omega) (by omega) O6.swap2 (nth l (len - 1 - i))) ?_
      rintro v7 h7 ⟨a2, e2, B', rfl, hq, O7⟩
      simp only at O7
      have hq2 := put_new sB (by omega) (fun y hy e => by
        obtain ⟨j, hj, rfl⟩ := mem_nth.1 (inB y hy)
        rw [List.length_drop] at hj
        have : nth (l.drop (len - i)) j = nth l (len - i + j) := by
          unfold nth
          rw [List.getD_eq_getElem?_getD, List.getD_eq_getElem?_getD, List.getElem?_drop]
        rw [this] at e
        exact hD (len - 1 - i) (len - i + j) (by omega) (by omega) e.symm) hq
      have hl3 := put_sorted sB (by omega) hq
      simp (disch := first | assumption | omega | (simp only [wkD, oneCell, Option.isSome_some, *]; done) | (simp only [wkE, ne_eq]; omega)) only [g0, g1, g5, g6, g7, g56, g57, y1, wk0, wk1, wk2, wk3, wk4, wk5, X_region, X_seq, X_block, X_loop, X_cond, Y_box, Y_un, Y_store, Y_append, Y_makeMap, Y_buildSlice, ibin_shl, ibin_shr, ibin_and, List.set_cons_zero, List.set_cons_succ, List.getD_cons_zero, List.getD_cons_succ, List.map_cons, List.map_nil, ↓reduceIte, reduceCtorEq, oneCell, List.length_cons, List.length_nil, setAt, readN, bne_iff_ne, ne_eq, Nat.reduceAdd, Nat.reduceLeDiff, List.getElem?_cons_zero, List.getElem?_cons_succ, Nat.reduceMul, Option.isSome_some, layAt, Nat.reduceLT, Option.isNone_some, Option.isNone_none, beq_self_eq_true, Nat.reduceEqDiff, setParams, Int.reduceLT, Int.reduceLE, Int.reduceGT, Int.reduceGE, Int.reduceEq, Int.reduceNe, Option.map_some, Option.map_none, Option.isSome_none]
      refine Is_in ⟨len - (i + 1), by omega, i + 1, A', B', rfl, rfl, rfl, rfl, rfl, rfl, rfl, rfl, rfl, rfl, by omega, O7.swap2, hp2.1, hq2.1, by omega, by omega, fun y => ?_, fun y => ?_⟩
      · rw [take_succ_nth (by omega), cnt_good, hp2.2, cA]
      · have : l.drop (len - (i + 1)) = nth l (len - 1 - i) :: l.drop (len - i) := by
          rw [List.drop_eq_getElem_cons (by omega), nth_el (by omega)]
          congr 1
          · congr 1; omega
          · congr 1; omega
        rw [this, hq2.2, cB, List.filter_cons]
        by_cases b : BadW (nth l (len - 1 - i))
        · rw [if_pos b, if_neg (by simp [good, b])]; rfl
        · rw [if_neg b, if_pos (by simp [good, b]), cnt_cons]
    · have hlt' : ¬ (i : Int) < (len : Int) := by omega
      simp (disch := first | assumption | omega | (simp only [wkD, oneCell, Option.isSome_some, *]; done) | (simp only [wkE, ne_eq]; omega)) only [g0, g1, g5, g6, g7, g56, g57, hlt', wk0, wk1, wk2, wk3, wk4, wk5, X_region, X_seq, X_block, X_loop, X_cond, Y_box, Y_un, Y_store, Y_append, Y_makeMap, Y_buildSlice, ibin_shl, ibin_shr, ibin_and, List.set_cons_zero, List.set_cons_succ, List.getD_cons_zero, List.getD_cons_succ, List.map_cons, List.map_nil, ↓reduceIte, reduceCtorEq, oneCell, List.length_cons, List.length_nil, setAt, readN, bne_iff_ne, ne_eq, Nat.reduceAdd, Nat.reduceLeDiff, List.getElem?_cons_zero, List.getElem?_cons_succ, Nat.reduceMul, Option.isSome_some, layAt, Nat.reduceLT, Option.isNone_some, Option.isNone_none, beq_self_eq_true, Nat.reduceEqDiff, setParams, Int.reduceLT, Int.reduceLE, Int.reduceGT, Int.reduceGE, Int.reduceEq, Int.reduceNe, Option.map_some, Option.map_none, Option.isSome_none]
      refine Is_in ?_
      simp (disch := first | assumption | omega | (simp only [wkD, oneCell, Option.isSome_some, *]; done) | (simp only [wkE, ne_eq]; omega)) only [wk0, wk1, wk2, wk3, wk4, wk5, X_region, X_seq, X_block, X_loop, X_cond, Y_box, Y_un, Y_store, Y_append, Y_makeMap, Y_buildSlice, ibin_shl, ibin_shr, ibin_and, List.set_cons_zero, List.set_cons_succ, List.getD_cons_zero, List.getD_cons_succ, List.map_cons, List.map_nil, ↓reduceIte, reduceCtorEq, oneCell, List.length_cons, List.length_nil, setAt, readN, bne_iff_ne, ne_eq, Nat.reduceAdd, Nat.reduceLeDiff, List.getElem?_cons_zero, List.getElem?_cons_succ, Nat.reduceMul, Option.isSome_some, layAt, Nat.reduceLT, Option.isNone_some, Option.isNone_none, beq_self_eq_true, Nat.reduceEqDiff, setParams, Int.reduceLT, Int.reduceLE, Int.reduceGT, Int.reduceGE, Int.reduceEq, Int.reduceNe, Option.map_some, Option.map_none, Option.isSome_none]
      have hil : i = len := by omega
      subst hil
      have e1 : l.take i = l := List.take_of_length_le (by omega)
      rw [e1] at cA inA
      rw [Nat.sub_self, List.drop_zero] at cB
      have hAB : A = B := sorted_uniq sA sB fun y => by rw [cA, cB]
      subst hAB
      refine mid_in ⟨A, rfl, rfl, rfl, rfl, rfl, rfl, O, sA, by omega, sub_dist hD (List.nodup_iff_count.2 fun y => ?_) inA⟩
      rw [cA]
      exact Nat.le_trans (List.Sublist.count_le _ List.filter_sublist) (List.nodup_iff_count.1 hnd y)
  clear O rd g0 g1 g5 g6 g7
  rintro tm h5 ⟨A, hlen_, g0, g1, g5, g6, g7, O, sA, lA, dA⟩
  simp only at g0 g1 g5 g6 g7 O
  obtain ⟨w, hg_, rfl⟩ := explode hlen_
  simp only [hg_] at g0 g1 g5 g6 g7
  clear hlen_ hg_
  -- all of both
  simp (disch := first | assumption | omega | (simp only [wkD, oneCell, Option.isSome_some, *]; done) | (simp only [wkE, ne_eq]; omega)) only [g0, g1, g5, g6, g7, wk0, wk1, wk2, wk3, wk4, wk5, X_region, X_seq, X_block, X_loop, X_cond, Y_box, Y_un, Y_store, Y_append, Y_makeMap, Y_buildSlice, ibin_shl, ibin_shr, ibin_and, List.set_cons_zero, List.set_cons_succ, List.getD_cons_zero, List.getD_cons_succ, List.map_cons, List.map_nil, ↓reduceIte, reduceCtorEq, oneCell, List.length_cons, List.length_nil, setAt, readN, bne_iff_ne, ne_eq, Nat.reduceAdd, Nat.reduceLeDiff, List.getElem?_cons_zero, List.getElem?_cons_succ, Nat.reduceMul, Option.isSome_some, layAt, Nat.reduceLT, Option.isNone_some, Option.isNone_none, beq_self_eq_true, Nat.reduceEqDiff, setParams, Int.reduceLT, Int.reduceLE, Int.reduceGT, Int.reduceGE, Int.reduceEq, Int.reduceNe, Option.map_some, Option.map_none, Option.isSome_none]
  refine Z_is (list_h (n := 997) (by omega) O) ?_
  rintro v6 h6 O6
  simp only at O6
  have O6' := O6.at 2 rfl
  simp only [List.eraseIdx_cons_succ, List.eraseIdx_cons_zero] at O6'
  simp (disch := first | assumption | omega | (simp only [wkD, oneCell, Option.isSome_some, *]; done) | (simp only [wkE, ne_eq]; omega)) only [g0, g1, g5, g6, g7, wk0, wk1, wk2, wk3, wk4, wk5, X_region, X_seq, X_block, X_loop, X_cond, Y_box, Y_un, Y_store, Y_append, Y_makeMap, Y_buildSlice, ibin_shl, ibin_shr, ibin_and, List.set_cons_zero, List.set_cons_succ, List.getD_cons_zero, List.getD_cons_succ, List.map_cons, List.map_nil, ↓reduceIte, reduceCtorEq, oneCell, List.length_cons, List.length_nil, setAt, readN, bne_iff_ne, ne_eq, Nat.reduceAdd, Nat.reduceLeDiff, List.getElem?_cons_zero, List.getElem?_cons_succ, Nat.reduceMul, Option.isSome_some, layAt, Nat.reduceLT, Option.isNone_some, Option.isNone_none, beq_self_eq_true, Nat.reduceEqDiff, setParams, Int.reduceLT, Int.reduceLE, Int.reduceGT, Int.reduceGE, Int.reduceEq, Int.reduceNe, Option.map_some, Option.map_none, Option.isSome_none]
  refine Z_is (list_h (n := 997) (by omega) O6') ?_
  rintro v7 h7 O7
  simp only at O7
  obtain ⟨pa, ca, rfl, hz1⟩ := O7.scVal 2 rfl
  obtain ⟨pb2, cb, rfl, hz2⟩ := O7.scVal 0 rfl
  clear hz1 hz2 O6 O6' O
  simp (disch := first | assumption | omega | (simp only [wkD, oneCell, Option.isSome_some, *]; done) | (simp only [wkE, ne_eq]; omega)) only [g0, g1, g5, g6, g7, wk0, wk1, wk2, wk3, wk4, wk5, X_region, X_seq, X_block, X_loop, X_cond, Y_box, Y_un, Y_store, Y_append, Y_makeMap, Y_buildSlice, ibin_shl, ibin_shr, ibin_and, List.set_cons_zero, List.set_cons_succ, List.getD_cons_zero, List.getD_cons_succ, List.map_cons, List.map_nil, ↓reduceIte, reduceCtorEq, oneCell, List.length_cons, List.length_nil, setAt, readN, bne_iff_ne, ne_eq, Nat.reduceAdd, Nat.reduceLeDiff, List.getElem?_cons_zero, List.getElem?_cons_succ, Nat.reduceMul, Option.isSome_some, layAt, Nat.reduceLT, Option.isNone_some, Option.isNone_none, beq_self_eq_true, Nat.reduceEqDiff, setParams, Int.reduceLT, Int.reduceLE, Int.reduceGT, Int.reduceGE, Int.reduceEq, Int.reduceNe, Option.map_some, Option.map_none, Option.isSome_none]
  refine L_cut1 (fun s => s.tmps.length = 157 ∧ s.tmps.getD 1 undefV = .int .i64 r ∧ s.tmps.getD 5 undefV = .bool true ∧ s.tmps.getD 6 undefV = .pointer (some ⟨pb, 0, none⟩) ∧ s.tmps.getD 11 undefV = .slice pa A.length ca ∧ s.tmps.getD 12 undefV = .slice pb2 A.length cb ∧ Has ro s.h [Sc 3 ic (.slice pb2 A.length cb) A, Qr qb A, Sc 3 ic (.slice pa A.length ca) A, Qr pb A]) ?_ ?_
  · refine L_is (fun k s => ∃ (i : Nat), s.defers = [] ∧ s.tmps.length = 157 ∧ s.tmps.getD 1 undefV = .int .i64 r ∧ s.tmps.getD 5 undefV = .bool true ∧ s.tmps.getD 6 undefV = .pointer (some ⟨pb, 0, none⟩) ∧ s.tmps.getD 11 undefV = .slice pa A.length ca ∧ s.tmps.getD 12 undefV = .slice pb2 A.length cb ∧ s.tmps.getD 82 undefV = .int .i64 (A.length : Int) ∧ s.tmps.getD 83 undefV = .int .i64 (i : Int) ∧ k = A.length - i ∧ i ≤ A.length ∧ Has ro s.h [Sc 3 ic (.slice pb2 A.length cb) A, Qr qb A, Sc 3 ic (.slice pa A.length ca) A, Qr pb A]) A.length ?_ (by omega) ?_
    · exact ⟨0, rfl, rfl, rfl, rfl, rfl, rfl, rfl, rfl, rfl, rfl, by omega, O7⟩
    clear O7 g0 g1 g5 g6 g7
    rintro k tm df h8 ⟨i, hd, hlen_, g1, g5, g6, g11, g12, g82, g83, hk, hi, O⟩
    simp only at hd O g1 g5 g6 g11 g12 g82 g83
    subst hd
    obtain ⟨w, hg_, rfl⟩ := explode hlen_
    simp only [hg_] at g1 g5 g6 g11 g12 g82 g83
    clear hlen_ hg_
    have y1 : IntKind.i64.wrap ((i : Int) + 1) = ((i + 1 : Nat) : Int) := by rw [wrap_i64 (by omega) (by omega)]; omega
    by_cases hlt : i < A.length
    · have hlt' : (i : Int) < (A.length : Int) := by omega
      simp (disch := first | assumption | omega | (simp only [wkD, oneCell, Option.isSome_some, *]; done) | (simp only [wkE, ne_eq]; omega)) only [g1, g5, g6, g11, g12, g82, g83, hlt', wk0, wk1, wk2, wk3, wk4, wk5, X_region, X_seq, X_block, X_loop, X_cond, Y_box, Y_un, Y_store, Y_append, Y_makeMap, Y_buildSlice, ibin_shl, ibin_shr, ibin_and, List.set_cons_zero, List.set_cons_succ, List.getD_cons_zero, List.getD_cons_succ, List.map_cons, List.map_nil, ↓reduceIte, reduceCtorEq, oneCell, List.length_cons, List.length_nil, setAt, readN, bne_iff_ne, ne_eq, Nat.reduceAdd, Nat.reduceLeDiff, List.getElem?_cons_zero, List.getElem?_cons_succ, Nat.reduceMul, Option.isSome_some, layAt, Nat.reduceLT, Option.isNone_some, Option.isNone_none, beq_self_eq_true, Nat.reduceEqDiff, setParams, Int.reduceLT, Int.reduceLE, Int.reduceGT, Int.reduceGE, Int.reduceEq, Int.reduceNe, Option.map_some, Option.map_none, Option.isSome_none]
      refine X_drawn _ fun an => ?_
      by_cases h0 : 0 < i
      · have h0' : (0 : Int) < (i : Int) := by omega
        have y2 : IntKind.i64.wrap ((i : Int) - 1) = ((i - 1 : Nat) : Int) := by rw [wrap_i64 (by omega) (by omega)]; omega
        have c1 : (0 : Int) ≤ ((i - 1 : Nat) : Int) := by omega
        have c2 : ((i - 1 : Nat) : Int) < (A.length : Int) := by omega
        have c3 : (0 : Int) ≤ (i : Int) := by omega
        obtain ⟨bA, c, sp, hv, r1, _⟩ := rdF (View.of O 2 rfl) hlt
        cases hv
        obtain ⟨bA2, c, sp, hv, r2, _⟩ := rdF (View.of O 2 rfl) (i := i - 1) (by omega)
        cases hv
        simp (disch := first | assumption | omega | (simp only [wkD, oneCell, Option.isSome_some, *]; done) | (simp only [wkE, ne_eq]; omega)) only [g1, g5, g6, g11, g12, g82, g83, hlt', h0', y2, c1, c2, c3, r1, r2, Int.toNat_natCast, agg_ic, wk0, wk1, wk2, wk3, wk4, wk5, X_region, X_seq, X_block, X_loop, X_cond, Y_box, Y_un, Y_store, Y_append, Y_makeMap, Y_buildSlice, ibin_shl, ibin_shr, ibin_and, List.set_cons_zero, List.set_cons_succ, List.getD_cons_zero, List.getD_cons_succ, List.map_cons, List.map_nil, ↓reduceIte, reduceCtorEq, oneCell, List.length_cons, List.length_nil, setAt, readN, bne_iff_ne, ne_eq, Nat.reduceAdd, Nat.reduceLeDiff, List.getElem?_cons_zero, List.getElem?_cons_succ, Nat.reduceMul, Option.isSome_some, layAt, Nat.reduceLT, Option.isNone_some, Option.isNone_none, beq_self_eq_true, Nat.reduceEqDiff, setParams, Int.reduceLT, Int.reduceLE, Int.reduceGT, Int.reduceGE, Int.reduceEq, Int.reduceNe, Option.map_some, Option.map_none, Option.isSome_none]
        refine DB_is (ahead_h (n := 995) (by omega) O.fine (nth A (i - 1)) (nth A i)) ?_
        rintro v9 h9 ⟨rfl, e9⟩
        simp only at e9
        have hnle : ¬ le (nth A i) (nth A (i - 1)) := fun h => by
          have := le_anti (sA (i - 1) i (by omega) (by omega) hlt) h
          exact dA (i - 1) i (by omega) hlt (by rw [this])
        rw [decide_eq_true hnle]
        simp (disch := first | assumption | omega | (simp only [wkD, oneCell, Option.isSome_some, *]; done) | (simp only [wkE, ne_eq]; omega)) only [y1, wk0, wk1, wk2, wk3, wk4, wk5, X_region, X_seq, X_block, X_loop, X_cond, Y_box, Y_un, Y_store, Y_append, Y_makeMap, Y_buildSlice, ibin_shl, ibin_shr, ibin_and, List.set_cons_zero, List.set_cons_succ, List.getD_cons_zero, List.getD_cons_succ, List.map_cons, List.map_nil, ↓reduceIte, reduceCtorEq, oneCell, List.length_cons, List.length_nil, setAt, readN, bne_iff_ne, ne_eq, Nat.reduceAdd, Nat.reduceLeDiff, List.getElem?_cons_zero, List.getElem?_cons_succ, Nat.reduceMul, Option.isSome_some, layAt, Nat.reduceLT, Option.isNone_some, Option.isNone_none, beq_self_eq_true, Nat.reduceEqDiff, setParams, Int.reduceLT, Int.reduceLE, Int.reduceGT, Int.reduceGE, Int.reduceEq, Int.reduceNe, Option.map_some, Option.map_none, Option.isSome_none]
        exact Is_in ⟨A.length - (i + 1), by omega, i + 1, rfl, rfl, rfl, rfl, rfl, rfl, rfl, rfl, rfl, rfl, by omega, O.ext e9⟩
      · have h0' : ¬ (0 : Int) < (i : Int) := by omega
        simp (disch := first | assumption | omega | (simp only [wkD, oneCell, Option.isSome_some, *]; done) | (simp only [wkE, ne_eq]; omega)) only [g1, g5, g6, g11, g12, g82, g83, hlt', h0', y1, wk0, wk1, wk2, wk3, wk4, wk5, X_region, X_seq, X_block, X_loop, X_cond, Y_box, Y_un, Y_store, Y_append, Y_makeMap, Y_buildSlice, ibin_shl, ibin_shr, ibin_and, List.set_cons_zero, List.set_cons_succ, List.getD_cons_zero, List.getD_cons_succ, List.map_cons, List.map_nil, ↓reduceIte, reduceCtorEq, oneCell, List.length_cons, List.length_nil, setAt, readN, bne_iff_ne, ne_eq, Nat.reduceAdd, Nat.reduceLeDiff, List.getElem?_cons_zero, List.getElem?_cons_succ, Nat.reduceMul, Option.isSome_some, layAt, Nat.reduceLT, Option.isNone_some, Option.isNone_none, beq_self_eq_true, Nat.reduceEqDiff, setParams, Int.reduceLT, Int.reduceLE, Int.reduceGT, Int.reduceGE, Int.reduceEq, Int.reduceNe, Option.map_some, Option.map_none, Option.isSome_none]
        exact Is_in ⟨A.length - (i + 1), by omega, i + 1, rfl, rfl, rfl, rfl, rfl, rfl, rfl, rfl, rfl, rfl, by omega, O⟩
    · have hlt' : ¬ (i : Int) < (A.length : Int) := by omega
      simp (disch := first | assumption | omega | (simp only [wkD, oneCell, Option.isSome_some, *]; done) | (simp only [wkE, ne_eq]; omega)) only [g1, g5, g6, g11, g12, g82, g83, hlt', wk0, wk1, wk2, wk3, wk4, wk5, X_region, X_seq, X_block, X_loop, X_cond, Y_box, Y_un, Y_store, Y_append, Y_makeMap, Y_buildSlice, ibin_shl, ibin_shr, ibin_and, List.set_cons_zero, List.set_cons_succ, List.getD_cons_zero, List.getD_cons_succ, List.map_cons, List.map_nil, ↓reduceIte, reduceCtorEq, oneCell, List.length_cons, List.length_nil, setAt, readN, bne_iff_ne, ne_eq, Nat.reduceAdd, Nat.reduceLeDiff, List.getElem?_cons_zero, List.getElem?_cons_succ, Nat.reduceMul, Option.isSome_some, layAt, Nat.reduceLT, Option.isNone_some, Option.isNone_none, beq_self_eq_true, Nat.reduceEqDiff, setParams, Int.reduceLT, Int.reduceLE, Int.reduceGT, Int.reduceGE, Int.reduceEq, Int.reduceNe, Option.map_some, Option.map_none, Option.isSome_none]
      refine Is_in ?_
      simp (disch := first | assumption | omega | (simp only [wkD, oneCell, Option.isSome_some, *]; done) | (simp only [wkE, ne_eq]; omega)) only [wk0, wk1, wk2, wk3, wk4, wk5, X_region, X_seq, X_block, X_loop, X_cond, Y_box, Y_un, Y_store, Y_append, Y_makeMap, Y_buildSlice, ibin_shl, ibin_shr, ibin_and, List.set_cons_zero, List.set_cons_succ, List.getD_cons_zero, List.getD_cons_succ, List.map_cons, List.map_nil, ↓reduceIte, reduceCtorEq, oneCell, List.length_cons, List.length_nil, setAt, readN, bne_iff_ne, ne_eq, Nat.reduceAdd, Nat.reduceLeDiff, List.getElem?_cons_zero, List.getElem?_cons_succ, Nat.reduceMul, Option.isSome_some, layAt, Nat.reduceLT, Option.isNone_some, Option.isNone_none, beq_self_eq_true, Nat.reduceEqDiff, setParams, Int.reduceLT, Int.reduceLE, Int.reduceGT, Int.reduceGE, Int.reduceEq, Int.reduceNe, Option.map_some, Option.map_none, Option.isSome_none]
      exact mid_in ⟨rfl, rfl, rfl, rfl, rfl, rfl, O⟩
  clear O7 g0 g1 g5 g6 g7
  rintro tm h8 ⟨hlen_, g1, g5, g6, g11, g12, O⟩
  simp only at g1 g5 g6 g11 g12 O
  obtain ⟨w, hg_, rfl⟩ := explode hlen_
  simp only [hg_] at g1 g5 g6 g11 g12
  clear hlen_ hg_
  simp (disch := first | assumption | omega | (simp only [wkD, oneCell, Option.isSome_some, *]; done) | (simp only [wkE, ne_eq]; omega)) only [g1, g5, g6, g11, g12, wk0, wk1, wk2, wk3, wk4, wk5, X_region, X_seq, X_block, X_loop, X_cond, Y_box, Y_un, Y_store, Y_append, Y_makeMap, Y_buildSlice, ibin_shl, ibin_shr, ibin_and, List.set_cons_zero, List.set_cons_succ, List.getD_cons_zero, List.getD_cons_succ, List.map_cons, List.map_nil, ↓reduceIte, reduceCtorEq, oneCell, List.length_cons, List.length_nil, setAt, readN, bne_iff_ne, ne_eq, Nat.reduceAdd, Nat.reduceLeDiff, List.getElem?_cons_zero, List.getElem?_cons_succ, Nat.reduceMul, Option.isSome_some, layAt, Nat.reduceLT, Option.isNone_some, Option.isNone_none, beq_self_eq_true, Nat.reduceEqDiff, setParams, Int.reduceLT, Int.reduceLE, Int.reduceGT, Int.reduceGE, Int.reduceEq, Int.reduceNe, Option.map_some, Option.map_none, Option.isSome_none]
  refine Z_is (same_h (n := 998) (by omega) (by omega) (View.of O 2 rfl) (View.of O 0 rfl)) ?_
  rintro v9 h9 ⟨rfl⟩
  rw [decide_eq_true (rfl : A = A)]
  have O' := O.at 3 rfl
  simp only [List.eraseIdx_cons_succ, List.eraseIdx_cons_zero] at O'
  simp (disch := first | assumption | omega | (simp only [wkD, oneCell, Option.isSome_some, *]; done) | (simp only [wkE, ne_eq]; omega)) only [g1, g5, g6, g11, g12, wk0, wk1, wk2, wk3, wk4, wk5, X_region, X_seq, X_block, X_loop, X_cond, Y_box, Y_un, Y_store, Y_append, Y_makeMap, Y_buildSlice, ibin_shl, ibin_shr, ibin_and, List.set_cons_zero, List.set_cons_succ, List.getD_cons_zero, List.getD_cons_succ, List.map_cons, List.map_nil, ↓reduceIte, reduceCtorEq, oneCell, List.length_cons, List.length_nil, setAt, readN, bne_iff_ne, ne_eq, Nat.reduceAdd, Nat.reduceLeDiff, List.getElem?_cons_zero, List.getElem?_cons_succ, Nat.reduceMul, Option.isSome_some, layAt, Nat.reduceLT, Option.isNone_some, Option.isNone_none, beq_self_eq_true, Nat.reduceEqDiff, setParams, Int.reduceLT, Int.reduceLE, Int.reduceGT, Int.reduceGE, Int.reduceEq, Int.reduceNe, Option.map_some, Option.map_none, Option.isSome_none]
  refine Z_is (cut_h (n := 995) (r := r) (by omega) lA O') ?_
  rintro v10 h10 ⟨is, C, rfl, hC, O10⟩
  simp only at O10
  obtain ⟨rfl, his⟩ := cut_filter dA hC
  have lC : (A.filter fun x => decide (x.r ≠ r)).length ≤ A.length := List.length_filter_le _ _
  simp (disch := first | assumption | omega | (simp only [wkD, oneCell, Option.isSome_some, *]; done) | (simp only [wkE, ne_eq]; omega)) only [g1, g5, g6, g11, g12, wk0, wk1, wk2, wk3, wk4, wk5, X_region, X_seq, X_block, X_loop, X_cond, Y_box, Y_un, Y_store, Y_append, Y_makeMap, Y_buildSlice, ibin_shl, ibin_shr, ibin_and, List.set_cons_zero, List.set_cons_succ, List.getD_cons_zero, List.getD_cons_succ, List.map_cons, List.map_nil, ↓reduceIte, reduceCtorEq, oneCell, List.length_cons, List.length_nil, setAt, readN, bne_iff_ne, ne_eq, Nat.reduceAdd, Nat.reduceLeDiff, List.getElem?_cons_zero, List.getElem?_cons_succ, Nat.reduceMul, Option.isSome_some, layAt, Nat.reduceLT, Option.isNone_some, Option.isNone_none, beq_self_eq_true, Nat.reduceEqDiff, setParams, Int.reduceLT, Int.reduceLE, Int.reduceGT, Int.reduceGE, Int.reduceEq, Int.reduceNe, Option.map_some, Option.map_none, Option.isSome_none]
  refine Z_is (list_h (n := 997) (by omega) O10) ?_
  rintro v11 h11 O11
  simp only at O11
  obtain ⟨pc, cc, rfl, hz3⟩ := O11.scVal 0 rfl
  clear hz3 O O' O10 hC
  simp (disch := first | assumption | omega | (simp only [wkD, oneCell, Option.isSome_some, *]; done) | (simp only [wkE, ne_eq]; omega)) only [g1, g5, g6, g11, g12, wk0, wk1, wk2, wk3, wk4, wk5, X_region, X_seq, X_block, X_loop, X_cond, Y_box, Y_un, Y_store, Y_append, Y_makeMap, Y_buildSlice, ibin_shl, ibin_shr, ibin_and, List.set_cons_zero, List.set_cons_succ, List.getD_cons_zero, List.getD_cons_succ, List.map_cons, List.map_nil, ↓reduceIte, reduceCtorEq, oneCell, List.length_cons, List.length_nil, setAt, readN, bne_iff_ne, ne_eq, Nat.reduceAdd, Nat.reduceLeDiff, List.getElem?_cons_zero, List.getElem?_cons_succ, Nat.reduceMul, Option.isSome_some, layAt, Nat.reduceLT, Option.isNone_some, Option.isNone_none, beq_self_eq_true, Nat.reduceEqDiff, setParams, Int.reduceLT, Int.reduceLE, Int.reduceGT, Int.reduceGE, Int.reduceEq, Int.reduceNe, Option.map_some, Option.map_none, Option.isSome_none]
  generalize hCe : (A.filter fun x => decide (x.r ≠ r)) = C at O11 lC his
  refine L_is (fun k s => ∃ (i : Nat), s.defers = [] ∧ s.tmps.length = 157 ∧ s.tmps.getD 1 undefV = .int .i64 r ∧ s.tmps.getD 5 undefV = .bool true ∧ s.tmps.getD 11 undefV = .slice pa A.length ca ∧ s.tmps.getD 14 undefV = .bool is ∧ s.tmps.getD 15 undefV = .slice pc C.length cc ∧ s.tmps.getD 16 undefV = .int .i64 ((((A.take i).filter fun x => decide (x.r ≠ r)).length : Nat) : Int) ∧ s.tmps.getD 112 undefV = .int .i64 (A.length : Int) ∧ s.tmps.getD 113 undefV = .int .i64 (i : Int) ∧ k = A.length - i ∧ i ≤ A.length ∧ s.h = h11) A.length ?_ (by omega) ?_
  · exact ⟨0, rfl, rfl, rfl, rfl, rfl, rfl, rfl, rfl, rfl, rfl, rfl, by omega, rfl⟩
  clear g1 g5 g6 g11 g12
  rintro k tm df h12 ⟨i, hd, hlen_, g1, g5, g11, g14, g15, g16, g112, g113, hk, hi, hh⟩
  simp only at hd hh g1 g5 g11 g14 g15 g16 g112 g113
  subst hd hh
  obtain ⟨w, hg_, rfl⟩ := explode hlen_
  simp only [hg_] at g1 g5 g11 g14 g15 g16 g112 g113
  clear hlen_ hg_
  have y1 : IntKind.i64.wrap ((i : Int) + 1) = ((i + 1 : Nat) : Int) := by rw [wrap_i64 (by omega) (by omega)]; omega
  by_cases hlt : i < A.length
  · have hlt' : (i : Int) < (A.length : Int) := by omega
    have c3 : (0 : Int) ≤ (i : Int) := by omega
    obtain ⟨bA, c, sp, hv, r1, r2⟩ := rdF (View.of O11 4 rfl) hlt
    cases hv
    by_cases hx : (nth A i).r = r
    · have dx : decide ((nth A i).r = r) = true := decide_eq_true hx
      have e1 : ((A.take (i + 1)).filter fun x => decide (x.r ≠ r)) = (A.take i).filter fun x => decide (x.r ≠ r) := by
        rw [take_succ_nth hlt, List.filter_append]
        simp [hx]
      simp (disch := first | assumption | omega | (simp only [wkD, oneCell, Option.isSome_some, *]; done) | (simp only [wkE, ne_eq]; omega)) only [g1, g5, g11, g14, g15, g16, g112, g113, hlt', c3, r2, dx, y1, Int.toNat_natCast, wk0, wk1, wk2, wk3, wk4, wk5, X_region, X_seq, X_block, X_loop, X_cond, Y_box, Y_un, Y_store, Y_append, Y_makeMap, Y_buildSlice, ibin_shl, ibin_shr, ibin_and, List.set_cons_zero, List.set_cons_succ, List.getD_cons_zero, List.getD_cons_succ, List.map_cons, List.map_nil, ↓reduceIte, reduceCtorEq, oneCell, List.length_cons, List.length_nil, setAt, readN, bne_iff_ne, ne_eq, Nat.reduceAdd, Nat.reduceLeDiff, List.getElem?_cons_zero, List.getElem?_cons_succ, Nat.reduceMul, Option.isSome_some, layAt, Nat.reduceLT, Option.isNone_some, Option.isNone_none, beq_self_eq_true, Nat.reduceEqDiff, setParams, Int.reduceLT, Int.reduceLE, Int.reduceGT, Int.reduceGE, Int.reduceEq, Int.reduceNe, Option.map_some, Option.map_none, Option.isSome_none]
      exact Is_in ⟨A.length - (i + 1), by omega, i + 1, rfl, rfl, rfl, rfl, rfl, rfl, rfl, by rw [e1]; rfl, rfl, rfl, rfl, by omega, rfl⟩
    · have dx : decide ((nth A i).r = r) = false := decide_eq_false hx
      have fs := filter_step (p := fun x => decide (x.r ≠ r)) hlt (by simpa using hx)
      rw [hCe] at fs
      have e1 : ((A.take (i + 1)).filter fun x => decide (x.r ≠ r)).length = ((A.take i).filter fun x => decide (x.r ≠ r)).length + 1 := by
        rw [take_succ_nth hlt, List.filter_append, List.length_append]
        simp [hx]
      generalize ((A.take i).filter fun x => decide (x.r ≠ r)).length = kk at fs e1 g1 g5 g11 g14 g15 g16 g112 g113
      have c4 : ¬ (C.length : Int) ≤ (kk : Int) := by omega
      have c5 : (0 : Int) ≤ (kk : Int) := by omega
      have c6 : (kk : Int) < (C.length : Int) := by omega
      have y2 : IntKind.i64.wrap ((kk : Int) + 1) = ((kk + 1 : Nat) : Int) := by rw [wrap_i64 (by omega) (by omega)]; omega
      obtain ⟨bC, c, sp, hv, r3, _⟩ := rdF (View.of O11 0 rfl) (i := kk) fs.1
      cases hv
      simp (disch := first | assumption | omega | (simp only [wkD, oneCell, Option.isSome_some, *]; done) | (simp only [wkE, ne_eq]; omega)) only [g1, g5, g11, g14, g15, g16, g112, g113, hlt', c3, r2, dx, Int.toNat_natCast, wk0, wk1, wk2, wk3, wk4, wk5, X_region, X_seq, X_block, X_loop, X_cond, Y_box, Y_un, Y_store, Y_append, Y_makeMap, Y_buildSlice, ibin_shl, ibin_shr, ibin_and, List.set_cons_zero, List.set_cons_succ, List.getD_cons_zero, List.getD_cons_succ, List.map_cons, List.map_nil, ↓reduceIte, reduceCtorEq, oneCell, List.length_cons, List.length_nil, setAt, readN, bne_iff_ne, ne_eq, Nat.reduceAdd, Nat.reduceLeDiff, List.getElem?_cons_zero, List.getElem?_cons_succ, Nat.reduceMul, Option.isSome_some, layAt, Nat.reduceLT, Option.isNone_some, Option.isNone_none, beq_self_eq_true, Nat.reduceEqDiff, setParams, Int.reduceLT, Int.reduceLE, Int.reduceGT, Int.reduceGE, Int.reduceEq, Int.reduceNe, Option.map_some, Option.map_none, Option.isSome_none]
      refine X_drawn _ fun an => ?_
      simp (disch := first | assumption | omega | (simp only [wkD, oneCell, Option.isSome_some, *]; done) | (simp only [wkE, ne_eq]; omega)) only [g1, g5, g11, g14, g15, g16, g112, g113, hlt', c3, c4, c5, c6, r1, r3, fs.2, eqW, y1, y2, Int.toNat_natCast, agg_ic, wk0, wk1, wk2, wk3, wk4, wk5, X_region, X_seq, X_block, X_loop, X_cond, Y_box, Y_un, Y_store, Y_append, Y_makeMap, Y_buildSlice, ibin_shl, ibin_shr, ibin_and, List.set_cons_zero, List.set_cons_succ, List.getD_cons_zero, List.getD_cons_succ, List.map_cons, List.map_nil, ↓reduceIte, reduceCtorEq, oneCell, List.length_cons, List.length_nil, setAt, readN, bne_iff_ne, ne_eq, Nat.reduceAdd, Nat.reduceLeDiff, List.getElem?_cons_zero, List.getElem?_cons_succ, Nat.reduceMul, Option.isSome_some, layAt, Nat.reduceLT, Option.isNone_some, Option.isNone_none, beq_self_eq_true, Nat.reduceEqDiff, setParams, Int.reduceLT, Int.reduceLE, Int.reduceGT, Int.reduceGE, Int.reduceEq, Int.reduceNe, Option.map_some, Option.map_none, Option.isSome_none]
      exact Is_in ⟨A.length - (i + 1), by omega, i + 1, rfl, rfl, rfl, rfl, rfl, rfl, rfl, by rw [e1]; rfl, rfl, rfl, rfl, by omega, rfl⟩
  · have hlt' : ¬ (i : Int) < (A.length : Int) := by omega
    have hia : i = A.length := by omega
    subst hia
    rw [List.take_length, hCe] at g16
    simp (disch := first | assumption | omega | (simp only [wkD, oneCell, Option.isSome_some, *]; done) | (simp only [wkE, ne_eq]; omega)) only [g1, g5, g11, g14, g15, g16, g112, g113, hlt', wk0, wk1, wk2, wk3, wk4, wk5, X_region, X_seq, X_block, X_loop, X_cond, Y_box, Y_un, Y_store, Y_append, Y_makeMap, Y_buildSlice, ibin_shl, ibin_shr, ibin_and, List.set_cons_zero, List.set_cons_succ, List.getD_cons_zero, List.getD_cons_succ, List.map_cons, List.map_nil, ↓reduceIte, reduceCtorEq, oneCell, List.length_cons, List.length_nil, setAt, readN, bne_iff_ne, ne_eq, Nat.reduceAdd, Nat.reduceLeDiff, List.getElem?_cons_zero, List.getElem?_cons_succ, Nat.reduceMul, Option.isSome_some, layAt, Nat.reduceLT, Option.isNone_some, Option.isNone_none, beq_self_eq_true, Nat.reduceEqDiff, setParams, Int.reduceLT, Int.reduceLE, Int.reduceGT, Int.reduceGE, Int.reduceEq, Int.reduceNe, Option.map_some, Option.map_none, Option.isSome_none]
    refine Is_in ?_
    subst his
    have ee : decide ((C.length : Int) < (A.length : Int)) = decide (C.length < A.length) := by rw [decide_eq_decide]; omega
    simp (disch := first | assumption | omega | (simp only [wkD, oneCell, Option.isSome_some, *]; done) | (simp only [wkE, ne_eq]; omega)) only [g1, g5, g11, g14, g15, g16, g112, g113, ee, decide_eq_true (rfl : (C.length : Int) = (C.length : Int)), wk0, wk1, wk2, wk3, wk4, wk5, X_region, X_seq, X_block, X_loop, X_cond, Y_box, Y_un, Y_store, Y_append, Y_makeMap, Y_buildSlice, ibin_shl, ibin_shr, ibin_and, List.set_cons_zero, List.set_cons_succ, List.getD_cons_zero, List.getD_cons_succ, List.map_cons, List.map_nil, ↓reduceIte, reduceCtorEq, oneCell, List.length_cons, List.length_nil, setAt, readN, bne_iff_ne, ne_eq, Nat.reduceAdd, Nat.reduceLeDiff, List.getElem?_cons_zero, List.getElem?_cons_succ, Nat.reduceMul, Option.isSome_some, layAt, Nat.reduceLT, Option.isNone_some, Option.isNone_none, beq_self_eq_true, Nat.reduceEqDiff, setParams, Int.reduceLT, Int.reduceLE, Int.reduceGT, Int.reduceGE, Int.reduceEq, Int.reduceNe, Option.map_some, Option.map_none, Option.isSome_none]
    refine leaf1 ?_
    simp

theorem stampOrders_all (N : Nat) (ro : Nat → Option (List Value × Nat)) (vs : List Value) (ha : ArgsAre N ro 0 [.slice [.int .i64, .int .u64, .int .i64], .one (.int .i64)] vs) : (run env 1000 6 vs (fresh ro)).True := by
  match vs, ha with
  | [v0, v1], ha =>
    obtain ⟨p, len, cap, cells, bb, rfl, hbb, hg, hl, hm, hf⟩ := argIs_slice ha.1
    obtain ⟨l, hl1, rfl, hok⟩ := fits_list ic _ _ it_inv _ _ hf
    obtain ⟨r, rfl, _⟩ := ha.2.1
    exact run_true (stampOrders_run hbb hl1 hg).all
  | [], ha => exact ha.elim
  | [_], ha => exact ha.2.elim
  | _ :: _ :: _ :: _, ha => exact ha.2.2.elim
theorem own : ownKnob Try.prog.godebug = none := by kernel_rfl
theorem mixed : Try.prog.follows .mixedOrders = true := by kernel_rfl
theorem laid_out : laidOutB Try.prog = true := by kernel_rfl
theorem stampOrders_kinds : Try.f6.params.toList.mapM (pkOf Try.prog) = some [.slice [.int .i64, .int .u64, .int .i64], .one (.int .i64)] := by kernel_rfl
theorem stampOrders_reads : Try.f6.params.toList.all (fun t => Try.prog.readableRec t && decide (t < Try.prog.types.size)) = true := by kernel_rfl
theorem stampOrders_size : Try.f6.params.size = 2 := by kernel_rfl
theorem stampOrders_lifted (os : Os) (started : os.Started) (H : Type) (enc : TypeId × Value → H) :
    ReturnsInHanded {} Try.checked os 6 .any (Rows.stampOrdersSpec.pre6 enc Try.prog Try.f6 [] false) (Rows.stampOrdersSpec.post enc Try.prog Try.f6 false true false false) :=
  open_lifted (C := Try.checked) (n := 1000) own started (by kernel_rfl) Try.func6 (ChangeSpec.witness6 false ⟨#[], #[.slice none 0 0, .int .i64 0], []⟩ 8 (by kernel_rfl) (by kernel_rfl) (by kernel_rfl) (by kernel_rfl)) mixed env_ok laid_out stampOrders_kinds stampOrders_reads (by rfl) Try.underlying4 rfl
    (fun ds hds => by rw [stampOrders_size] at hds; match ds, hds with | [_, _], _ => rfl) stampOrders_all
theorem stampOrders_holds : Rows.StampOrdersSaid :=
  OpenClaim.holds_of_wide 6 Try.f6 rfl rfl rfl rfl rfl rfl rfl ⟨rfl, rfl, rfl, rfl, rfl⟩ rfl rfl rfl rfl rfl (by kernel_rfl) Try.func6 (by kernel_rfl)
    (of_decide_eq_true (by kernel_rfl)) (by unfold Func.isWrapper; rw [if_neg (of_decide_eq_false (by kernel_rfl))]; exact ⟨rfl, rfl⟩)
    (fun os started H enc _ => by rw [OpenClaim.pre_of_none rfl]; exact stampOrders_lifted os started H enc)

end Go.Proofs.Ytlhocgeppgdopaa
