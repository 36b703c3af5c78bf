/-
  Heaps of items: what stands in them, and where.
-/
import Derived.Test.YtafaefeekilclaaIt
namespace Go.Proofs.Ytafaefeekilclaa
open Go Go.Ideal
set_option maxHeartbeats 0
set_option linter.unusedSimpArgs false
set_option linter.unusedVariables false

def it0 : It := ⟨0, 0, 0⟩
def nth (l : List It) (k : Nat) : It := l.getD k it0

theorem nth_get {l : List It} {k : Nat} (h : k < l.length) : l[k]? = some (nth l k) := by
  unfold nth
  rw [List.getD_eq_getElem?_getD, List.getElem?_eq_getElem h]
  rfl
theorem nth_set {l : List It} {i k : Nat} {x : It} (hi : i < l.length) : nth (l.set i x) k = if k = i then x else nth l k := by
  unfold nth
  rw [List.getD_eq_getElem?_getD, List.getD_eq_getElem?_getD, List.getElem?_set]
  by_cases h : i = k
  · subst h; simp [hi]
  · rw [if_neg h, if_neg (Ne.symm h)]
theorem nth_append_left {l m : List It} {k : Nat} (h : k < l.length) : nth (l ++ m) k = nth l k := by
  unfold nth
  rw [List.getD_eq_getElem?_getD, List.getD_eq_getElem?_getD, List.getElem?_append_left h]
theorem nth_dropLast {l : List It} {k : Nat} (h : k < l.length - 1) : nth l.dropLast k = nth l k := by
  unfold nth
  rw [List.getD_eq_getElem?_getD, List.getD_eq_getElem?_getD, List.getElem?_dropLast, if_pos h]

def one (p : Prop) [Decidable p] : Nat := if p then 1 else 0

theorem cnt_set {l : List It} {i : Nat} {x : It} (y : It) (hi : i < l.length) : (l.set i x).count y + one (nth l i = y) = l.count y + one (x = y) := by
  have h1 := List.count_set (l := l) (i := i) (a := x) (b := y) hi
  have h2 : l[i] = nth l i := by
    have := nth_get hi
    rw [List.getElem?_eq_getElem hi] at this
    exact Option.some.inj this
  rw [h2] at h1
  have h3 : nth l i = y → 0 < l.count y := by
    rintro rfl
    exact List.count_pos_iff.2 (by rw [← h2]; exact List.getElem_mem hi)
  unfold one
  rw [h1]
  by_cases e1 : nth l i = y <;> by_cases e2 : x = y <;> simp [e1, e2] <;> (have := h3 e1; omega)

theorem cnt_append (l m : List It) (y : It) : (l ++ m).count y = l.count y + m.count y := List.count_append
theorem cnt_single (x y : It) : [x].count y = one (x = y) := by
  unfold one
  by_cases e : x = y <;> simp [e]
theorem cnt_cons (x : It) (l : List It) (y : It) : (x :: l).count y = l.count y + one (x = y) := by
  unfold one
  rw [List.count_cons]
  by_cases e : x = y <;> simp [e]

def IsHeap (l : List It) : Prop := ∀ k, 0 < k → k < l.length → le (nth l ((k - 1) / 2)) (nth l k)

theorem heap_nil : IsHeap [] := fun k _ h => by simp at h
theorem heap_top {l : List It} (h : IsHeap l) : ∀ (k : Nat), k < l.length → le (nth l 0) (nth l k) := by
  intro k
  induction k using Nat.strongRecOn with
  | _ k ih =>
    intro hk
    by_cases h0 : k = 0
    · subst h0; exact le_refl _
    · exact le_trans (ih ((k - 1) / 2) (by omega) (by omega)) (h k (by omega) hk)
theorem heap_least {l : List It} (h : IsHeap l) {y : It} (hy : 0 < l.count y) : le (nth l 0) y := by
  obtain ⟨k, hk, rfl⟩ := List.mem_iff_getElem.1 (List.count_pos_iff.1 hy)
  have := heap_top h k hk
  have h2 := nth_get hk
  rw [List.getElem?_eq_getElem hk] at h2
  rw [Option.some.inj h2]
  exact this

/-- An item goes up: what holds while it does. -/
structure Up (l : List It) (x : It) (a : List It) (i : Nat) : Prop where
  len : a.length = l.length + 1
  lt : i < a.length
  cnt : ∀ y, (a.set i x).count y = l.count y + one (x = y)
  heap : ∀ k, 0 < k → k < a.length → k ≠ i → (k - 1) / 2 ≠ i → le (nth a ((k - 1) / 2)) (nth a k)
  kids : ∀ k, 0 < k → k < a.length → (k - 1) / 2 = i → le x (nth a k)
  grand : 0 < i → ∀ k, 0 < k → k < a.length → (k - 1) / 2 = i → le (nth a ((i - 1) / 2)) (nth a k)

theorem Up.start {l : List It} (h : IsHeap l) (x : It) : Up l x (l ++ [x]) l.length := by
  have hl : (l ++ [x]).length = l.length + 1 := by simp
  refine ⟨hl, by omega, fun y => ?_, fun k h0 h1 h2 h3 => ?_, fun k h0 h1 h2 => by omega, fun _ k h0 h1 h2 => by omega⟩
  · have := cnt_set (l := l ++ [x]) (i := l.length) (x := x) y (by omega)
    have hx : nth (l ++ [x]) l.length = x := by
      unfold nth; rw [List.getD_eq_getElem?_getD, List.getElem?_append_right (Nat.le_refl _)]; simp
    rw [hx, cnt_append, cnt_single] at this
    omega
  · rw [nth_append_left (by omega), nth_append_left (by omega)]
    exact h k h0 (by omega)

theorem Up.step {l a : List It} {x : It} {i : Nat} (u : Up l x a i) (hi : 0 < i) (hx : ¬ le (nth a ((i - 1) / 2)) x) : Up l x (a.set i (nth a ((i - 1) / 2))) ((i - 1) / 2) := by
  obtain ⟨len, lt, cnt, heap, kids, grand⟩ := u
  have hp : (i - 1) / 2 < a.length := by omega
  have hpi : (i - 1) / 2 ≠ i := by omega
  have hlx : le x (nth a ((i - 1) / 2)) := (le_total _ _).resolve_right hx
  refine ⟨by simpa using len, by simpa using hp, fun y => ?_, fun k h0 h1 h2 h3 => ?_, fun k h0 h1 h2 => ?_, fun hp0 k h0 h1 h2 => ?_⟩
  · have c1 := cnt_set (l := a.set i (nth a ((i - 1) / 2))) (i := (i - 1) / 2) (x := x) y (by simpa using hp)
    have c2 := cnt_set (l := a) (i := i) (x := nth a ((i - 1) / 2)) y lt
    have c3 := cnt_set (l := a) (i := i) (x := x) y lt
    rw [nth_set lt, if_neg hpi] at c1
    have := cnt y
    omega
  · rw [List.length_set] at h1
    rw [nth_set lt, nth_set lt]
    by_cases e1 : k = i
    · subst e1; exact absurd rfl h3
    · by_cases e2 : (k - 1) / 2 = i
      · rw [if_pos e2, if_neg e1]
        exact grand hi k h0 h1 e2
      · rw [if_neg e2, if_neg e1]
        exact heap k h0 h1 e1 e2
  · rw [List.length_set] at h1
    rw [nth_set lt]
    by_cases e1 : k = i
    · rw [if_pos e1]; exact hlx
    · rw [if_neg e1]
      have := heap k h0 h1 e1 (by omega)
      rw [h2] at this
      exact le_trans hlx this
  · rw [List.length_set] at h1
    rw [nth_set lt, nth_set lt, if_neg (by omega)]
    have hg := heap ((i - 1) / 2) hp0 hp hpi (by omega)
    by_cases e1 : k = i
    · rw [if_pos e1]; exact hg
    · rw [if_neg e1]
      have := heap k h0 h1 e1 (by omega)
      rw [h2] at this
      exact le_trans hg this

theorem Up.done {l a : List It} {x : It} {i : Nat} (u : Up l x a i) (hi : 0 < i → le (nth a ((i - 1) / 2)) x) : IsHeap (a.set i x) ∧ (a.set i x).length = l.length + 1 ∧ ∀ y, (a.set i x).count y = l.count y + one (x = y) := by
  obtain ⟨len, lt, cnt, heap, kids, grand⟩ := u
  refine ⟨fun k h0 h1 => ?_, by simpa using len, cnt⟩
  rw [List.length_set] at h1
  rw [nth_set lt, nth_set lt]
  by_cases e1 : k = i
  · subst e1
    rw [if_pos rfl, if_neg (by omega)]
    exact hi h0
  · rw [if_neg e1]
    by_cases e2 : (k - 1) / 2 = i
    · rw [if_pos e2]; exact kids k h0 h1 e2
    · rw [if_neg e2]; exact heap k h0 h1 e1 e2

/-- An item goes down: what holds while it does. -/
structure Down (m : It → Nat) (n : Nat) (x : It) (a : List It) (i : Nat) : Prop where
  len : a.length = n
  lt : i < a.length
  cnt : ∀ y, (a.set i x).count y = m y
  heap : ∀ k, 0 < k → k < a.length → k ≠ i → (k - 1) / 2 ≠ i → le (nth a ((k - 1) / 2)) (nth a k)
  up : 0 < i → le (nth a ((i - 1) / 2)) x
  grand : 0 < i → ∀ k, 0 < k → k < a.length → (k - 1) / 2 = i → le (nth a ((i - 1) / 2)) (nth a k)

theorem Down.step {m : It → Nat} {n : Nat} {a : List It} {x : It} {i j : Nat} (u : Down m n x a i) (hj : (j - 1) / 2 = i) (hj0 : 0 < j) (hjl : j < a.length) (hmin : ∀ k, 0 < k → k < a.length → (k - 1) / 2 = i → le (nth a j) (nth a k)) (hx : ¬ le x (nth a j)) : Down m n x (a.set i (nth a j)) j := by
  obtain ⟨len, lt, cnt, heap, up, grand⟩ := u
  have hji : j ≠ i := by omega
  refine ⟨by simpa using len, by simpa using hjl, fun y => ?_, fun k h0 h1 h2 h3 => ?_, fun _ => ?_, fun _ k h0 h1 h2 => ?_⟩
  · have c1 := cnt_set (l := a.set i (nth a j)) (i := j) (x := x) y (by simpa using hjl)
    have c2 := cnt_set (l := a) (i := i) (x := nth a j) y lt
    have c3 := cnt_set (l := a) (i := i) (x := x) y lt
    rw [nth_set lt, if_neg hji] at c1
    have := cnt y
    omega
  · rw [List.length_set] at h1
    rw [nth_set lt, nth_set lt]
    by_cases e1 : k = i
    · subst e1
      rw [if_pos rfl, if_neg (by omega)]
      exact grand h0 j hj0 hjl hj
    · rw [if_neg e1]
      by_cases e2 : (k - 1) / 2 = i
      · rw [if_pos e2]; exact hmin k h0 h1 e2
      · rw [if_neg e2]; exact heap k h0 h1 e1 e2
  · rw [nth_set lt, if_pos hj]
    exact (le_total _ _).resolve_right hx
  · rw [List.length_set] at h1
    rw [nth_set lt, nth_set lt, if_pos hj, if_neg (by omega)]
    have := heap k h0 h1 (by omega) (by omega)
    rw [h2] at this
    exact this

theorem Down.done {m : It → Nat} {n : Nat} {a : List It} {x : It} {i : Nat} (u : Down m n x a i) (hk : ∀ k, 0 < k → k < a.length → (k - 1) / 2 = i → le x (nth a k)) : IsHeap (a.set i x) ∧ (a.set i x).length = n ∧ ∀ y, (a.set i x).count y = m y := by
  obtain ⟨len, lt, cnt, heap, up, grand⟩ := u
  refine ⟨fun k h0 h1 => ?_, by simpa using len, cnt⟩
  rw [List.length_set] at h1
  rw [nth_set lt, nth_set lt]
  by_cases e1 : k = i
  · subst e1
    rw [if_pos rfl, if_neg (by omega)]
    exact up h0
  · rw [if_neg e1]
    by_cases e2 : (k - 1) / 2 = i
    · rw [if_pos e2]; exact hk k h0 h1 e2
    · rw [if_neg e2]; exact heap k h0 h1 e1 e2

theorem Down.start {l : List It} (h : IsHeap l) (hl : 1 < l.length) : Down (fun y => l.count y - one (nth l 0 = y)) (l.length - 1) (nth l (l.length - 1)) l.dropLast 0 := by
  have hd : l.dropLast.length = l.length - 1 := by simp
  refine ⟨hd, by omega, fun y => ?_, fun k h0 h1 h2 h3 => ?_, fun h => absurd h (Nat.lt_irrefl _), fun h => absurd h (Nat.lt_irrefl _)⟩
  · have c1 := cnt_set (l := l.dropLast) (i := 0) (x := nth l (l.length - 1)) y (by omega)
    rw [nth_dropLast (by omega)] at c1
    have hne : l ≠ [] := by rintro rfl; simp at hl
    have c2 : l.dropLast.count y + one (nth l (l.length - 1) = y) = l.count y := by
      conv => rhs; rw [← List.dropLast_concat_getLast hne]
      rw [cnt_append, cnt_single]
      have : l.getLast hne = nth l (l.length - 1) := by
        have h2 := nth_get (l := l) (k := l.length - 1) (by omega)
        rw [List.getLast_eq_getElem]
        rw [List.getElem?_eq_getElem (by omega)] at h2
        exact Option.some.inj h2
      rw [this]
    omega
  · rw [nth_dropLast (by omega), nth_dropLast (by omega)]
    exact h k h0 (by omega)
end Go.Proofs.Ytafaefeekilclaa
