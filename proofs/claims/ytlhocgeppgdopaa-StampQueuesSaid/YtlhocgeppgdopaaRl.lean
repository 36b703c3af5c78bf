/-
  Two queues that hold the same waiters: one in order, one as they came.
-/
import Derived.Test.YtlhocgeppgdopaaFk
import Derived.Test.YtlhocgeppgdopaaRa
namespace Go.Proofs.Ytlhocgeppgdopaa
open Go Go.Ideal Go.ChangeShapes Go.RowKit
set_option maxHeartbeats 0
set_option linter.unusedSimpArgs false
set_option linter.unusedVariables false
set_option maxRecDepth 100000
attribute [local irreducible] callV T.All T.Is run

def Apart (l : List It) : Prop := l.Pairwise fun x y => x.r ≠ y.r
def InOrder (l : List It) : Prop := l.Pairwise le
theorem nth_el {l : List It} {i : Nat} (h : i < l.length) : nth l i = l[i] := by
  have := nth_get h
  rw [List.getElem?_eq_getElem h] at this
  exact (Option.some.inj this).symm
theorem dist_apart {l : List It} : Dist l ↔ Apart l := by
  unfold Dist Apart
  rw [List.pairwise_iff_getElem]
  constructor
  · intro h i j hi hj hij
    rw [← nth_el hi, ← nth_el hj]
    exact h i j hij hj
  · intro h i j hij hj
    rw [nth_el (by omega), nth_el hj]
    exact h i j (by omega) hj hij
theorem sorted_order {l : List It} : Sorted l 0 l.length ↔ InOrder l := by
  unfold Sorted InOrder
  rw [List.pairwise_iff_getElem]
  constructor
  · intro h i j hi hj hij
    rw [← nth_el hi, ← nth_el hj]
    exact h i j (by omega) hij hj
  · intro h i j _ hij hj
    rw [nth_el (by omega), nth_el hj]
    exact h i j (by omega) hj hij
theorem apart_perm {a b : List It} (p : a.Perm b) (h : Apart a) : Apart b := (p.pairwise_iff (fun h => Ne.symm h)).1 h
theorem erase_perm : ∀ {l : List It} {i : Nat}, i < l.length → l.Perm (nth l i :: l.eraseIdx i)
  | [], i, h => by simp at h
  | a :: l, 0, h => List.Perm.refl _
  | a :: l, i + 1, h => ((erase_perm (l := l) (i := i) (by simpa using h)).cons a).trans (List.Perm.swap _ _ _)
theorem set_perm : ∀ {l : List It} {i : Nat}, i < l.length → ∀ (w : It), (l.set i w).Perm (w :: l.eraseIdx i)
  | [], i, h, w => by simp at h
  | a :: l, 0, h, w => List.Perm.refl _
  | a :: l, i + 1, h, w => ((set_perm (l := l) (i := i) (by simpa using h) w).cons a).trans (List.Perm.swap _ _ _)

structure Rel (A B : List It) : Prop where
  order : InOrder A
  apart : Apart A
  perm : A.Perm B
  few : A.length ≤ 8

theorem erase_rel {A B : List It} {i j : Nat} (p : A.Perm B) (hi : i < A.length) (hj : j < B.length) (e : nth A i = nth B j) : (A.eraseIdx i).Perm (B.eraseIdx j) := by
  have h1 := ((erase_perm hi).symm.trans p).trans (erase_perm hj)
  rw [e] at h1
  exact (List.perm_cons _).1 h1
theorem set_rel {A B : List It} {i j : Nat} {w : It} (p : A.Perm B) (hi : i < A.length) (hj : j < B.length) (e : nth A i = nth B j) : (A.set i w).Perm (B.set j w) :=
  ((set_perm hi w).trans ((erase_rel p hi hj e).cons w)).trans (set_perm hj w).symm
theorem set_apart {A : List It} {i : Nat} {w : It} (h : Apart A) (hi : i < A.length) (e : w.r = (nth A i).r) : Apart (A.set i w) := by
  have h1 := apart_perm (erase_perm hi) h
  unfold Apart at h1
  rw [List.pairwise_cons] at h1
  refine apart_perm (set_perm hi w).symm ?_
  unfold Apart
  rw [List.pairwise_cons]
  exact ⟨fun z hz => by rw [e]; exact h1.1 z hz, h1.2⟩
theorem place_rel {A B : List It} {r k k' : Int} (h : Apart A) (p : A.Perm B) (h1 : IsPlace A r k) (h2 : IsPlace B r k') : (k = -1 ∧ k' = -1) ∨ ∃ i j : Nat, k = (i : Int) ∧ k' = (j : Int) ∧ i < A.length ∧ j < B.length ∧ nth A i = nth B j ∧ (nth A i).r = r := by
  rcases h1 with ⟨rfl, n1⟩ | ⟨i, rfl, hi, hr, n1⟩ <;> rcases h2 with ⟨rfl, n2⟩ | ⟨j, rfl, hj, hr2, n2⟩
  · exact Or.inl ⟨rfl, rfl⟩
  · obtain ⟨k, hk, e⟩ := mem_nth (p.mem_iff.2 (nth_mem hj))
    exact absurd (by rw [e]; exact hr2) (n1 k hk)
  · obtain ⟨k, hk, e⟩ := mem_nth (p.mem_iff.1 (nth_mem hi))
    exact absurd (by rw [e]; exact hr) (n2 k hk)
  · refine Or.inr ⟨i, j, rfl, rfl, hi, hj, ?_, hr⟩
    obtain ⟨k, hk, e⟩ := mem_nth (p.mem_iff.2 (nth_mem hj))
    have hd := dist_apart.2 h
    rcases Nat.lt_trichotomy i k with g | g | g
    · exact absurd (by rw [hr, e, hr2]) (hd i k g hk)
    · subst g; exact e
    · exact absurd (by rw [hr, e, hr2]) (hd k i g hi)
theorem count_perm {a b : List It} (h : ∀ y, a.count y = b.count y) : a.Perm b := List.perm_iff_count.2 h

theorem put_rel {A B A' B' : List It} {x : It} {a a2 : Bool} {e e2 : Int} (R : Rel A B) (hp : PutIs A x a e A') (hq : RPutIs B x a2 e2 B') : a = a2 ∧ e = e2 ∧ Rel A' B' := by
  have hl := R.perm.length_eq
  rcases hp with ⟨b, rfl, rfl, rfl⟩ | ⟨b, pA, h8, rfl, rfl, rfl⟩ | ⟨b, rfl, rfl, l2, pt, q1, q2, q3⟩ <;> rcases hq with ⟨c, rfl, rfl, rfl⟩ | ⟨c, pB, g8, rfl, rfl, rfl⟩ | ⟨c, rfl, rfl, pt2⟩
  · exact ⟨rfl, rfl, R⟩
  · exact absurd b c
  · exact absurd b c
  · exact absurd c b
  · exact ⟨rfl, rfl, R⟩
  · exfalso
    rcases pt2 with ⟨_, h, _⟩ | ⟨j, pB, hj, _⟩
    · omega
    · rcases place_rel R.apart R.perm pA pB with ⟨_, h⟩ | ⟨_, _, h, _⟩ <;> omega
  · exact absurd c b
  · exfalso
    rcases pt with ⟨_, h, _⟩ | ⟨j, pA, hj, _⟩
    · omega
    · rcases place_rel R.apart R.perm pA pB with ⟨h, _⟩ | ⟨_, _, _, h, _⟩ <;> omega
  · refine ⟨rfl, rfl, ?_⟩
    have hA' := count_perm q2
    rcases pt with ⟨pA, hA8, rfl⟩ | ⟨i, pA, hi, hset⟩ <;> rcases pt2 with ⟨pB, hB8, rfl⟩ | ⟨j, pB, hj, hset2⟩
    · refine ⟨sorted_order.1 q3, apart_perm hA'.symm ?_, hA'.trans (R.perm.append_right _), by rw [q1, List.length_append]; simp; omega⟩
      unfold Apart
      rw [List.pairwise_append]
      refine ⟨R.apart, List.pairwise_singleton _ _, fun y hy z hz => ?_⟩
      rw [List.mem_singleton] at hz
      subst hz
      rcases pA with ⟨_, no⟩ | ⟨_, h, _⟩
      · obtain ⟨k, hk, rfl⟩ := mem_nth hy
        exact no k hk
      · omega
    · rcases place_rel R.apart R.perm pA pB with ⟨_, h⟩ | ⟨_, _, h, _⟩ <;> omega
    · rcases place_rel R.apart R.perm pA pB with ⟨h, _⟩ | ⟨_, _, _, h, _⟩ <;> omega
    · rcases place_rel R.apart R.perm pA pB with ⟨h, _⟩ | ⟨i', j', h1, h2, hi', hj', en, hr⟩
      · omega
      have e1 : i' = i := by omega
      have e2 : j' = j := by omega
      subst e1 e2
      rcases hset with ⟨hlt, rfl⟩ | ⟨hlt, rfl⟩ <;> rcases hset2 with ⟨hlt2, rfl⟩ | ⟨hlt2, rfl⟩
      · exact ⟨sorted_order.1 q3, apart_perm hA'.symm (set_apart R.apart hi' hr.symm), hA'.trans (set_rel R.perm hi' hj' en), by rw [q1, List.length_set]; exact R.few⟩
      · rw [en] at hlt; exact absurd hlt hlt2
      · rw [en] at hlt; exact absurd hlt2 hlt
      · exact ⟨sorted_order.1 q3, apart_perm hA'.symm R.apart, hA'.trans R.perm, by rw [q1]; exact R.few⟩

theorem cut_rel {A B A' B' : List It} {r : Int} {a a2 : Bool} (R : Rel A B) (hp : CutIs A r a A') (hq : CutIs B r a2 B') : a = a2 ∧ Rel A' B' := by
  rcases hp with ⟨rfl, pA, rfl⟩ | ⟨rfl, i, pA, hi, rfl⟩ <;> rcases hq with ⟨rfl, pB, rfl⟩ | ⟨rfl, j, pB, hj, rfl⟩
  · exact ⟨rfl, R⟩
  · rcases place_rel R.apart R.perm pA pB with ⟨_, h⟩ | ⟨_, _, h, _⟩ <;> omega
  · rcases place_rel R.apart R.perm pA pB with ⟨h, _⟩ | ⟨_, _, _, h, _⟩ <;> omega
  · rcases place_rel R.apart R.perm pA pB with ⟨h, _⟩ | ⟨i', j', h1, h2, hi', hj', en, hr⟩
    · omega
    have e1 : i' = i := by omega
    have e2 : j' = j := by omega
    subst e1 e2
    have s := List.eraseIdx_sublist A i'
    exact ⟨rfl, R.order.sublist s, R.apart.sublist s, erase_rel R.perm hi' hj' en, Nat.le_trans s.length_le R.few⟩

theorem raise_rel {A B A' B' : List It} {r p : Int} {a a2 : Bool} (R : Rel A B) (hp : RaiseIs A r p a A') (hq : (a2 = false ∧ NoRaise B r p ∧ B' = B) ∨ (a2 = true ∧ RaiseTo B r p B')) : a = a2 ∧ Rel A' B' := by
  have key : ∀ {i : Nat}, IsPlace A r (i : Int) → i < A.length → p ≤ 15 → (nth A i).p < p → NoRaise B r p → False := by
    intro i pA hi h15 hlt hno
    rcases hno with pB | ⟨j, pB, hj, hh⟩
    · rcases place_rel R.apart R.perm pA pB with ⟨h, _⟩ | ⟨_, _, _, h, _⟩ <;> omega
    · rcases place_rel R.apart R.perm pA pB with ⟨h, _⟩ | ⟨i', j', h1, h2, hi', hj', en, hr⟩
      · omega
      have e1 : i' = i := by omega
      have e2 : j' = j := by omega
      subst e1 e2
      rw [en] at hlt
      omega
  rcases hp with ⟨rfl, nA, rfl⟩ | ⟨rfl, l2, ⟨i, pA, hi, h15, hlt, rfl⟩, q1, q2, q3⟩ <;> rcases hq with ⟨rfl, nB, rfl⟩ | ⟨rfl, j, pB, hj, g15, glt, rfl⟩
  · exact ⟨rfl, R⟩
  · exfalso
    rcases nA with pA | ⟨i, pA, hi, hh⟩
    · rcases place_rel R.apart R.perm pA pB with ⟨_, h⟩ | ⟨_, _, h, _⟩ <;> omega
    · rcases place_rel R.apart R.perm pA pB with ⟨h, _⟩ | ⟨i', j', h1, h2, hi', hj', en, hr⟩
      · omega
      have e1 : i' = i := by omega
      have e2 : j' = j := by omega
      subst e1 e2
      rw [en] at hh
      omega
  · exact (key pA hi h15 hlt nB).elim
  · rcases place_rel R.apart R.perm pA pB with ⟨h, _⟩ | ⟨i', j', h1, h2, hi', hj', en, hr⟩
    · omega
    have e1 : i' = i := by omega
    have e2 : j' = j := by omega
    subst e1 e2
    have hA' := count_perm q2
    refine ⟨rfl, sorted_order.1 q3, apart_perm hA'.symm (set_apart R.apart hi' rfl), hA'.trans ?_, by rw [q1, List.length_set]; exact R.few⟩
    rw [← en]
    exact set_rel R.perm hi' hj' en
end Go.Proofs.Ytlhocgeppgdopaa
