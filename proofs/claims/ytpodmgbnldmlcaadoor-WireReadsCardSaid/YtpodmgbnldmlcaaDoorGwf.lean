/-
  What the document guesses has well-formed numbers; every other byte.
-/
import Derived.Test.YtpodmgbnldmlcaaDoorFk
import Derived.Test.YtpodmgbnldmlcaaDoorGfo
namespace Go.Proofs.YtpodmgbnldmlcaaDoor
open Go Go.Ideal Go.ChangeShapes Go.RowKit
set_option maxHeartbeats 0
set_option linter.unusedSimpArgs false
set_option linter.unusedVariables false
set_option maxRecDepth 100000
def GInv (c : Nat) (x : Msg × List Cl × Nat) : Prop := x.1.gen < 4294967296 ∧ x.1.stamp < 18446744073709551616 ∧ (∀ a ∈ x.2.1, a.g < 4294967296) ∧ x.2.1.length ≤ c
section
variable {B : List Nat}
theorem gcl_g (hB : ∀ b ∈ B, b < 256) : ∀ n (x : List Cl × Nat), (∀ a ∈ x.1, a.g < 4294967296) → ∀ a ∈ (gcl B n x).1, a.g < 4294967296
  | 0, x, h => h
  | n + 1, x, h => by
    intro a ha
    have ha' : a ∈ (gcl B n x).1 ++ [⟨(gt B (gcl B n x).2 2 : Int), gt B ((gcl B n x).2 + 2) 4⟩] := ha
    rcases List.mem_append.1 ha' with ha | ha
    · exact gcl_g hB n x h a ha
    · rw [List.mem_singleton] at ha
      subst ha
      have := gt_lt (B := B) (pl := (gcl B n x).2 + 2) (k := 4) hB
      simpa using this
theorem gfl_inv (hB : ∀ b ∈ B, b < 256) {c : Nat} {x : Msg × List Cl × Nat} (f : Nat) (h : GInv c x) : GInv (c + 256) (gfl B x f) := by
  obtain ⟨h1, h2, h3, h4⟩ := h
  have g4 := gt_lt (B := B) (pl := x.2.2) (k := 4) hB
  have g8 := gt_lt (B := B) (pl := x.2.2) (k := 8) hB
  have g1 := gt_lt (B := B) (pl := x.2.2) (k := 1) hB
  simp only [Nat.reducePow] at g4 g8 g1
  unfold gfl
  repeat' split
  · exact ⟨h1, h2, h3, by simp only; omega⟩
  · exact ⟨g4, h2, h3, by simp only; omega⟩
  · exact ⟨h1, g8, h3, by simp only; omega⟩
  · exact ⟨h1, h2, h3, by simp only; omega⟩
  · exact ⟨h1, h2, h3, by simp only; omega⟩
  · exact ⟨h1, h2, h3, by simp only; omega⟩
  · exact ⟨h1, h2, h3, by simp only; omega⟩
  · exact ⟨h1, h2, h3, by simp only; omega⟩
  · refine ⟨h1, h2, gcl_g hB _ _ h3, ?_⟩
    have := (gcl_at B (gt B x.2.2 1) (x.2.1, x.2.2 + 1)).2
    simp only at this ⊢
    omega
theorem gfold_inv (hB : ∀ b ∈ B, b < 256) : ∀ (F : List Nat) {c : Nat} {x : Msg × List Cl × Nat}, GInv c x → GInv (c + 256 * F.length) (gfold B F x)
  | [], c, x, h => h
  | f :: F, c, x, h => by
    have := gfold_inv hB F (gfl_inv hB f h)
    rw [List.length_cons, show c + 256 * (F.length + 1) = c + 256 + 256 * F.length by omega]
    exact this
theorem guess_wf (hB : ∀ b ∈ B, b < 256) : WfP (guessP B) (guessM B).2.1 ∧ (guessM B).2.1.length ≤ 1280 := by
  have h := gfold_inv hB ((lt (gt B 18 1 : Int)).map ltf) (c := 0) (x := (mz (gt B 18 1 : Int), [], 19)) ⟨by show (0 : Nat) < _; omega, by show (0 : Nat) < _; omega, fun a ha => (by cases ha), Nat.le_refl _⟩
  have hl := (lt_mem ((gt B 18 1 : Nat) : Int)).1
  rw [List.length_map] at h
  obtain ⟨h1, h2, h3, h4⟩ := h
  have g : ∀ pl, gt B pl 4 < 4294967296 := fun pl => by have := gt_lt (B := B) (pl := pl) (k := 4) hB; simpa using this
  refine ⟨⟨g 2, g 6, g 10, g 14, h1, h2, fun j hj => ?_⟩, ?_⟩
  · rw [List.getD_eq_getElem?_getD, List.getElem?_eq_getElem hj]
    exact h3 _ (List.getElem_mem hj)
  · exact Nat.le_trans h4 (by omega)
end
/-- Every other byte. -/
def evs : List Nat → List Nat
  | [] => []
  | [x] => [x]
  | x :: _ :: r => x :: evs r
theorem evs_comp : ∀ A : List Nat, evs (comp A) = A
  | [] => rfl
  | x :: A => by
    show x :: evs (comp A) = _
    rw [evs_comp A]
theorem evs_len : ∀ B : List Nat, (evs B).length = (B.length + 1) / 2
  | [] => by simp [evs]
  | [_] => by simp [evs]
  | x :: y :: r => by
    show (evs r).length + 1 = _
    rw [evs_len r]
    simp only [List.length_cons]
    omega
theorem evs_get : ∀ (B : List Nat) (j : Nat), (evs B)[j]? = B[2 * j]?
  | [], j => by simp [evs]
  | [x], 0 => rfl
  | [x], j + 1 => by simp [evs]
  | x :: y :: r, 0 => rfl
  | x :: y :: r, j + 1 => by
    have := evs_get r j
    show (x :: evs r)[j + 1]? = _
    rw [show 2 * (j + 1) = 2 * j + 1 + 1 by omega]
    simpa using this
theorem evs_by : ∀ {B : List Nat}, (∀ b ∈ B, b < 256) → ∀ b ∈ evs B, b < 256 := by
  intro B h b hb
  obtain ⟨j, hj⟩ := List.getElem?_of_mem hb
  rw [evs_get] at hj
  exact h b (List.mem_of_getElem? hj)
end Go.Proofs.YtpodmgbnldmlcaaDoor
