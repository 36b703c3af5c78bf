/-
  The bytes of a message, without complements.
-/
import Derived.Test.YtpodmgbnldmlcaaDoorFk
import Derived.Test.YtpodmgbnldmlcaaDoorYld
namespace Go.Proofs.YtpodmgbnldmlcaaDoor
open Go Go.Ideal Go.ChangeShapes Go.RowKit
set_option maxHeartbeats 0
set_option linter.unusedSimpArgs false
set_option linter.unusedVariables false
set_option maxRecDepth 100000
attribute [local irreducible] callV T.All T.Is run
/-- The bytes of a message. -/
def plainB (m : Msg) (l : List Cl) : List Nat := ub m.kd :: (row m.kd).flatMap (fb m l)
theorem fb_zero (m : Msg) (l : List Cl) : fb m l 0 = [] := rfl
theorem fb_len {m : Msg} {l : List Cl} (hl : l.length ≤ 16) (f : Int) : (fb m l f).length ≤ 97 := by
  unfold fb
  have := clb_len l
  repeat' split
  all_goals (simp only [be_len, List.length_cons, List.length_nil]; omega)
theorem fbs_len {m : Msg} {l : List Cl} (hl : l.length ≤ 16) : ∀ F : List Int, (F.flatMap (fb m l)).length ≤ 97 * F.length
  | [] => Nat.le_refl _
  | f :: F => by
    have h1 := fb_len (m := m) hl f
    have h2 := fbs_len (m := m) hl F
    rw [List.flatMap_cons, List.length_append, List.length_cons]; omega
theorem fbs_take {m : Msg} {l : List Cl} {j : Nat} (hj : j ≤ 5) (hz : j = 5 ∨ (row m.kd).getD j 0 = 0) : ((row m.kd).take j).flatMap (fb m l) = (row m.kd).flatMap (fb m l) := by
  have e : (row m.kd).flatMap (fb m l) = ((row m.kd).take j).flatMap (fb m l) ++ ((row m.kd).drop j).flatMap (fb m l) := by rw [← List.flatMap_append, List.take_append_drop]
  have e2 : ((row m.kd).drop j).flatMap (fb m l) = [] := by
    rw [List.flatMap_eq_nil_iff]
    intro f hf
    obtain ⟨i, hi⟩ := List.getElem?_of_mem hf
    rw [List.getElem?_drop] at hi
    have hlt := (List.getElem?_eq_some_iff.1 hi).1
    rw [row_len] at hlt
    rcases hz with hz | hz
    · omega
    · have := row_zero m.kd j (by omega) (j + i) hlt (by omega) hz
      rw [List.getD_eq_getElem?_getD, hi] at this
      have this : f = 0 := this
      rw [this, fb_zero]
  rw [e, e2, List.append_nil]
/-- A slice of bytes, with its box. -/
def Bx (vb : Nat) (t : List Nat) : Rs := Rs.ex fun v => Rs.star (Ob vb (.cells [v] 1 false)) (Sc 1 bc v t)
section
variable {ro : Nat → Option (List Value × Nat)} {h : Heap} {R : List Rs} {m : Msg} {l : List Cl}
theorem Has.bx {vb : Nat} {t : List Nat} : Has ro h (Bx vb t :: R) ↔ ∃ v, Has ro h (Ob vb (.cells [v] 1 false) :: Sc 1 bc v t :: R) := by
  unfold Bx
  rw [Has.ex]
  constructor
  · rintro ⟨v, O⟩; exact ⟨v, Has.star.1 O⟩
  · rintro ⟨v, O⟩; exact ⟨v, Has.star.2 O⟩
end
end Go.Proofs.YtpodmgbnldmlcaaDoor
