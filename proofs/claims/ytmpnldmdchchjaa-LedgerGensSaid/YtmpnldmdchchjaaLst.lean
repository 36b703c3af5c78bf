/-
  A queue of waiters: raising, finding, listing.
-/
import Derived.Test.YtmpnldmdchchjaaPut
namespace Go.Proofs.Ytmpnldmdchchjaa
open Go Go.Ideal Go.ChangeShapes Go.RowKit
set_option maxHeartbeats 0
set_option linter.unusedSimpArgs false
set_option linter.unusedVariables false
set_option maxRecDepth 100000
attribute [local irreducible] callV T.All T.Is run

/-- A list that can be read. -/
def View (h : Heap) (v : Value) (l : List It) : Prop := ∃ p c, v = .slice p l.length c ∧ (0 < l.length → ∃ b sp rest zz t, p = some ⟨b, 0, sp⟩ ∧ (b % 2 = 1 ∨ b < 2 * h.next) ∧ h.get b = some (.cells (l.flatMap ic ++ rest) zz t))

theorem View.ext {h h' : Heap} {v : Value} {l : List It} (V : View h v l) (e : Ext h h') : View h' v l := by
  obtain ⟨p, c, rfl, hb⟩ := V
  refine ⟨p, c, rfl, fun h0 => ?_⟩
  obtain ⟨b, sp, rest, zz, t, b1, b2, b3⟩ := hb h0
  exact ⟨b, sp, rest, zz, t, b1, by have := e.next; omega, (e.old b b2).trans b3⟩
/-- Where there are items, they can be read. -/
theorem View.rd {h : Heap} {v : Value} {l : List It} (V : View h v l) {i : Nat} (hi : i < l.length) : ∃ b c, (∃ sp, v = .slice (some ⟨b, 0, sp⟩) l.length c) ∧ ∀ k m, k + m ≤ 3 → readC (h.get b) (i * 3 + k) m = readN (ic (nth l i)) k m := by
  obtain ⟨p, c, rfl, hb⟩ := V
  obtain ⟨b, sp, rest, zz, t, rfl, b2, b3⟩ := hb (by omega)
  exact ⟨b, c, ⟨sp, rfl⟩, fun k m hk => rd_at ic_len (nth_get hi) b3 hk⟩

theorem slice_firstN {h : Heap} {b c : Nat} {sp : Option Nat} {l : List It} {rest : List Value} {zz : Nat} {t : Bool} (hg : h.get b = some (.cells (l.flatMap ic ++ rest) zz t)) : firstN h 3 l.length (.slice (some ⟨b, 0, sp⟩) l.length c) = some (l.flatMap ic) := by
  rw [firstN_slice]
  have hfl := flatMap_len ic_len l
  by_cases h0 : l.length * 3 = 0
  · rw [if_pos h0]
    have : l.flatMap ic = [] := List.eq_nil_of_length_eq_zero (by omega)
    rw [this]
  · rw [if_neg h0]
    show h.read ⟨b, 0, none⟩ (l.length * 3) = _
    rw [read_eq, hg]
    simp only [readC, readN]
    rw [if_pos (by rw [List.length_append]; omega), List.drop_zero, ← hfl, List.take_left']
    rfl

theorem QAt.view {h : Heap} {qb : Nat} {v : Value} {sb : Option Nat} {l : List It} (Q : QAt h qb v sb l) : View h v l := by
  rcases Q.sl with ⟨rfl, rfl, _⟩ | ⟨b, c, rest, rfl, b2, b3, b4, b5, b6, b7, b8⟩
  · exact ⟨none, 0, rfl, fun h => by simp at h⟩
  · exact ⟨_, c, rfl, fun _ => ⟨b, _, rest, 3, true, rfl, Or.inr b6, b8⟩⟩

end Go.Proofs.Ytmpnldmdchchjaa
