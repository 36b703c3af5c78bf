/-
  The bytes of a message's fields, one field after another.
-/
import Derived.Test.YtpodmgbnldmlcaaDoorFk
import Derived.Test.YtpodmgbnldmlcaaDoorChk
namespace Go.Proofs.YtpodmgbnldmlcaaDoor
open Go Go.Ideal Go.ChangeShapes Go.RowKit
set_option maxHeartbeats 0
set_option linter.unusedSimpArgs false
set_option linter.unusedVariables false
set_option maxRecDepth 100000
attribute [local irreducible] callV T.All T.Is run

/-- The lowest byte of a number. -/
def ub (x : Int) : Nat := (x % 256).toNat
theorem u8_ub (x : Int) : IntKind.u8.wrap x = ((ub x : Nat) : Int) := by
  rw [u8_wrap]; unfold ub; omega
theorem u64_of {x : Int} (h : 0 ≤ x) (h2 : x < 18446744073709551616) : IntKind.u64.wrap x = ((x.toNat : Nat) : Int) := by
  simp only [IntKind.wrap, IntKind.bits, IntKind.signed, Bool.false_and, Int.reducePow, Bool.false_eq_true, ↓reduceIte]
  omega
/-- The bytes of a claim. -/
def clb (c : Cl) : List Nat := be c.c.toNat 2 ++ be c.g 4
/-- The bytes of a field. -/
def fb (m : Msg) (l : List Cl) (f : Int) : List Nat :=
  if f = 1 then be m.cell.toNat 2 else if f = 2 then be m.gen 4 else if f = 3 then be m.stamp 8 else if f = 4 then [ub m.prio] else if f = 5 then [ub m.hops] else if f = 6 then [ub m.orig] else if f = 7 then [ub m.oth]
  else if f = 8 then ub (l.length : Int) :: l.flatMap clb else []
theorem clb_len : ∀ l : List Cl, (l.flatMap clb).length = 6 * l.length
  | [] => rfl
  | c :: l => by
    have := clb_len l
    have h : (clb c).length = 6 := by unfold clb; rw [List.length_append, be_len, be_len]
    rw [List.flatMap_cons, List.length_append, List.length_cons]; omega
/-- What a message's numbers must be for its bytes. -/
def Nums (m : Msg) (l : List Cl) : Prop := 0 ≤ m.cell ∧ m.cell ≤ 1023 ∧ m.gen < 4294967296 ∧ m.stamp < 18446744073709551616 ∧ l.length ≤ 16 ∧ ∀ j, j < l.length → 0 ≤ cel l j ∧ cel l j ≤ 1023 ∧ (l.getD j ⟨0, 0⟩).g < 4294967296
section
variable {ro : Nat → Option (List Value × Nat)} {h : Heap} {R : List Rs} {m : Msg} {l : List Cl}
theorem scOne {α : Type} {z : Nat} {g : α → List Value} {v : Value} {t : List α} (O : Has ro h R) (i : Nat) (hi : R[i]? = some (Sc z g v t)) : cellsOf v = [v] ∧ oneCell v = true := by
  obtain ⟨p, c, rfl, _⟩ := O.scVal i hi
  exact ⟨rfl, rfl⟩
theorem unord_ne {an : List (List Nat)} {i k : Nat} (h : unord an i k = true) : k ≠ i := by
  unfold unord at h
  simp only [Bool.and_eq_true, bne_iff_ne, ne_eq] at h
  exact fun e => h.1.1 e.symm
theorem fr_ok {i n m xb : Nat} (hx : xb < 2 * n) : ∀ x ∈ (if n < m then (i, n, m) :: ([] : List (Nat × Nat × Nat)) else []), xb / 2 < x.2.1 ∨ x.2.2 ≤ xb / 2 := by
  intro x hx2
  split at hx2
  · simp at hx2; subst hx2; exact Or.inl (by show xb / 2 < n; omega)
  · cases hx2
theorem Dp.conv {env : Env} {n fuel : Nat} {ar : Option Nat} {asx plan : List (List Nat)} {i : Nat} {fr : List (Nat × Nat × Nat)} {tm : List Value} {df : List Nat} {h : Heap} {K : List Fr} {Q : IExit × St → Prop} {r : List IOper} {d : Option Nat} {anc : List Nat} {bar : Bool} {k k' : IntKind} {x : Opd} {a b : Int} (hx : x.eval tm = .int k' a) (hw : k.wrap a = b)
    (kk : Dp env n fuel ar asx plan r (i + 1) fr (putDst tm d (.int k b)) df h K Q) : Dp env n fuel ar asx plan (⟨d, .conv k x, none, anc, bar⟩ :: r) i fr tm df h K Q := by
  refine Dp.pure rfl ?_ kk
  simp only [IOp.run, hx, hw]

end
end Go.Proofs.YtpodmgbnldmlcaaDoor
