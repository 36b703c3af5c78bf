/-
  How many bytes a packet has; the chapter's first example; what packets are as arguments.
-/
import Derived.Test.YtpodmgbnldmlcaaDoorFk
import Derived.Test.YtpodmgbnldmlcaaDoorByt
namespace Go.Proofs.YtpodmgbnldmlcaaDoor
open Go Go.Ideal Go.ChangeShapes Go.RowKit
set_option maxHeartbeats 0
set_option linter.unusedSimpArgs false
set_option linter.unusedVariables false
set_option maxRecDepth 100000
attribute [local irreducible] callV T.All T.Is run
section
variable {ro : Nat → Option (List Value × Nat)} {h : Heap} {R : List Rs} {m : Msg} {l : List Cl}
end

/-! What packets are as arguments. -/
theorem cl_kinds : dkOf Tryd.prog 8 54 = some [.flat (.int .i64), .flat (.int .u32)] := by kernel_rfl
theorem cl_size : Tryd.prog.cellsOf 54 = 2 := by kernel_rfl
theorem flat_i64 {d : Nat} {ro : Nat → Option (List Value × Nat)} {v : Value} (h : DFit Tryd.prog ro d (.flat (.int .i64)) v) : ∃ x : Int, v = .int .i64 x ∧ -9223372036854775808 ≤ x ∧ x ≤ 9223372036854775807 := by
  cases d <;> exact h
theorem flat_u32 {d : Nat} {ro : Nat → Option (List Value × Nat)} {v : Value} (h : DFit Tryd.prog ro d (.flat (.int .u32)) v) : ∃ x : Nat, v = .int .u32 (x : Int) ∧ x < 4294967296 := by
  have h' : ∃ x : Int, v = .int .u32 x ∧ 0 ≤ x ∧ x ≤ 4294967295 := by cases d <;> exact h
  obtain ⟨x, rfl, h1, h2⟩ := h'
  exact ⟨x.toNat, by rw [Int.toNat_of_nonneg h1], by omega⟩
theorem flat_u64 {d : Nat} {ro : Nat → Option (List Value × Nat)} {v : Value} (h : DFit Tryd.prog ro d (.flat (.int .u64)) v) : ∃ x : Nat, v = .int .u64 (x : Int) ∧ x < 18446744073709551616 := by
  have h' : ∃ x : Int, v = .int .u64 x ∧ 0 ≤ x ∧ x ≤ 18446744073709551615 := by cases d <;> exact h
  obtain ⟨x, rfl, h1, h2⟩ := h'
  exact ⟨x.toNat, by rw [Int.toNat_of_nonneg h1], by omega⟩
def mKinds : List DK := [.flat (.int .i64), .flat (.int .i64), .flat (.int .u32), .flat (.int .u64), .flat (.int .i64), .flat (.int .i64), .flat (.int .i64), .flat (.int .i64), .slice 54]
theorem cl_inv {ro : Nat → Option (List Value × Nat)} (vs : List Value) (h : Fits2 (DFit Tryd.prog ro 0) [.flat (.int .i64), .flat (.int .u32)] vs) : ∃ a : Cl, vs = cc a ∧ a.g < 4294967296 := by
  match vs, h with
  | [x, y], h =>
    obtain ⟨a, rfl, _⟩ := flat_i64 h.1
    obtain ⟨b, rfl, hb⟩ := flat_u32 h.2.1
    exact ⟨⟨a, b⟩, rfl, hb⟩
  | [], h => exact h.elim
  | [_], h => exact h.2.elim
  | _ :: _ :: _ :: _, h => exact h.2.2.elim
theorem f2_cons {p : DK → Value → Prop} {k : DK} {ks : List DK} {vs : List Value} (h : Fits2 p (k :: ks) vs) : ∃ v vs', vs = v :: vs' ∧ p k v ∧ Fits2 p ks vs' := by
  cases vs with
  | nil => exact h.elim
  | cons v vs => exact ⟨v, vs, rfl, h.1, h.2⟩
theorem f2_nil {p : DK → Value → Prop} {vs : List Value} (h : Fits2 p [] vs) : vs = [] := by
  cases vs with
  | nil => rfl
  | cons v vs => exact h.elim
theorem m_inv {ro : Nat → Option (List Value × Nat)} (vs : List Value) (h : Fits2 (DFit Tryd.prog ro 1) mKinds vs) : ∃ (m : Msg) (l : List Cl) (p : Option Addr) (c : Nat), vs = mc m ∧ WfM m l ∧ m.cl = .slice p l.length c ∧ l.length ≤ c ∧ c ≤ maxLen ∧ ∀ (L : List Rs) (h : Heap), Has ro h L → Vw 2 cc h m.cl l := by
  obtain ⟨v0, w0, e0, f0, t0⟩ := f2_cons h
  obtain ⟨v1, w1, e1, f1, t1⟩ := f2_cons t0
  obtain ⟨v2, w2, e2, f2, t2⟩ := f2_cons t1
  obtain ⟨v3, w3, e3, f3, t3⟩ := f2_cons t2
  obtain ⟨v4, w4, e4, f4, t4⟩ := f2_cons t3
  obtain ⟨v5, w5, e5, f5, t5⟩ := f2_cons t4
  obtain ⟨v6, w6, e6, f6, t6⟩ := f2_cons t5
  obtain ⟨v7, w7, e7, f7, t7⟩ := f2_cons t6
  obtain ⟨v8, w8, e8, f8, t8⟩ := f2_cons t7
  have e9 := f2_nil t8
  subst e9 e8 e7 e6 e5 e4 e3 e2 e1 e0
  obtain ⟨x0, rfl, _⟩ := flat_i64 f0
  obtain ⟨x1, rfl, _⟩ := flat_i64 f1
  obtain ⟨x2, rfl, u2⟩ := flat_u32 f2
  obtain ⟨x3, rfl, u3⟩ := flat_u64 f3
  obtain ⟨x4, rfl, _⟩ := flat_i64 f4
  obtain ⟨x5, rfl, _⟩ := flat_i64 f5
  obtain ⟨x6, rfl, _⟩ := flat_i64 f6
  obtain ⟨x7, rfl, _⟩ := flat_i64 f7
  obtain ⟨p, l, c, rfl, hok, h1, h2, hV⟩ := dslice f8 cl_kinds cl_size (by simp) cc (fun a => a.g < 4294967296) cl_inv
  refine ⟨⟨x0, x1, x2, x3, x4, x5, x6, x7, .slice p l.length c⟩, l, p, c, rfl, ⟨u2, u3, fun j hj => ?_⟩, rfl, h1, h2, hV⟩
  rw [List.getD_eq_getElem?_getD, List.getElem?_eq_getElem hj]
  exact hok _ (List.getElem_mem hj)
end Go.Proofs.YtpodmgbnldmlcaaDoor
