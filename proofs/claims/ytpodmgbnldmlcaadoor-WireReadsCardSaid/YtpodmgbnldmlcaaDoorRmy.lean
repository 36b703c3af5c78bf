/-
  The document's word on what a message, and a packet, may be.
-/
import Derived.Test.YtpodmgbnldmlcaaDoorFk
import Derived.Test.YtpodmgbnldmlcaaDoorRfn
namespace Go.Proofs.YtpodmgbnldmlcaaDoor
open Go Go.Ideal Go.ChangeShapes Go.RowKit
set_option maxHeartbeats 0
set_option linter.unusedSimpArgs false
set_option linter.unusedVariables false
set_option maxRecDepth 100000
attribute [local irreducible] callV T.All T.Is run
theorem env9 : env 9 = some ir9 := rfl
theorem env10 : env 10 = some ir10 := rfl
theorem has_e {n c : Nat} {L : List Nat} {h : Heap} (hn : 20 < n) (hl : L.length ≤ 8) (hc : c < 256) (hL : ∀ b ∈ L, b < 256) : callV env (n + 1) (.func (.func 26) #[] #[]) [.string (strB L), .int .u8 (c : Int)] h = .ret (.bool (decide (c ∈ L)), h) := T.Is.eq (has_h hn hl hc hL)
theorem names_e {n : Nat} {k : Int} {h : Heap} : callV env (n + 1) (.func (.func 25) #[] #[]) [.int .i64 k] h = .ret (.string (strB (lt k)), h) := T.Is.eq names_h
/-- The letter of a field. -/
def letter (f : Nat) : Nat := if f = 1 then 99 else if f = 2 then 103 else if f = 3 then 115 else if f = 4 then 112 else if f = 5 then 104 else if f = 6 then 111 else if f = 7 then 119 else 108
theorem lt_ok {k : Int} (h0 : 1 ≤ k) (h1 : k ≤ 11) : (lt k).length ≤ 8 ∧ ∀ b ∈ lt k, b < 256 := by
  have : k = 1 ∨ k = 2 ∨ k = 3 ∨ k = 4 ∨ k = 5 ∨ k = 6 ∨ k = 7 ∨ k = 8 ∨ k = 9 ∨ k = 10 ∨ k = 11 := by omega
  rcases this with rfl | rfl | rfl | rfl | rfl | rfl | rfl | rfl | rfl | rfl | rfl <;> decide
theorem lt_row {k : Int} (h0 : 1 ≤ k) (h1 : k ≤ 11) : (99 ∈ lt k ↔ (1 : Int) ∈ row k) ∧ (103 ∈ lt k ↔ (2 : Int) ∈ row k) ∧ (115 ∈ lt k ↔ (3 : Int) ∈ row k) ∧ (112 ∈ lt k ↔ (4 : Int) ∈ row k) ∧ (104 ∈ lt k ↔ (5 : Int) ∈ row k) ∧ (111 ∈ lt k ↔ (6 : Int) ∈ row k) ∧ (119 ∈ lt k ↔ (7 : Int) ∈ row k) ∧ (108 ∈ lt k ↔ (8 : Int) ∈ row k) := by
  have : k = 1 ∨ k = 2 ∨ k = 3 ∨ k = 4 ∨ k = 5 ∨ k = 6 ∨ k = 7 ∨ k = 8 ∨ k = 9 ∨ k = 10 ∨ k = 11 := by omega
  rcases this with rfl | rfl | rfl | rfl | rfl | rfl | rfl | rfl | rfl | rfl | rfl <;> decide
/-- A field is something. -/
def NonZ (m : Msg) (l : List Cl) (f : Nat) : Prop := (f = 1 ∧ m.cell ≠ 0) ∨ (f = 2 ∧ m.gen ≠ 0) ∨ (f = 3 ∧ m.stamp ≠ 0) ∨ (f = 4 ∧ m.prio ≠ 0) ∨ (f = 5 ∧ m.hops ≠ 0) ∨ (f = 6 ∧ m.orig ≠ 0) ∨ (f = 7 ∧ m.oth ≠ 0) ∨ (f = 8 ∧ l.length ≠ 0)
theorem nonz_1 {m : Msg} {l : List Cl} (h : NonZ m l 1) : ¬ m.cell = 0 := by
  rcases h with h | h | h | h | h | h | h | h
  all_goals first | exact h.2 | (exact absurd h.1 (by decide))
theorem nonz_1' {m : Msg} {l : List Cl} (h : ¬ m.cell = 0) : NonZ m l 1 := by
  unfold NonZ
  simp [h]
theorem nonz_2 {m : Msg} {l : List Cl} (h : NonZ m l 2) : ¬ m.gen = 0 := by
  rcases h with h | h | h | h | h | h | h | h
  all_goals first | exact h.2 | (exact absurd h.1 (by decide))
theorem nonz_2' {m : Msg} {l : List Cl} (h : ¬ m.gen = 0) : NonZ m l 2 := by
  unfold NonZ
  simp [h]
theorem nonz_3 {m : Msg} {l : List Cl} (h : NonZ m l 3) : ¬ m.stamp = 0 := by
  rcases h with h | h | h | h | h | h | h | h
  all_goals first | exact h.2 | (exact absurd h.1 (by decide))
theorem nonz_3' {m : Msg} {l : List Cl} (h : ¬ m.stamp = 0) : NonZ m l 3 := by
  unfold NonZ
  simp [h]
theorem nonz_4 {m : Msg} {l : List Cl} (h : NonZ m l 4) : ¬ m.prio = 0 := by
  rcases h with h | h | h | h | h | h | h | h
  all_goals first | exact h.2 | (exact absurd h.1 (by decide))
theorem nonz_4' {m : Msg} {l : List Cl} (h : ¬ m.prio = 0) : NonZ m l 4 := by
  unfold NonZ
  simp [h]
theorem nonz_5 {m : Msg} {l : List Cl} (h : NonZ m l 5) : ¬ m.hops = 0 := by
  rcases h with h | h | h | h | h | h | h | h
  all_goals first | exact h.2 | (exact absurd h.1 (by decide))
theorem nonz_5' {m : Msg} {l : List Cl} (h : ¬ m.hops = 0) : NonZ m l 5 := by
  unfold NonZ
  simp [h]
theorem nonz_6 {m : Msg} {l : List Cl} (h : NonZ m l 6) : ¬ m.orig = 0 := by
  rcases h with h | h | h | h | h | h | h | h
  all_goals first | exact h.2 | (exact absurd h.1 (by decide))
theorem nonz_6' {m : Msg} {l : List Cl} (h : ¬ m.orig = 0) : NonZ m l 6 := by
  unfold NonZ
  simp [h]
theorem nonz_7 {m : Msg} {l : List Cl} (h : NonZ m l 7) : ¬ m.oth = 0 := by
  rcases h with h | h | h | h | h | h | h | h
  all_goals first | exact h.2 | (exact absurd h.1 (by decide))
theorem nonz_7' {m : Msg} {l : List Cl} (h : ¬ m.oth = 0) : NonZ m l 7 := by
  unfold NonZ
  simp [h]
theorem nonz_8 {m : Msg} {l : List Cl} (h : NonZ m l 8) : ¬ l.length = 0 := by
  rcases h with h | h | h | h | h | h | h | h
  all_goals first | exact h.2 | (exact absurd h.1 (by decide))
theorem nonz_8' {m : Msg} {l : List Cl} (h : ¬ l.length = 0) : NonZ m l 8 := by
  unfold NonZ
  simp [h]
/-- One of the first fields is something, and not its kind's. -/
def Bad (m : Msg) (l : List Cl) (k : Nat) : Prop := ∃ f, 1 ≤ f ∧ f ≤ k ∧ letter f ∉ lt m.kd ∧ NonZ m l f
theorem Bad.zero {m : Msg} {l : List Cl} : ¬ Bad m l 0 := fun ⟨f, h1, h2, _⟩ => by omega
theorem Bad.mono {m : Msg} {l : List Cl} {k : Nat} (h : Bad m l k) : Bad m l (k + 1) := by
  obtain ⟨f, h1, h2, h3⟩ := h
  exact ⟨f, h1, by omega, h3⟩
theorem Bad.no {m : Msg} {l : List Cl} {k : Nat} (h : ¬ Bad m l k) (h2 : ¬ (letter (k + 1) ∉ lt m.kd ∧ NonZ m l (k + 1))) : false = true ↔ Bad m l (k + 1) := by
  constructor
  · intro e; cases e
  · rintro ⟨f, g1, g2, g3⟩
    by_cases e : f = k + 1
    · subst e; exact absurd g3 h2
    · exact absurd ⟨f, g1, by omega, g3⟩ h
theorem not_bad {m : Msg} {l : List Cl} (h0 : 1 ≤ m.kd) (h1 : m.kd ≤ 11) (h : SameM m l (only m) (lo m l)) : ¬ Bad m l 8 := by
  rintro ⟨f, g1, g2, g3, g4⟩
  obtain ⟨a1, a2, a3, a4, a5, a6, a7, a8⟩ := lt_row h0 h1
  obtain ⟨e1, e2, e3, e4, e5, e6, e7, e8, e9⟩ := h
  rcases g4 with ⟨rfl, g⟩ | ⟨rfl, g⟩ | ⟨rfl, g⟩ | ⟨rfl, g⟩ | ⟨rfl, g⟩ | ⟨rfl, g⟩ | ⟨rfl, g⟩ | ⟨rfl, g⟩
  · exact g (by rw [e2]; exact if_neg fun h => g3 (a1.2 h))
  · exact g (by rw [e7]; exact if_neg fun h => g3 (a2.2 h))
  · exact g (by rw [e8]; exact if_neg fun h => g3 (a3.2 h))
  · exact g (by rw [e3]; exact if_neg fun h => g3 (a4.2 h))
  · exact g (by rw [e4]; exact if_neg fun h => g3 (a5.2 h))
  · exact g (by rw [e5]; exact if_neg fun h => g3 (a6.2 h))
  · exact g (by rw [e6]; exact if_neg fun h => g3 (a7.2 h))
  · refine g ?_
    rw [e9]
    unfold lo
    rw [if_neg fun h => g3 (a8.2 h)]
    rfl
theorem of_bad {m : Msg} {l : List Cl} (h0 : 1 ≤ m.kd) (h1 : m.kd ≤ 11) (h : ¬ Bad m l 8) : SameM m l (only m) (lo m l) := by
  obtain ⟨a1, a2, a3, a4, a5, a6, a7, a8⟩ := lt_row h0 h1
  have key : ∀ f, 1 ≤ f → f ≤ 8 → letter f ∉ lt m.kd → ¬ NonZ m l f := fun f g1 g2 g3 g4 => h ⟨f, g1, g2, g3, g4⟩
  refine ⟨rfl, ?_, ?_, ?_, ?_, ?_, ?_, ?_, ?_⟩
  · show m.cell = if (1 : Int) ∈ row m.kd then m.cell else 0
    split
    · rfl
    · rename_i hn; exact Decidable.byContradiction fun e => key 1 (by omega) (by omega) (fun h => hn (a1.1 h)) (nonz_1' e)
  · show m.prio = if (4 : Int) ∈ row m.kd then m.prio else 0
    split
    · rfl
    · rename_i hn; exact Decidable.byContradiction fun e => key 4 (by omega) (by omega) (fun h => hn (a4.1 h)) (nonz_4' e)
  · show m.hops = if (5 : Int) ∈ row m.kd then m.hops else 0
    split
    · rfl
    · rename_i hn; exact Decidable.byContradiction fun e => key 5 (by omega) (by omega) (fun h => hn (a5.1 h)) (nonz_5' e)
  · show m.orig = if (6 : Int) ∈ row m.kd then m.orig else 0
    split
    · rfl
    · rename_i hn; exact Decidable.byContradiction fun e => key 6 (by omega) (by omega) (fun h => hn (a6.1 h)) (nonz_6' e)
  · show m.oth = if (7 : Int) ∈ row m.kd then m.oth else 0
    split
    · rfl
    · rename_i hn; exact Decidable.byContradiction fun e => key 7 (by omega) (by omega) (fun h => hn (a7.1 h)) (nonz_7' e)
  · show m.gen = if (2 : Int) ∈ row m.kd then m.gen else 0
    split
    · rfl
    · rename_i hn; exact Decidable.byContradiction fun e => key 2 (by omega) (by omega) (fun h => hn (a2.1 h)) (nonz_2' e)
  · show m.stamp = if (3 : Int) ∈ row m.kd then m.stamp else 0
    split
    · rfl
    · rename_i hn; exact Decidable.byContradiction fun e => key 3 (by omega) (by omega) (fun h => hn (a3.1 h)) (nonz_3' e)
  · unfold lo
    split
    · rfl
    · rename_i hn
      refine List.eq_nil_of_length_eq_zero ?_
      exact Decidable.byContradiction fun e => key 8 (by omega) (by omega) (fun h => hn (a8.1 h)) (nonz_8' e)
section
variable {ro : Nat → Option (List Value × Nat)} {h : Heap} {R : List Rs} {m : Msg} {l : List Cl}
theorem may_h {n : Nat} (hn : 1400 < n) (hl : l.length ≤ 1300) (hg : m.gen < 4294967296) (V : ∀ h, Has ro h R → Vw 2 cc h m.cl l) (O : Has ro h R) :
    (callV env (n + 2) (.func (.func 10) #[] #[]) [mv m] h).Is fun q => ∃ b : Bool, q.1 = .bool b ∧ (b = true ↔ OkM m l) ∧ Has ro q.2 R := by
  refine call_is env10 ?_
  obtain ⟨p, c, hc, hlc⟩ := (V _ O).len
  simp (disch := first | assumption | omega | (simp only [wkD, oneCell, Option.isSome_some, *]; done) | (simp only [wkE, ne_eq]; omega)) only [ir10, List.append_nil, List.nil_append, List.cons_append, List.length_cons, List.length_nil, Nat.reduceAdd, Nat.reduceSub, List.replicate_succ, List.replicate_zero, mv, wkF, X_region, X_seq, X_block, X_loop, X_cond, Y_un, Y_store, Y_append, Y_makeMap, Y_buildSlice, ibin_shl, ibin_shr, ibin_and, ↓reduceIte, reduceCtorEq, oneCell, setAt, readN, Nat.reduceAdd, Nat.reduceLeDiff, Nat.reduceMul, layAt, Nat.reduceLT, Nat.reduceEqDiff, setParams, Int.reduceLT, Int.reduceLE, Int.reduceGT, Int.reduceGE, Int.reduceEq, Int.reduceNe]
  refine Y_boxO O ?_
  intro mb h1 O1 e1
  replace O1 : Has ro h1 (Ob mb (.cells (mc m) 1 false) :: R) := O1
  obtain ⟨r0, r1, r2, r3, r4, r5, r6, r7, r8, r9⟩ := rdm (O1.get 0 rfl)
  rw [hc] at r8
  simp (disch := first | assumption | omega | (simp only [wkD, oneCell, Option.isSome_some, *]; done) | (simp only [wkE, ne_eq]; omega)) only [r0, wkF, X_region, X_seq, X_block, X_loop, X_cond, Y_box, Y_un, Y_store, Y_append, Y_makeMap, Y_buildSlice, ibin_shl, ibin_shr, ibin_and, ↓reduceIte, reduceCtorEq, oneCell, setAt, readN, Nat.reduceAdd, Nat.reduceLeDiff, Nat.reduceMul, layAt, Nat.reduceLT, Nat.reduceEqDiff, setParams, Int.reduceLT, Int.reduceLE, Int.reduceGT, Int.reduceGE, Int.reduceEq, Int.reduceNe]
  refine Z_is (name_h (n := n)) ?_
  rintro w h2 ⟨s, e2, hs⟩
  cases e2
  by_cases hk : 1 ≤ m.kd ∧ m.kd ≤ 11
  case neg =>
    rw [decide_eq_false hk] at hs
    simp (disch := first | assumption | omega | (simp only [wkD, oneCell, Option.isSome_some, *]; done) | (simp only [wkE, ne_eq]; omega)) only [hs, Bool.not_false, wkF, X_region, X_seq, X_block, X_loop, X_cond, Y_box, Y_un, Y_store, Y_append, Y_makeMap, Y_buildSlice, ibin_shl, ibin_shr, ibin_and, ↓reduceIte, reduceCtorEq, oneCell, setAt, readN, Nat.reduceAdd, Nat.reduceLeDiff, Nat.reduceMul, layAt, Nat.reduceLT, Nat.reduceEqDiff, setParams, Int.reduceLT, Int.reduceLE, Int.reduceGT, Int.reduceGE, Int.reduceEq, Int.reduceNe]
    exact leaf1 ⟨false, rfl, ⟨fun h => (by cases h), fun h => absurd h.1 hk⟩, O1.drop⟩
  rw [decide_eq_true hk] at hs
  have nm := fun h => names_e (n := n) (k := m.kd) (h := h)
  by_cases f1 : m.cell < 0
  · simp (disch := first | assumption | omega | (simp only [wkD, oneCell, Option.isSome_some, *]; done) | (simp only [wkE, ne_eq]; omega)) only [hs, nm, r0, r1, r4, r5, r6, r7, r8, f1, wkF, X_region, X_seq, X_block, X_loop, X_cond, Y_box, Y_un, Y_store, Y_append, Y_makeMap, Y_buildSlice, ibin_shl, ibin_shr, ibin_and, ↓reduceIte, reduceCtorEq, oneCell, setAt, readN, Nat.reduceAdd, Nat.reduceLeDiff, Nat.reduceMul, layAt, Nat.reduceLT, Nat.reduceEqDiff, setParams, Int.reduceLT, Int.reduceLE, Int.reduceGT, Int.reduceGE, Int.reduceEq, Int.reduceNe]
    exact leaf1 ⟨false, rfl, ⟨fun h => (by cases h), fun h => (by have := h.2.2.1.1.1; omega)⟩, O1.drop⟩
  by_cases f2 : m.cell > 1023
  · simp (disch := first | assumption | omega | (simp only [wkD, oneCell, Option.isSome_some, *]; done) | (simp only [wkE, ne_eq]; omega)) only [hs, nm, r0, r1, r4, r5, r6, r7, r8, f1, f2, wkF, X_region, X_seq, X_block, X_loop, X_cond, Y_box, Y_un, Y_store, Y_append, Y_makeMap, Y_buildSlice, ibin_shl, ibin_shr, ibin_and, ↓reduceIte, reduceCtorEq, oneCell, setAt, readN, Nat.reduceAdd, Nat.reduceLeDiff, Nat.reduceMul, layAt, Nat.reduceLT, Nat.reduceEqDiff, setParams, Int.reduceLT, Int.reduceLE, Int.reduceGT, Int.reduceGE, Int.reduceEq, Int.reduceNe]
    exact leaf1 ⟨false, rfl, ⟨fun h => (by cases h), fun h => (by have := h.2.2.1.1.2; omega)⟩, O1.drop⟩
  by_cases f3 : m.prio < 0
  · simp (disch := first | assumption | omega | (simp only [wkD, oneCell, Option.isSome_some, *]; done) | (simp only [wkE, ne_eq]; omega)) only [hs, nm, r0, r1, r4, r5, r6, r7, r8, f1, f2, f3, wkF, X_region, X_seq, X_block, X_loop, X_cond, Y_box, Y_un, Y_store, Y_append, Y_makeMap, Y_buildSlice, ibin_shl, ibin_shr, ibin_and, ↓reduceIte, reduceCtorEq, oneCell, setAt, readN, Nat.reduceAdd, Nat.reduceLeDiff, Nat.reduceMul, layAt, Nat.reduceLT, Nat.reduceEqDiff, setParams, Int.reduceLT, Int.reduceLE, Int.reduceGT, Int.reduceGE, Int.reduceEq, Int.reduceNe]
    exact leaf1 ⟨false, rfl, ⟨fun h => (by cases h), fun h => (by have := h.2.2.1.2.1.1; omega)⟩, O1.drop⟩
  by_cases f4 : m.prio > 15
  · simp (disch := first | assumption | omega | (simp only [wkD, oneCell, Option.isSome_some, *]; done) | (simp only [wkE, ne_eq]; omega)) only [hs, nm, r0, r1, r4, r5, r6, r7, r8, f1, f2, f3, f4, wkF, X_region, X_seq, X_block, X_loop, X_cond, Y_box, Y_un, Y_store, Y_append, Y_makeMap, Y_buildSlice, ibin_shl, ibin_shr, ibin_and, ↓reduceIte, reduceCtorEq, oneCell, setAt, readN, Nat.reduceAdd, Nat.reduceLeDiff, Nat.reduceMul, layAt, Nat.reduceLT, Nat.reduceEqDiff, setParams, Int.reduceLT, Int.reduceLE, Int.reduceGT, Int.reduceGE, Int.reduceEq, Int.reduceNe]
    exact leaf1 ⟨false, rfl, ⟨fun h => (by cases h), fun h => (by have := h.2.2.1.2.1.2; omega)⟩, O1.drop⟩
  by_cases f5 : m.hops < 0
  · simp (disch := first | assumption | omega | (simp only [wkD, oneCell, Option.isSome_some, *]; done) | (simp only [wkE, ne_eq]; omega)) only [hs, nm, r0, r1, r4, r5, r6, r7, r8, f1, f2, f3, f4, f5, wkF, X_region, X_seq, X_block, X_loop, X_cond, Y_box, Y_un, Y_store, Y_append, Y_makeMap, Y_buildSlice, ibin_shl, ibin_shr, ibin_and, ↓reduceIte, reduceCtorEq, oneCell, setAt, readN, Nat.reduceAdd, Nat.reduceLeDiff, Nat.reduceMul, layAt, Nat.reduceLT, Nat.reduceEqDiff, setParams, Int.reduceLT, Int.reduceLE, Int.reduceGT, Int.reduceGE, Int.reduceEq, Int.reduceNe]
    exact leaf1 ⟨false, rfl, ⟨fun h => (by cases h), fun h => (by have := h.2.2.1.2.2.1.1; omega)⟩, O1.drop⟩
  by_cases f6 : m.hops > 64
  · simp (disch := first | assumption | omega | (simp only [wkD, oneCell, Option.isSome_some, *]; done) | (simp only [wkE, ne_eq]; omega)) only [hs, nm, r0, r1, r4, r5, r6, r7, r8, f1, f2, f3, f4, f5, f6, wkF, X_region, X_seq, X_block, X_loop, X_cond, Y_box, Y_un, Y_store, Y_append, Y_makeMap, Y_buildSlice, ibin_shl, ibin_shr, ibin_and, ↓reduceIte, reduceCtorEq, oneCell, setAt, readN, Nat.reduceAdd, Nat.reduceLeDiff, Nat.reduceMul, layAt, Nat.reduceLT, Nat.reduceEqDiff, setParams, Int.reduceLT, Int.reduceLE, Int.reduceGT, Int.reduceGE, Int.reduceEq, Int.reduceNe]
    exact leaf1 ⟨false, rfl, ⟨fun h => (by cases h), fun h => (by have := h.2.2.1.2.2.1.2; omega)⟩, O1.drop⟩
  by_cases f7 : m.orig < 0
  · simp (disch := first | assumption | omega | (simp only [wkD, oneCell, Option.isSome_some, *]; done) | (simp only [wkE, ne_eq]; omega)) only [hs, nm, r0, r1, r4, r5, r6, r7, r8, f1, f2, f3, f4, f5, f6, f7, wkF, X_region, X_seq, X_block, X_loop, X_cond, Y_box, Y_un, Y_store, Y_append, Y_makeMap, Y_buildSlice, ibin_shl, ibin_shr, ibin_and, ↓reduceIte, reduceCtorEq, oneCell, setAt, readN, Nat.reduceAdd, Nat.reduceLeDiff, Nat.reduceMul, layAt, Nat.reduceLT, Nat.reduceEqDiff, setParams, Int.reduceLT, Int.reduceLE, Int.reduceGT, Int.reduceGE, Int.reduceEq, Int.reduceNe]
    exact leaf1 ⟨false, rfl, ⟨fun h => (by cases h), fun h => (by have := h.2.2.1.2.2.2.1.1; omega)⟩, O1.drop⟩
  by_cases f8 : m.orig > 63
  · simp (disch := first | assumption | omega | (simp only [wkD, oneCell, Option.isSome_some, *]; done) | (simp only [wkE, ne_eq]; omega)) only [hs, nm, r0, r1, r4, r5, r6, r7, r8, f1, f2, f3, f4, f5, f6, f7, f8, wkF, X_region, X_seq, X_block, X_loop, X_cond, Y_box, Y_un, Y_store, Y_append, Y_makeMap, Y_buildSlice, ibin_shl, ibin_shr, ibin_and, ↓reduceIte, reduceCtorEq, oneCell, setAt, readN, Nat.reduceAdd, Nat.reduceLeDiff, Nat.reduceMul, layAt, Nat.reduceLT, Nat.reduceEqDiff, setParams, Int.reduceLT, Int.reduceLE, Int.reduceGT, Int.reduceGE, Int.reduceEq, Int.reduceNe]
    exact leaf1 ⟨false, rfl, ⟨fun h => (by cases h), fun h => (by have := h.2.2.1.2.2.2.1.2; omega)⟩, O1.drop⟩
  by_cases f9 : m.oth < -1
  · simp (disch := first | assumption | omega | (simp only [wkD, oneCell, Option.isSome_some, *]; done) | (simp only [wkE, ne_eq]; omega)) only [hs, nm, r0, r1, r4, r5, r6, r7, r8, f1, f2, f3, f4, f5, f6, f7, f8, f9, wkF, X_region, X_seq, X_block, X_loop, X_cond, Y_box, Y_un, Y_store, Y_append, Y_makeMap, Y_buildSlice, ibin_shl, ibin_shr, ibin_and, ↓reduceIte, reduceCtorEq, oneCell, setAt, readN, Nat.reduceAdd, Nat.reduceLeDiff, Nat.reduceMul, layAt, Nat.reduceLT, Nat.reduceEqDiff, setParams, Int.reduceLT, Int.reduceLE, Int.reduceGT, Int.reduceGE, Int.reduceEq, Int.reduceNe]
    exact leaf1 ⟨false, rfl, ⟨fun h => (by cases h), fun h => (by have := h.2.2.1.2.2.2.2.1.1; omega)⟩, O1.drop⟩
  by_cases f10 : m.oth > 63
  · simp (disch := first | assumption | omega | (simp only [wkD, oneCell, Option.isSome_some, *]; done) | (simp only [wkE, ne_eq]; omega)) only [hs, nm, r0, r1, r4, r5, r6, r7, r8, f1, f2, f3, f4, f5, f6, f7, f8, f9, f10, wkF, X_region, X_seq, X_block, X_loop, X_cond, Y_box, Y_un, Y_store, Y_append, Y_makeMap, Y_buildSlice, ibin_shl, ibin_shr, ibin_and, ↓reduceIte, reduceCtorEq, oneCell, setAt, readN, Nat.reduceAdd, Nat.reduceLeDiff, Nat.reduceMul, layAt, Nat.reduceLT, Nat.reduceEqDiff, setParams, Int.reduceLT, Int.reduceLE, Int.reduceGT, Int.reduceGE, Int.reduceEq, Int.reduceNe]
    exact leaf1 ⟨false, rfl, ⟨fun h => (by cases h), fun h => (by have := h.2.2.1.2.2.2.2.1.2; omega)⟩, O1.drop⟩
  by_cases f11 : 16 < l.length
  · have f11' : (l.length : Int) > 16 := by omega
    simp (disch := first | assumption | omega | (simp only [wkD, oneCell, Option.isSome_some, *]; done) | (simp only [wkE, ne_eq]; omega)) only [hs, nm, r0, r1, r4, r5, r6, r7, r8, f1, f2, f3, f4, f5, f6, f7, f8, f9, f10, f11', wkF, X_region, X_seq, X_block, X_loop, X_cond, Y_box, Y_un, Y_store, Y_append, Y_makeMap, Y_buildSlice, ibin_shl, ibin_shr, ibin_and, ↓reduceIte, reduceCtorEq, oneCell, setAt, readN, Nat.reduceAdd, Nat.reduceLeDiff, Nat.reduceMul, layAt, Nat.reduceLT, Nat.reduceEqDiff, setParams, Int.reduceLT, Int.reduceLE, Int.reduceGT, Int.reduceGE, Int.reduceEq, Int.reduceNe]
    exact leaf1 ⟨false, rfl, ⟨fun h => (by cases h), fun h => (by have := h.2.2.1.2.2.2.2.2; omega)⟩, O1.drop⟩
  have f11' : ¬ (l.length : Int) > 16 := by omega
  have hF : Fine0 m l := ⟨⟨by omega, by omega⟩, ⟨by omega, by omega⟩, ⟨by omega, by omega⟩, ⟨by omega, by omega⟩, ⟨by omega, by omega⟩, by omega⟩
  simp (disch := first | assumption | omega | (simp only [wkD, oneCell, Option.isSome_some, *]; done) | (simp only [wkE, ne_eq]; omega)) only [hs, Bool.not_true, wkF, X_region, X_block, X_loop, X_cond, Y_box, Y_un, Y_store, Y_append, Y_makeMap, Y_buildSlice, ibin_shl, ibin_shr, ibin_and, ↓reduceIte, reduceCtorEq, oneCell, setAt, readN, Nat.reduceAdd, Nat.reduceLeDiff, Nat.reduceMul, layAt, Nat.reduceLT, Nat.reduceEqDiff, setParams, Int.reduceLT, Int.reduceLE, Int.reduceGT, Int.reduceGE, Int.reduceEq, Int.reduceNe]
  rw [X_seq]
  simp (disch := first | assumption | omega | (simp only [wkD, oneCell, Option.isSome_some, *]; done) | (simp only [wkE, ne_eq]; omega)) only [nm, r0, wkF, X_region, X_block, X_loop, X_cond, Y_box, Y_un, Y_store, Y_append, Y_makeMap, Y_buildSlice, ibin_shl, ibin_shr, ibin_and, ↓reduceIte, reduceCtorEq, oneCell, setAt, readN, Nat.reduceAdd, Nat.reduceLeDiff, Nat.reduceMul, layAt, Nat.reduceLT, Nat.reduceEqDiff, setParams, Int.reduceLT, Int.reduceLE, Int.reduceGT, Int.reduceGE, Int.reduceEq, Int.reduceNe]
  rw [X_seq, X_seq]
  simp (disch := first | assumption | omega | (simp only [wkD, oneCell, Option.isSome_some, *]; done) | (simp only [wkE, ne_eq]; omega)) only [r0, r1, r4, r5, r6, r7, r8, f1, f2, f3, f4, f5, f6, f7, f8, f9, f10, f11', wkF, X_region, X_block, X_loop, X_cond, Y_box, Y_un, Y_store, Y_append, Y_makeMap, Y_buildSlice, ibin_shl, ibin_shr, ibin_and, ↓reduceIte, reduceCtorEq, oneCell, setAt, readN, Nat.reduceAdd, Nat.reduceLeDiff, Nat.reduceMul, layAt, Nat.reduceLT, Nat.reduceEqDiff, setParams, Int.reduceLT, Int.reduceLE, Int.reduceGT, Int.reduceGE, Int.reduceEq, Int.reduceNe]
  rw [X_seq]
  refine X_cut0 (fun s => s.tmps.length = 180 ∧ s.tmps.getD 1 undefV = .pointer (some ⟨mb, 0, none⟩) ∧ Has ro s.h (Ob mb (.cells (mc m) 1 false) :: R) ∧ SameM m l (only m) (lo m l)) ?_ ?_
  · have J := fun (c : Nat) (hc : c < 256) h => has_e (n := n) (c := c) (L := lt m.kd) (h := h) (by omega) (lt_ok hk.1 hk.2).1 hc (lt_ok hk.1 hk.2).2
    rw [X_seq, X_region]
    refine Y_cutN 8 (fun s => ∃ b : Bool, s.tmps.length = 180 ∧ s.tmps.getD 1 undefV = .pointer (some ⟨mb, 0, none⟩) ∧ s.tmps.getD 3 undefV = .string (strB (lt m.kd)) ∧ s.tmps.getD 74 undefV = .bool b ∧ (b = true ↔ Bad m l 1) ∧ Has ro s.h (Ob mb (.cells (mc m) 1 false) :: R)) ?_ ?_
    · simp only [List.take_succ_cons, List.take_zero]
      have j1 : ∀ h, callV env (n + 1) (.func (.func 26) #[] #[]) [.string (strB (lt m.kd)), .int .u8 99] h = .ret (.bool (decide (99 ∈ lt m.kd)), h) := fun h => J 99 (by omega) h
      by_cases hh : 99 ∈ lt m.kd
      · rw [decide_eq_true hh] at j1
        simp (disch := first | assumption | omega | (simp only [wkD, oneCell, Option.isSome_some, *]; done) | (simp only [wkE, ne_eq]; omega)) only [r1, j1, wkF, X_region, X_seq, X_block, X_loop, X_cond, Y_box, Y_un, Y_store, Y_append, Y_makeMap, Y_buildSlice, ibin_shl, ibin_shr, ibin_and, ↓reduceIte, reduceCtorEq, oneCell, setAt, readN, Nat.reduceAdd, Nat.reduceLeDiff, Nat.reduceMul, layAt, Nat.reduceLT, Nat.reduceEqDiff, setParams, Int.reduceLT, Int.reduceLE, Int.reduceGT, Int.reduceGE, Int.reduceEq, Int.reduceNe]
        exact Is_in ⟨false, rfl, rfl, rfl, rfl, Bad.no Bad.zero (fun h => h.1 hh), O1⟩
      rw [decide_eq_false hh] at j1
      by_cases zz : m.cell = 0
      · have zn : m.cell = 0 := by omega
        simp (disch := first | assumption | omega | (simp only [wkD, oneCell, Option.isSome_some, *]; done) | (simp only [wkE, ne_eq]; omega)) only [r1, j1, zn, wkF, X_region, X_seq, X_block, X_loop, X_cond, Y_box, Y_un, Y_store, Y_append, Y_makeMap, Y_buildSlice, ibin_shl, ibin_shr, ibin_and, ↓reduceIte, reduceCtorEq, oneCell, setAt, readN, Nat.reduceAdd, Nat.reduceLeDiff, Nat.reduceMul, layAt, Nat.reduceLT, Nat.reduceEqDiff, setParams, Int.reduceLT, Int.reduceLE, Int.reduceGT, Int.reduceGE, Int.reduceEq, Int.reduceNe]
        exact Is_in ⟨false, rfl, rfl, rfl, rfl, Bad.no Bad.zero (fun h => nonz_1 h.2 zz), O1⟩
      · have zp : ¬ m.cell = 0 := by omega
        simp (disch := first | assumption | omega | (simp only [wkD, oneCell, Option.isSome_some, *]; done) | (simp only [wkE, ne_eq]; omega)) only [r1, j1, zp, wkF, X_region, X_seq, X_block, X_loop, X_cond, Y_box, Y_un, Y_store, Y_append, Y_makeMap, Y_buildSlice, ibin_shl, ibin_shr, ibin_and, ↓reduceIte, reduceCtorEq, oneCell, setAt, readN, Nat.reduceAdd, Nat.reduceLeDiff, Nat.reduceMul, layAt, Nat.reduceLT, Nat.reduceEqDiff, setParams, Int.reduceLT, Int.reduceLE, Int.reduceGT, Int.reduceGE, Int.reduceEq, Int.reduceNe]
        exact Is_in ⟨true, rfl, rfl, rfl, rfl, ⟨fun _ => ⟨1, by omega, by omega, hh, nonz_1' zz⟩, fun _ => rfl⟩, O1⟩
    clear O1 r0 r1 r2 r3 r4 r5 r6 r7 r8 r9
    rintro tm h11 ⟨b, hlen_, g1, g3, g74, hb, O1⟩
    simp only at g1 g3 g74 O1
    obtain ⟨w, hg_, rfl⟩ := explode hlen_
    simp only [hg_] at g1 g3 g74
    clear hlen_ hg_
    obtain ⟨r0, r1, r2, r3, r4, r5, r6, r7, r8, r9⟩ := rdm (O1.get 0 rfl)
    rw [hc] at r8
    simp only [List.drop_succ_cons, List.drop_zero]
    refine Y_cutN 10 (fun s => ∃ b : Bool, s.tmps.length = 180 ∧ s.tmps.getD 1 undefV = .pointer (some ⟨mb, 0, none⟩) ∧ s.tmps.getD 3 undefV = .string (strB (lt m.kd)) ∧ s.tmps.getD 84 undefV = .bool b ∧ (b = true ↔ Bad m l 2) ∧ Has ro s.h (Ob mb (.cells (mc m) 1 false) :: R)) ?_ ?_
    · simp only [List.take_succ_cons, List.take_zero]
      have j2 : ∀ h, callV env (n + 1) (.func (.func 26) #[] #[]) [.string (strB (lt m.kd)), .int .u8 103] h = .ret (.bool (decide (103 ∈ lt m.kd)), h) := fun h => J 103 (by omega) h
      cases b with
      | true =>
        simp (disch := first | assumption | omega | (simp only [wkD, oneCell, Option.isSome_some, *]; done) | (simp only [wkE, ne_eq]; omega)) only [g1, g3, g74, wkF, X_region, X_seq, X_block, X_loop, X_cond, Y_box, Y_un, Y_store, Y_append, Y_makeMap, Y_buildSlice, ibin_shl, ibin_shr, ibin_and, ↓reduceIte, reduceCtorEq, oneCell, setAt, readN, Nat.reduceAdd, Nat.reduceLeDiff, Nat.reduceMul, layAt, Nat.reduceLT, Nat.reduceEqDiff, setParams, Int.reduceLT, Int.reduceLE, Int.reduceGT, Int.reduceGE, Int.reduceEq, Int.reduceNe]
        exact Is_in ⟨true, rfl, rfl, rfl, rfl, ⟨fun _ => Bad.mono (hb.1 rfl), fun _ => rfl⟩, O1⟩
      | false =>
        by_cases hh : 103 ∈ lt m.kd
        · rw [decide_eq_true hh] at j2
          simp (disch := first | assumption | omega | (simp only [wkD, oneCell, Option.isSome_some, *]; done) | (simp only [wkE, ne_eq]; omega)) only [g1, g3, g74, r2, j2, wkF, X_region, X_seq, X_block, X_loop, X_cond, Y_box, Y_un, Y_store, Y_append, Y_makeMap, Y_buildSlice, ibin_shl, ibin_shr, ibin_and, ↓reduceIte, reduceCtorEq, oneCell, setAt, readN, Nat.reduceAdd, Nat.reduceLeDiff, Nat.reduceMul, layAt, Nat.reduceLT, Nat.reduceEqDiff, setParams, Int.reduceLT, Int.reduceLE, Int.reduceGT, Int.reduceGE, Int.reduceEq, Int.reduceNe]
          exact Is_in ⟨false, rfl, rfl, rfl, rfl, Bad.no (fun h => by cases hb.2 h) (fun h => h.1 hh), O1⟩
        rw [decide_eq_false hh] at j2
        by_cases zz : m.gen = 0
        · have zn : (m.gen : Int) = 0 := by omega
          simp (disch := first | assumption | omega | (simp only [wkD, oneCell, Option.isSome_some, *]; done) | (simp only [wkE, ne_eq]; omega)) only [g1, g3, g74, r2, j2, zn, wkF, X_region, X_seq, X_block, X_loop, X_cond, Y_box, Y_un, Y_store, Y_append, Y_makeMap, Y_buildSlice, ibin_shl, ibin_shr, ibin_and, ↓reduceIte, reduceCtorEq, oneCell, setAt, readN, Nat.reduceAdd, Nat.reduceLeDiff, Nat.reduceMul, layAt, Nat.reduceLT, Nat.reduceEqDiff, setParams, Int.reduceLT, Int.reduceLE, Int.reduceGT, Int.reduceGE, Int.reduceEq, Int.reduceNe]
          exact Is_in ⟨false, rfl, rfl, rfl, rfl, Bad.no (fun h => by cases hb.2 h) (fun h => nonz_2 h.2 zz), O1⟩
        · have zp : ¬ (m.gen : Int) = 0 := by omega
          simp (disch := first | assumption | omega | (simp only [wkD, oneCell, Option.isSome_some, *]; done) | (simp only [wkE, ne_eq]; omega)) only [g1, g3, g74, r2, j2, zp, wkF, X_region, X_seq, X_block, X_loop, X_cond, Y_box, Y_un, Y_store, Y_append, Y_makeMap, Y_buildSlice, ibin_shl, ibin_shr, ibin_and, ↓reduceIte, reduceCtorEq, oneCell, setAt, readN, Nat.reduceAdd, Nat.reduceLeDiff, Nat.reduceMul, layAt, Nat.reduceLT, Nat.reduceEqDiff, setParams, Int.reduceLT, Int.reduceLE, Int.reduceGT, Int.reduceGE, Int.reduceEq, Int.reduceNe]
          exact Is_in ⟨true, rfl, rfl, rfl, rfl, ⟨fun _ => ⟨2, by omega, by omega, hh, nonz_2' zz⟩, fun _ => rfl⟩, O1⟩
    clear O1 r0 r1 r2 r3 r4 r5 r6 r7 r8 r9 g1 g3 g74 hb
    clear b
    rintro tm h12 ⟨b, hlen_, g1, g3, g84, hb, O1⟩
    simp only at g1 g3 g84 O1
    obtain ⟨w, hg_, rfl⟩ := explode hlen_
    simp only [hg_] at g1 g3 g84
    clear hlen_ hg_
    obtain ⟨r0, r1, r2, r3, r4, r5, r6, r7, r8, r9⟩ := rdm (O1.get 0 rfl)
    rw [hc] at r8
    simp only [List.drop_succ_cons, List.drop_zero]
    refine Y_cutN 10 (fun s => ∃ b : Bool, s.tmps.length = 180 ∧ s.tmps.getD 1 undefV = .pointer (some ⟨mb, 0, none⟩) ∧ s.tmps.getD 3 undefV = .string (strB (lt m.kd)) ∧ s.tmps.getD 94 undefV = .bool b ∧ (b = true ↔ Bad m l 3) ∧ Has ro s.h (Ob mb (.cells (mc m) 1 false) :: R)) ?_ ?_
    · simp only [List.take_succ_cons, List.take_zero]
      have j3 : ∀ h, callV env (n + 1) (.func (.func 26) #[] #[]) [.string (strB (lt m.kd)), .int .u8 115] h = .ret (.bool (decide (115 ∈ lt m.kd)), h) := fun h => J 115 (by omega) h
      cases b with
      | true =>
        simp (disch := first | assumption | omega | (simp only [wkD, oneCell, Option.isSome_some, *]; done) | (simp only [wkE, ne_eq]; omega)) only [g1, g3, g84, wkF, X_region, X_seq, X_block, X_loop, X_cond, Y_box, Y_un, Y_store, Y_append, Y_makeMap, Y_buildSlice, ibin_shl, ibin_shr, ibin_and, ↓reduceIte, reduceCtorEq, oneCell, setAt, readN, Nat.reduceAdd, Nat.reduceLeDiff, Nat.reduceMul, layAt, Nat.reduceLT, Nat.reduceEqDiff, setParams, Int.reduceLT, Int.reduceLE, Int.reduceGT, Int.reduceGE, Int.reduceEq, Int.reduceNe]
        exact Is_in ⟨true, rfl, rfl, rfl, rfl, ⟨fun _ => Bad.mono (hb.1 rfl), fun _ => rfl⟩, O1⟩
      | false =>
        by_cases hh : 115 ∈ lt m.kd
        · rw [decide_eq_true hh] at j3
          simp (disch := first | assumption | omega | (simp only [wkD, oneCell, Option.isSome_some, *]; done) | (simp only [wkE, ne_eq]; omega)) only [g1, g3, g84, r3, j3, wkF, X_region, X_seq, X_block, X_loop, X_cond, Y_box, Y_un, Y_store, Y_append, Y_makeMap, Y_buildSlice, ibin_shl, ibin_shr, ibin_and, ↓reduceIte, reduceCtorEq, oneCell, setAt, readN, Nat.reduceAdd, Nat.reduceLeDiff, Nat.reduceMul, layAt, Nat.reduceLT, Nat.reduceEqDiff, setParams, Int.reduceLT, Int.reduceLE, Int.reduceGT, Int.reduceGE, Int.reduceEq, Int.reduceNe]
          exact Is_in ⟨false, rfl, rfl, rfl, rfl, Bad.no (fun h => by cases hb.2 h) (fun h => h.1 hh), O1⟩
        rw [decide_eq_false hh] at j3
        by_cases zz : m.stamp = 0
        · have zn : (m.stamp : Int) = 0 := by omega
          simp (disch := first | assumption | omega | (simp only [wkD, oneCell, Option.isSome_some, *]; done) | (simp only [wkE, ne_eq]; omega)) only [g1, g3, g84, r3, j3, zn, wkF, X_region, X_seq, X_block, X_loop, X_cond, Y_box, Y_un, Y_store, Y_append, Y_makeMap, Y_buildSlice, ibin_shl, ibin_shr, ibin_and, ↓reduceIte, reduceCtorEq, oneCell, setAt, readN, Nat.reduceAdd, Nat.reduceLeDiff, Nat.reduceMul, layAt, Nat.reduceLT, Nat.reduceEqDiff, setParams, Int.reduceLT, Int.reduceLE, Int.reduceGT, Int.reduceGE, Int.reduceEq, Int.reduceNe]
          exact Is_in ⟨false, rfl, rfl, rfl, rfl, Bad.no (fun h => by cases hb.2 h) (fun h => nonz_3 h.2 zz), O1⟩
        · have zp : ¬ (m.stamp : Int) = 0 := by omega
          simp (disch := first | assumption | omega | (simp only [wkD, oneCell, Option.isSome_some, *]; done) | (simp only [wkE, ne_eq]; omega)) only [g1, g3, g84, r3, j3, zp, wkF, X_region, X_seq, X_block, X_loop, X_cond, Y_box, Y_un, Y_store, Y_append, Y_makeMap, Y_buildSlice, ibin_shl, ibin_shr, ibin_and, ↓reduceIte, reduceCtorEq, oneCell, setAt, readN, Nat.reduceAdd, Nat.reduceLeDiff, Nat.reduceMul, layAt, Nat.reduceLT, Nat.reduceEqDiff, setParams, Int.reduceLT, Int.reduceLE, Int.reduceGT, Int.reduceGE, Int.reduceEq, Int.reduceNe]
          exact Is_in ⟨true, rfl, rfl, rfl, rfl, ⟨fun _ => ⟨3, by omega, by omega, hh, nonz_3' zz⟩, fun _ => rfl⟩, O1⟩
    clear O1 r0 r1 r2 r3 r4 r5 r6 r7 r8 r9 g1 g3 g84 hb
    clear b
    rintro tm h13 ⟨b, hlen_, g1, g3, g94, hb, O1⟩
    simp only at g1 g3 g94 O1
    obtain ⟨w, hg_, rfl⟩ := explode hlen_
    simp only [hg_] at g1 g3 g94
    clear hlen_ hg_
    obtain ⟨r0, r1, r2, r3, r4, r5, r6, r7, r8, r9⟩ := rdm (O1.get 0 rfl)
    rw [hc] at r8
    simp only [List.drop_succ_cons, List.drop_zero]
    refine Y_cutN 10 (fun s => ∃ b : Bool, s.tmps.length = 180 ∧ s.tmps.getD 1 undefV = .pointer (some ⟨mb, 0, none⟩) ∧ s.tmps.getD 3 undefV = .string (strB (lt m.kd)) ∧ s.tmps.getD 104 undefV = .bool b ∧ (b = true ↔ Bad m l 4) ∧ Has ro s.h (Ob mb (.cells (mc m) 1 false) :: R)) ?_ ?_
    · simp only [List.take_succ_cons, List.take_zero]
      have j4 : ∀ h, callV env (n + 1) (.func (.func 26) #[] #[]) [.string (strB (lt m.kd)), .int .u8 112] h = .ret (.bool (decide (112 ∈ lt m.kd)), h) := fun h => J 112 (by omega) h
      cases b with
      | true =>
        simp (disch := first | assumption | omega | (simp only [wkD, oneCell, Option.isSome_some, *]; done) | (simp only [wkE, ne_eq]; omega)) only [g1, g3, g94, wkF, X_region, X_seq, X_block, X_loop, X_cond, Y_box, Y_un, Y_store, Y_append, Y_makeMap, Y_buildSlice, ibin_shl, ibin_shr, ibin_and, ↓reduceIte, reduceCtorEq, oneCell, setAt, readN, Nat.reduceAdd, Nat.reduceLeDiff, Nat.reduceMul, layAt, Nat.reduceLT, Nat.reduceEqDiff, setParams, Int.reduceLT, Int.reduceLE, Int.reduceGT, Int.reduceGE, Int.reduceEq, Int.reduceNe]
        exact Is_in ⟨true, rfl, rfl, rfl, rfl, ⟨fun _ => Bad.mono (hb.1 rfl), fun _ => rfl⟩, O1⟩
      | false =>
        by_cases hh : 112 ∈ lt m.kd
        · rw [decide_eq_true hh] at j4
          simp (disch := first | assumption | omega | (simp only [wkD, oneCell, Option.isSome_some, *]; done) | (simp only [wkE, ne_eq]; omega)) only [g1, g3, g94, r4, j4, wkF, X_region, X_seq, X_block, X_loop, X_cond, Y_box, Y_un, Y_store, Y_append, Y_makeMap, Y_buildSlice, ibin_shl, ibin_shr, ibin_and, ↓reduceIte, reduceCtorEq, oneCell, setAt, readN, Nat.reduceAdd, Nat.reduceLeDiff, Nat.reduceMul, layAt, Nat.reduceLT, Nat.reduceEqDiff, setParams, Int.reduceLT, Int.reduceLE, Int.reduceGT, Int.reduceGE, Int.reduceEq, Int.reduceNe]
          exact Is_in ⟨false, rfl, rfl, rfl, rfl, Bad.no (fun h => by cases hb.2 h) (fun h => h.1 hh), O1⟩
        rw [decide_eq_false hh] at j4
        by_cases zz : m.prio = 0
        · have zn : m.prio = 0 := by omega
          simp (disch := first | assumption | omega | (simp only [wkD, oneCell, Option.isSome_some, *]; done) | (simp only [wkE, ne_eq]; omega)) only [g1, g3, g94, r4, j4, zn, wkF, X_region, X_seq, X_block, X_loop, X_cond, Y_box, Y_un, Y_store, Y_append, Y_makeMap, Y_buildSlice, ibin_shl, ibin_shr, ibin_and, ↓reduceIte, reduceCtorEq, oneCell, setAt, readN, Nat.reduceAdd, Nat.reduceLeDiff, Nat.reduceMul, layAt, Nat.reduceLT, Nat.reduceEqDiff, setParams, Int.reduceLT, Int.reduceLE, Int.reduceGT, Int.reduceGE, Int.reduceEq, Int.reduceNe]
          exact Is_in ⟨false, rfl, rfl, rfl, rfl, Bad.no (fun h => by cases hb.2 h) (fun h => nonz_4 h.2 zz), O1⟩
        · have zp : ¬ m.prio = 0 := by omega
          simp (disch := first | assumption | omega | (simp only [wkD, oneCell, Option.isSome_some, *]; done) | (simp only [wkE, ne_eq]; omega)) only [g1, g3, g94, r4, j4, zp, wkF, X_region, X_seq, X_block, X_loop, X_cond, Y_box, Y_un, Y_store, Y_append, Y_makeMap, Y_buildSlice, ibin_shl, ibin_shr, ibin_and, ↓reduceIte, reduceCtorEq, oneCell, setAt, readN, Nat.reduceAdd, Nat.reduceLeDiff, Nat.reduceMul, layAt, Nat.reduceLT, Nat.reduceEqDiff, setParams, Int.reduceLT, Int.reduceLE, Int.reduceGT, Int.reduceGE, Int.reduceEq, Int.reduceNe]
          exact Is_in ⟨true, rfl, rfl, rfl, rfl, ⟨fun _ => ⟨4, by omega, by omega, hh, nonz_4' zz⟩, fun _ => rfl⟩, O1⟩
    clear O1 r0 r1 r2 r3 r4 r5 r6 r7 r8 r9 g1 g3 g94 hb
    clear b
    rintro tm h14 ⟨b, hlen_, g1, g3, g104, hb, O1⟩
    simp only at g1 g3 g104 O1
    obtain ⟨w, hg_, rfl⟩ := explode hlen_
    simp only [hg_] at g1 g3 g104
    clear hlen_ hg_
    obtain ⟨r0, r1, r2, r3, r4, r5, r6, r7, r8, r9⟩ := rdm (O1.get 0 rfl)
    rw [hc] at r8
    simp only [List.drop_succ_cons, List.drop_zero]
    refine Y_cutN 10 (fun s => ∃ b : Bool, s.tmps.length = 180 ∧ s.tmps.getD 1 undefV = .pointer (some ⟨mb, 0, none⟩) ∧ s.tmps.getD 3 undefV = .string (strB (lt m.kd)) ∧ s.tmps.getD 114 undefV = .bool b ∧ (b = true ↔ Bad m l 5) ∧ Has ro s.h (Ob mb (.cells (mc m) 1 false) :: R)) ?_ ?_
    · simp only [List.take_succ_cons, List.take_zero]
      have j5 : ∀ h, callV env (n + 1) (.func (.func 26) #[] #[]) [.string (strB (lt m.kd)), .int .u8 104] h = .ret (.bool (decide (104 ∈ lt m.kd)), h) := fun h => J 104 (by omega) h
      cases b with
      | true =>
        simp (disch := first | assumption | omega | (simp only [wkD, oneCell, Option.isSome_some, *]; done) | (simp only [wkE, ne_eq]; omega)) only [g1, g3, g104, wkF, X_region, X_seq, X_block, X_loop, X_cond, Y_box, Y_un, Y_store, Y_append, Y_makeMap, Y_buildSlice, ibin_shl, ibin_shr, ibin_and, ↓reduceIte, reduceCtorEq, oneCell, setAt, readN, Nat.reduceAdd, Nat.reduceLeDiff, Nat.reduceMul, layAt, Nat.reduceLT, Nat.reduceEqDiff, setParams, Int.reduceLT, Int.reduceLE, Int.reduceGT, Int.reduceGE, Int.reduceEq, Int.reduceNe]
        exact Is_in ⟨true, rfl, rfl, rfl, rfl, ⟨fun _ => Bad.mono (hb.1 rfl), fun _ => rfl⟩, O1⟩
      | false =>
        by_cases hh : 104 ∈ lt m.kd
        · rw [decide_eq_true hh] at j5
          simp (disch := first | assumption | omega | (simp only [wkD, oneCell, Option.isSome_some, *]; done) | (simp only [wkE, ne_eq]; omega)) only [g1, g3, g104, r5, j5, wkF, X_region, X_seq, X_block, X_loop, X_cond, Y_box, Y_un, Y_store, Y_append, Y_makeMap, Y_buildSlice, ibin_shl, ibin_shr, ibin_and, ↓reduceIte, reduceCtorEq, oneCell, setAt, readN, Nat.reduceAdd, Nat.reduceLeDiff, Nat.reduceMul, layAt, Nat.reduceLT, Nat.reduceEqDiff, setParams, Int.reduceLT, Int.reduceLE, Int.reduceGT, Int.reduceGE, Int.reduceEq, Int.reduceNe]
          exact Is_in ⟨false, rfl, rfl, rfl, rfl, Bad.no (fun h => by cases hb.2 h) (fun h => h.1 hh), O1⟩
        rw [decide_eq_false hh] at j5
        by_cases zz : m.hops = 0
        · have zn : m.hops = 0 := by omega
          simp (disch := first | assumption | omega | (simp only [wkD, oneCell, Option.isSome_some, *]; done) | (simp only [wkE, ne_eq]; omega)) only [g1, g3, g104, r5, j5, zn, wkF, X_region, X_seq, X_block, X_loop, X_cond, Y_box, Y_un, Y_store, Y_append, Y_makeMap, Y_buildSlice, ibin_shl, ibin_shr, ibin_and, ↓reduceIte, reduceCtorEq, oneCell, setAt, readN, Nat.reduceAdd, Nat.reduceLeDiff, Nat.reduceMul, layAt, Nat.reduceLT, Nat.reduceEqDiff, setParams, Int.reduceLT, Int.reduceLE, Int.reduceGT, Int.reduceGE, Int.reduceEq, Int.reduceNe]
          exact Is_in ⟨false, rfl, rfl, rfl, rfl, Bad.no (fun h => by cases hb.2 h) (fun h => nonz_5 h.2 zz), O1⟩
        · have zp : ¬ m.hops = 0 := by omega
          simp (disch := first | assumption | omega | (simp only [wkD, oneCell, Option.isSome_some, *]; done) | (simp only [wkE, ne_eq]; omega)) only [g1, g3, g104, r5, j5, zp, wkF, X_region, X_seq, X_block, X_loop, X_cond, Y_box, Y_un, Y_store, Y_append, Y_makeMap, Y_buildSlice, ibin_shl, ibin_shr, ibin_and, ↓reduceIte, reduceCtorEq, oneCell, setAt, readN, Nat.reduceAdd, Nat.reduceLeDiff, Nat.reduceMul, layAt, Nat.reduceLT, Nat.reduceEqDiff, setParams, Int.reduceLT, Int.reduceLE, Int.reduceGT, Int.reduceGE, Int.reduceEq, Int.reduceNe]
          exact Is_in ⟨true, rfl, rfl, rfl, rfl, ⟨fun _ => ⟨5, by omega, by omega, hh, nonz_5' zz⟩, fun _ => rfl⟩, O1⟩
    clear O1 r0 r1 r2 r3 r4 r5 r6 r7 r8 r9 g1 g3 g104 hb
    clear b
    rintro tm h15 ⟨b, hlen_, g1, g3, g114, hb, O1⟩
    simp only at g1 g3 g114 O1
    obtain ⟨w, hg_, rfl⟩ := explode hlen_
    simp only [hg_] at g1 g3 g114
    clear hlen_ hg_
    obtain ⟨r0, r1, r2, r3, r4, r5, r6, r7, r8, r9⟩ := rdm (O1.get 0 rfl)
    rw [hc] at r8
    simp only [List.drop_succ_cons, List.drop_zero]
    refine Y_cutN 10 (fun s => ∃ b : Bool, s.tmps.length = 180 ∧ s.tmps.getD 1 undefV = .pointer (some ⟨mb, 0, none⟩) ∧ s.tmps.getD 3 undefV = .string (strB (lt m.kd)) ∧ s.tmps.getD 124 undefV = .bool b ∧ (b = true ↔ Bad m l 6) ∧ Has ro s.h (Ob mb (.cells (mc m) 1 false) :: R)) ?_ ?_
    · simp only [List.take_succ_cons, List.take_zero]
      have j6 : ∀ h, callV env (n + 1) (.func (.func 26) #[] #[]) [.string (strB (lt m.kd)), .int .u8 111] h = .ret (.bool (decide (111 ∈ lt m.kd)), h) := fun h => J 111 (by omega) h
      cases b with
      | true =>
        simp (disch := first | assumption | omega | (simp only [wkD, oneCell, Option.isSome_some, *]; done) | (simp only [wkE, ne_eq]; omega)) only [g1, g3, g114, wkF, X_region, X_seq, X_block, X_loop, X_cond, Y_box, Y_un, Y_store, Y_append, Y_makeMap, Y_buildSlice, ibin_shl, ibin_shr, ibin_and, ↓reduceIte, reduceCtorEq, oneCell, setAt, readN, Nat.reduceAdd, Nat.reduceLeDiff, Nat.reduceMul, layAt, Nat.reduceLT, Nat.reduceEqDiff, setParams, Int.reduceLT, Int.reduceLE, Int.reduceGT, Int.reduceGE, Int.reduceEq, Int.reduceNe]
        exact Is_in ⟨true, rfl, rfl, rfl, rfl, ⟨fun _ => Bad.mono (hb.1 rfl), fun _ => rfl⟩, O1⟩
      | false =>
        by_cases hh : 111 ∈ lt m.kd
        · rw [decide_eq_true hh] at j6
          simp (disch := first | assumption | omega | (simp only [wkD, oneCell, Option.isSome_some, *]; done) | (simp only [wkE, ne_eq]; omega)) only [g1, g3, g114, r6, j6, wkF, X_region, X_seq, X_block, X_loop, X_cond, Y_box, Y_un, Y_store, Y_append, Y_makeMap, Y_buildSlice, ibin_shl, ibin_shr, ibin_and, ↓reduceIte, reduceCtorEq, oneCell, setAt, readN, Nat.reduceAdd, Nat.reduceLeDiff, Nat.reduceMul, layAt, Nat.reduceLT, Nat.reduceEqDiff, setParams, Int.reduceLT, Int.reduceLE, Int.reduceGT, Int.reduceGE, Int.reduceEq, Int.reduceNe]
          exact Is_in ⟨false, rfl, rfl, rfl, rfl, Bad.no (fun h => by cases hb.2 h) (fun h => h.1 hh), O1⟩
        rw [decide_eq_false hh] at j6
        by_cases zz : m.orig = 0
        · have zn : m.orig = 0 := by omega
          simp (disch := first | assumption | omega | (simp only [wkD, oneCell, Option.isSome_some, *]; done) | (simp only [wkE, ne_eq]; omega)) only [g1, g3, g114, r6, j6, zn, wkF, X_region, X_seq, X_block, X_loop, X_cond, Y_box, Y_un, Y_store, Y_append, Y_makeMap, Y_buildSlice, ibin_shl, ibin_shr, ibin_and, ↓reduceIte, reduceCtorEq, oneCell, setAt, readN, Nat.reduceAdd, Nat.reduceLeDiff, Nat.reduceMul, layAt, Nat.reduceLT, Nat.reduceEqDiff, setParams, Int.reduceLT, Int.reduceLE, Int.reduceGT, Int.reduceGE, Int.reduceEq, Int.reduceNe]
          exact Is_in ⟨false, rfl, rfl, rfl, rfl, Bad.no (fun h => by cases hb.2 h) (fun h => nonz_6 h.2 zz), O1⟩
        · have zp : ¬ m.orig = 0 := by omega
          simp (disch := first | assumption | omega | (simp only [wkD, oneCell, Option.isSome_some, *]; done) | (simp only [wkE, ne_eq]; omega)) only [g1, g3, g114, r6, j6, zp, wkF, X_region, X_seq, X_block, X_loop, X_cond, Y_box, Y_un, Y_store, Y_append, Y_makeMap, Y_buildSlice, ibin_shl, ibin_shr, ibin_and, ↓reduceIte, reduceCtorEq, oneCell, setAt, readN, Nat.reduceAdd, Nat.reduceLeDiff, Nat.reduceMul, layAt, Nat.reduceLT, Nat.reduceEqDiff, setParams, Int.reduceLT, Int.reduceLE, Int.reduceGT, Int.reduceGE, Int.reduceEq, Int.reduceNe]
          exact Is_in ⟨true, rfl, rfl, rfl, rfl, ⟨fun _ => ⟨6, by omega, by omega, hh, nonz_6' zz⟩, fun _ => rfl⟩, O1⟩
    clear O1 r0 r1 r2 r3 r4 r5 r6 r7 r8 r9 g1 g3 g114 hb
    clear b
    rintro tm h16 ⟨b, hlen_, g1, g3, g124, hb, O1⟩
    simp only at g1 g3 g124 O1
    obtain ⟨w, hg_, rfl⟩ := explode hlen_
    simp only [hg_] at g1 g3 g124
    clear hlen_ hg_
    obtain ⟨r0, r1, r2, r3, r4, r5, r6, r7, r8, r9⟩ := rdm (O1.get 0 rfl)
    rw [hc] at r8
    simp only [List.drop_succ_cons, List.drop_zero]
    refine Y_cutN 10 (fun s => ∃ b : Bool, s.tmps.length = 180 ∧ s.tmps.getD 1 undefV = .pointer (some ⟨mb, 0, none⟩) ∧ s.tmps.getD 3 undefV = .string (strB (lt m.kd)) ∧ s.tmps.getD 134 undefV = .bool b ∧ (b = true ↔ Bad m l 7) ∧ Has ro s.h (Ob mb (.cells (mc m) 1 false) :: R)) ?_ ?_
    · simp only [List.take_succ_cons, List.take_zero]
      have j7 : ∀ h, callV env (n + 1) (.func (.func 26) #[] #[]) [.string (strB (lt m.kd)), .int .u8 119] h = .ret (.bool (decide (119 ∈ lt m.kd)), h) := fun h => J 119 (by omega) h
      cases b with
      | true =>
        simp (disch := first | assumption | omega | (simp only [wkD, oneCell, Option.isSome_some, *]; done) | (simp only [wkE, ne_eq]; omega)) only [g1, g3, g124, wkF, X_region, X_seq, X_block, X_loop, X_cond, Y_box, Y_un, Y_store, Y_append, Y_makeMap, Y_buildSlice, ibin_shl, ibin_shr, ibin_and, ↓reduceIte, reduceCtorEq, oneCell, setAt, readN, Nat.reduceAdd, Nat.reduceLeDiff, Nat.reduceMul, layAt, Nat.reduceLT, Nat.reduceEqDiff, setParams, Int.reduceLT, Int.reduceLE, Int.reduceGT, Int.reduceGE, Int.reduceEq, Int.reduceNe]
        exact Is_in ⟨true, rfl, rfl, rfl, rfl, ⟨fun _ => Bad.mono (hb.1 rfl), fun _ => rfl⟩, O1⟩
      | false =>
        by_cases hh : 119 ∈ lt m.kd
        · rw [decide_eq_true hh] at j7
          simp (disch := first | assumption | omega | (simp only [wkD, oneCell, Option.isSome_some, *]; done) | (simp only [wkE, ne_eq]; omega)) only [g1, g3, g124, r7, j7, wkF, X_region, X_seq, X_block, X_loop, X_cond, Y_box, Y_un, Y_store, Y_append, Y_makeMap, Y_buildSlice, ibin_shl, ibin_shr, ibin_and, ↓reduceIte, reduceCtorEq, oneCell, setAt, readN, Nat.reduceAdd, Nat.reduceLeDiff, Nat.reduceMul, layAt, Nat.reduceLT, Nat.reduceEqDiff, setParams, Int.reduceLT, Int.reduceLE, Int.reduceGT, Int.reduceGE, Int.reduceEq, Int.reduceNe]
          exact Is_in ⟨false, rfl, rfl, rfl, rfl, Bad.no (fun h => by cases hb.2 h) (fun h => h.1 hh), O1⟩
        rw [decide_eq_false hh] at j7
        by_cases zz : m.oth = 0
        · have zn : m.oth = 0 := by omega
          simp (disch := first | assumption | omega | (simp only [wkD, oneCell, Option.isSome_some, *]; done) | (simp only [wkE, ne_eq]; omega)) only [g1, g3, g124, r7, j7, zn, wkF, X_region, X_seq, X_block, X_loop, X_cond, Y_box, Y_un, Y_store, Y_append, Y_makeMap, Y_buildSlice, ibin_shl, ibin_shr, ibin_and, ↓reduceIte, reduceCtorEq, oneCell, setAt, readN, Nat.reduceAdd, Nat.reduceLeDiff, Nat.reduceMul, layAt, Nat.reduceLT, Nat.reduceEqDiff, setParams, Int.reduceLT, Int.reduceLE, Int.reduceGT, Int.reduceGE, Int.reduceEq, Int.reduceNe]
          exact Is_in ⟨false, rfl, rfl, rfl, rfl, Bad.no (fun h => by cases hb.2 h) (fun h => nonz_7 h.2 zz), O1⟩
        · have zp : ¬ m.oth = 0 := by omega
          simp (disch := first | assumption | omega | (simp only [wkD, oneCell, Option.isSome_some, *]; done) | (simp only [wkE, ne_eq]; omega)) only [g1, g3, g124, r7, j7, zp, wkF, X_region, X_seq, X_block, X_loop, X_cond, Y_box, Y_un, Y_store, Y_append, Y_makeMap, Y_buildSlice, ibin_shl, ibin_shr, ibin_and, ↓reduceIte, reduceCtorEq, oneCell, setAt, readN, Nat.reduceAdd, Nat.reduceLeDiff, Nat.reduceMul, layAt, Nat.reduceLT, Nat.reduceEqDiff, setParams, Int.reduceLT, Int.reduceLE, Int.reduceGT, Int.reduceGE, Int.reduceEq, Int.reduceNe]
          exact Is_in ⟨true, rfl, rfl, rfl, rfl, ⟨fun _ => ⟨7, by omega, by omega, hh, nonz_7' zz⟩, fun _ => rfl⟩, O1⟩
    clear O1 r0 r1 r2 r3 r4 r5 r6 r7 r8 r9 g1 g3 g124 hb
    clear b
    rintro tm h17 ⟨b, hlen_, g1, g3, g134, hb, O1⟩
    simp only at g1 g3 g134 O1
    obtain ⟨w, hg_, rfl⟩ := explode hlen_
    simp only [hg_] at g1 g3 g134
    clear hlen_ hg_
    obtain ⟨r0, r1, r2, r3, r4, r5, r6, r7, r8, r9⟩ := rdm (O1.get 0 rfl)
    rw [hc] at r8
    simp only [List.drop_succ_cons, List.drop_zero]
    refine Y_cutN 11 (fun s => ∃ b : Bool, s.tmps.length = 180 ∧ s.tmps.getD 1 undefV = .pointer (some ⟨mb, 0, none⟩) ∧ s.tmps.getD 3 undefV = .string (strB (lt m.kd)) ∧ s.tmps.getD 145 undefV = .bool b ∧ (b = true ↔ Bad m l 8) ∧ Has ro s.h (Ob mb (.cells (mc m) 1 false) :: R)) ?_ ?_
    · simp only [List.take_succ_cons, List.take_zero]
      have j8 : ∀ h, callV env (n + 1) (.func (.func 26) #[] #[]) [.string (strB (lt m.kd)), .int .u8 108] h = .ret (.bool (decide (108 ∈ lt m.kd)), h) := fun h => J 108 (by omega) h
      cases b with
      | true =>
        simp (disch := first | assumption | omega | (simp only [wkD, oneCell, Option.isSome_some, *]; done) | (simp only [wkE, ne_eq]; omega)) only [g1, g3, g134, wkF, X_region, X_seq, X_block, X_loop, X_cond, Y_box, Y_un, Y_store, Y_append, Y_makeMap, Y_buildSlice, ibin_shl, ibin_shr, ibin_and, ↓reduceIte, reduceCtorEq, oneCell, setAt, readN, Nat.reduceAdd, Nat.reduceLeDiff, Nat.reduceMul, layAt, Nat.reduceLT, Nat.reduceEqDiff, setParams, Int.reduceLT, Int.reduceLE, Int.reduceGT, Int.reduceGE, Int.reduceEq, Int.reduceNe]
        exact Is_in ⟨true, rfl, rfl, rfl, rfl, ⟨fun _ => Bad.mono (hb.1 rfl), fun _ => rfl⟩, O1⟩
      | false =>
        by_cases hh : 108 ∈ lt m.kd
        · rw [decide_eq_true hh] at j8
          simp (disch := first | assumption | omega | (simp only [wkD, oneCell, Option.isSome_some, *]; done) | (simp only [wkE, ne_eq]; omega)) only [g1, g3, g134, r8, j8, wkF, X_region, X_seq, X_block, X_loop, X_cond, Y_box, Y_un, Y_store, Y_append, Y_makeMap, Y_buildSlice, ibin_shl, ibin_shr, ibin_and, ↓reduceIte, reduceCtorEq, oneCell, setAt, readN, Nat.reduceAdd, Nat.reduceLeDiff, Nat.reduceMul, layAt, Nat.reduceLT, Nat.reduceEqDiff, setParams, Int.reduceLT, Int.reduceLE, Int.reduceGT, Int.reduceGE, Int.reduceEq, Int.reduceNe]
          exact Is_in ⟨false, rfl, rfl, rfl, rfl, Bad.no (fun h => by cases hb.2 h) (fun h => h.1 hh), O1⟩
        rw [decide_eq_false hh] at j8
        by_cases zz : l.length = 0
        · have zn : ¬ (l.length : Int) > 0 := by omega
          simp (disch := first | assumption | omega | (simp only [wkD, oneCell, Option.isSome_some, *]; done) | (simp only [wkE, ne_eq]; omega)) only [g1, g3, g134, r8, j8, zn, wkF, X_region, X_seq, X_block, X_loop, X_cond, Y_box, Y_un, Y_store, Y_append, Y_makeMap, Y_buildSlice, ibin_shl, ibin_shr, ibin_and, ↓reduceIte, reduceCtorEq, oneCell, setAt, readN, Nat.reduceAdd, Nat.reduceLeDiff, Nat.reduceMul, layAt, Nat.reduceLT, Nat.reduceEqDiff, setParams, Int.reduceLT, Int.reduceLE, Int.reduceGT, Int.reduceGE, Int.reduceEq, Int.reduceNe]
          exact Is_in ⟨false, rfl, rfl, rfl, rfl, Bad.no (fun h => by cases hb.2 h) (fun h => nonz_8 h.2 zz), O1⟩
        · have zp : (l.length : Int) > 0 := by omega
          simp (disch := first | assumption | omega | (simp only [wkD, oneCell, Option.isSome_some, *]; done) | (simp only [wkE, ne_eq]; omega)) only [g1, g3, g134, r8, j8, zp, wkF, X_region, X_seq, X_block, X_loop, X_cond, Y_box, Y_un, Y_store, Y_append, Y_makeMap, Y_buildSlice, ibin_shl, ibin_shr, ibin_and, ↓reduceIte, reduceCtorEq, oneCell, setAt, readN, Nat.reduceAdd, Nat.reduceLeDiff, Nat.reduceMul, layAt, Nat.reduceLT, Nat.reduceEqDiff, setParams, Int.reduceLT, Int.reduceLE, Int.reduceGT, Int.reduceGE, Int.reduceEq, Int.reduceNe]
          exact Is_in ⟨true, rfl, rfl, rfl, rfl, ⟨fun _ => ⟨8, by omega, by omega, hh, nonz_8' zz⟩, fun _ => rfl⟩, O1⟩
    clear O1 r0 r1 r2 r3 r4 r5 r6 r7 r8 r9 g1 g3 g134 hb
    clear b
    rintro tm h18 ⟨b, hlen_, g1, g3, g145, hb, O1⟩
    simp only at g1 g3 g145 O1
    obtain ⟨w, hg_, rfl⟩ := explode hlen_
    simp only [hg_] at g1 g3 g145
    clear hlen_ hg_
    obtain ⟨r0, r1, r2, r3, r4, r5, r6, r7, r8, r9⟩ := rdm (O1.get 0 rfl)
    rw [hc] at r8
    simp only [List.drop_succ_cons, List.drop_zero]
    cases b with
    | true =>
      simp (disch := first | assumption | omega | (simp only [wkD, oneCell, Option.isSome_some, *]; done) | (simp only [wkE, ne_eq]; omega)) only [g1, g3, g145, wkF, X_region, X_seq, X_block, X_loop, X_cond, Y_box, Y_un, Y_store, Y_append, Y_makeMap, Y_buildSlice, ibin_shl, ibin_shr, ibin_and, ↓reduceIte, reduceCtorEq, oneCell, setAt, readN, Nat.reduceAdd, Nat.reduceLeDiff, Nat.reduceMul, layAt, Nat.reduceLT, Nat.reduceEqDiff, setParams, Int.reduceLT, Int.reduceLE, Int.reduceGT, Int.reduceGE, Int.reduceEq, Int.reduceNe]
      refine mid_ret ?_
      simp (disch := first | assumption | omega | (simp only [wkD, oneCell, Option.isSome_some, *]; done) | (simp only [wkE, ne_eq]; omega)) only [wkF, X_region, X_seq, X_block, X_loop, X_cond, Y_box, Y_un, Y_store, Y_append, Y_makeMap, Y_buildSlice, ibin_shl, ibin_shr, ibin_and, ↓reduceIte, reduceCtorEq, oneCell, setAt, readN, Nat.reduceAdd, Nat.reduceLeDiff, Nat.reduceMul, layAt, Nat.reduceLT, Nat.reduceEqDiff, setParams, Int.reduceLT, Int.reduceLE, Int.reduceGT, Int.reduceGE, Int.reduceEq, Int.reduceNe]
      exact leaf1 ⟨false, rfl, ⟨fun h => (by cases h), fun h => absurd (hb.1 rfl) (not_bad hk.1 hk.2 h.2.1)⟩, O1.drop⟩
    | false =>
      simp (disch := first | assumption | omega | (simp only [wkD, oneCell, Option.isSome_some, *]; done) | (simp only [wkE, ne_eq]; omega)) only [g1, g3, g145, wkF, X_region, X_seq, X_block, X_loop, X_cond, Y_box, Y_un, Y_store, Y_append, Y_makeMap, Y_buildSlice, ibin_shl, ibin_shr, ibin_and, ↓reduceIte, reduceCtorEq, oneCell, setAt, readN, Nat.reduceAdd, Nat.reduceLeDiff, Nat.reduceMul, layAt, Nat.reduceLT, Nat.reduceEqDiff, setParams, Int.reduceLT, Int.reduceLE, Int.reduceGT, Int.reduceGE, Int.reduceEq, Int.reduceNe]
      exact mid_in ⟨rfl, rfl, O1, of_bad hk.1 hk.2 (fun h => by cases hb.2 h)⟩
  clear O1 r0 r1 r2 r3 r4 r5 r6 r7 r8 r9
  rintro tm h20 ⟨hlen_, g1, O1, hS⟩
  simp only at g1 O1
  obtain ⟨w, hg_, rfl⟩ := explode hlen_
  simp only [hg_] at g1
  clear hlen_ hg_
  have rl : ∀ h, Has ro h (Ob mb (.cells (mc m) 1 false) :: R) → readC (h.get mb) 8 1 = some [.slice p l.length c] := fun h O => by
    have := (rdm (O.get 0 rfl)).2.2.2.2.2.2.2.2.1
    rw [hc] at this
    exact this
  simp (disch := first | assumption | omega | (simp only [wkD, oneCell, Option.isSome_some, *]; done) | (simp only [wkE, ne_eq]; omega)) only [g1, wkF, X_region, X_seq, X_block, X_loop, X_cond, Y_box, Y_un, Y_store, Y_append, Y_makeMap, Y_buildSlice, ibin_shl, ibin_shr, ibin_and, ↓reduceIte, reduceCtorEq, oneCell, setAt, readN, Nat.reduceAdd, Nat.reduceLeDiff, Nat.reduceMul, layAt, Nat.reduceLT, Nat.reduceEqDiff, setParams, Int.reduceLT, Int.reduceLE, Int.reduceGT, Int.reduceGE, Int.reduceEq, Int.reduceNe]
  refine L_is (fun q s => ∃ (i : Nat), s.defers = [] ∧ s.tmps.length = 180 ∧ s.tmps.getD 1 undefV = .pointer (some ⟨mb, 0, none⟩) ∧ s.tmps.getD 4 undefV = .int .i64 (i : Int) ∧ q = l.length - i ∧ i ≤ l.length ∧ UpTo l i ∧ Has ro s.h (Ob mb (.cells (mc m) 1 false) :: R)) l.length ?_ (by omega) ?_
  · exact ⟨0, rfl, rfl, rfl, rfl, rfl, by omega, UpTo.zero, O1⟩
  clear O1 g1
  rintro q_ tm df h21 ⟨i, hd, hlen_, g1, g4, hq, hi, hU, O1⟩
  simp only at hd g1 g4 O1
  subst hd
  obtain ⟨w, hg_, rfl⟩ := explode hlen_
  simp only [hg_] at g1 g4
  clear hlen_ hg_
  have r8 := rl _ O1
  by_cases hlt : i < l.length
  · have hlt' : (i : Int) < (l.length : Int) := by omega
    have c0 : (0 : Int) ≤ (i : Int) := by omega
    have y1 : IntKind.i64.wrap ((i : Int) + 1) = ((i + 1 : Nat) : Int) := by rw [wrap_i64 (by omega) (by omega)]; omega
    obtain ⟨b1, o1, s1, d1, hv, k1, k2⟩ := rdcl (V _ O1.drop) hlt
    rw [hc] at hv
    cases hv
    have no : ¬ ((0 ≤ cel l i ∧ cel l i ≤ 1023) ∧ (i = 0 ∨ cel l (i - 1) < cel l i)) → ¬ OkM m l := fun h1 h2 => h1 (h2.2.2.2 i hlt)
    by_cases x1 : cel l i < 0
    · simp (disch := first | assumption | omega | (simp only [wkD, oneCell, Option.isSome_some, *]; done) | (simp only [wkE, ne_eq]; omega)) only [g1, g4, r8, hlt', c0, k2, Int.toNat_natCast, x1, wkF, X_region, X_seq, X_block, X_loop, X_cond, Y_box, Y_un, Y_store, Y_append, Y_makeMap, Y_buildSlice, ibin_shl, ibin_shr, ibin_and, ↓reduceIte, reduceCtorEq, oneCell, setAt, readN, Nat.reduceAdd, Nat.reduceLeDiff, Nat.reduceMul, layAt, Nat.reduceLT, Nat.reduceEqDiff, setParams, Int.reduceLT, Int.reduceLE, Int.reduceGT, Int.reduceGE, Int.reduceEq, Int.reduceNe]
      refine Is_in ?_
      simp (disch := first | assumption | omega | (simp only [wkD, oneCell, Option.isSome_some, *]; done) | (simp only [wkE, ne_eq]; omega)) only [wkF, X_region, X_seq, X_block, X_loop, X_cond, Y_box, Y_un, Y_store, Y_append, Y_makeMap, Y_buildSlice, ibin_shl, ibin_shr, ibin_and, ↓reduceIte, reduceCtorEq, oneCell, setAt, readN, Nat.reduceAdd, Nat.reduceLeDiff, Nat.reduceMul, layAt, Nat.reduceLT, Nat.reduceEqDiff, setParams, Int.reduceLT, Int.reduceLE, Int.reduceGT, Int.reduceGE, Int.reduceEq, Int.reduceNe]
      exact leaf1 ⟨false, rfl, ⟨fun h => (by cases h), fun h => absurd h (no fun g => by omega)⟩, O1.drop⟩
    by_cases x2 : cel l i > 1023
    · simp (disch := first | assumption | omega | (simp only [wkD, oneCell, Option.isSome_some, *]; done) | (simp only [wkE, ne_eq]; omega)) only [g1, g4, r8, hlt', c0, k2, Int.toNat_natCast, x1, x2, wkF, X_region, X_seq, X_block, X_loop, X_cond, Y_box, Y_un, Y_store, Y_append, Y_makeMap, Y_buildSlice, ibin_shl, ibin_shr, ibin_and, ↓reduceIte, reduceCtorEq, oneCell, setAt, readN, Nat.reduceAdd, Nat.reduceLeDiff, Nat.reduceMul, layAt, Nat.reduceLT, Nat.reduceEqDiff, setParams, Int.reduceLT, Int.reduceLE, Int.reduceGT, Int.reduceGE, Int.reduceEq, Int.reduceNe]
      refine Is_in ?_
      simp (disch := first | assumption | omega | (simp only [wkD, oneCell, Option.isSome_some, *]; done) | (simp only [wkE, ne_eq]; omega)) only [wkF, X_region, X_seq, X_block, X_loop, X_cond, Y_box, Y_un, Y_store, Y_append, Y_makeMap, Y_buildSlice, ibin_shl, ibin_shr, ibin_and, ↓reduceIte, reduceCtorEq, oneCell, setAt, readN, Nat.reduceAdd, Nat.reduceLeDiff, Nat.reduceMul, layAt, Nat.reduceLT, Nat.reduceEqDiff, setParams, Int.reduceLT, Int.reduceLE, Int.reduceGT, Int.reduceGE, Int.reduceEq, Int.reduceNe]
      exact leaf1 ⟨false, rfl, ⟨fun h => (by cases h), fun h => absurd h (no fun g => by omega)⟩, O1.drop⟩
    by_cases hz : i = 0
    · have dz : ¬ (i : Int) > 0 := by omega
      simp (disch := first | assumption | omega | (simp only [wkD, oneCell, Option.isSome_some, *]; done) | (simp only [wkE, ne_eq]; omega)) only [g1, g4, r8, hlt', c0, k2, Int.toNat_natCast, x1, x2, dz, y1, wkF, X_region, X_seq, X_block, X_loop, X_cond, Y_box, Y_un, Y_store, Y_append, Y_makeMap, Y_buildSlice, ibin_shl, ibin_shr, ibin_and, ↓reduceIte, reduceCtorEq, oneCell, setAt, readN, Nat.reduceAdd, Nat.reduceLeDiff, Nat.reduceMul, layAt, Nat.reduceLT, Nat.reduceEqDiff, setParams, Int.reduceLT, Int.reduceLE, Int.reduceGT, Int.reduceGE, Int.reduceEq, Int.reduceNe]
      exact Is_in ⟨l.length - (i + 1), by omega, i + 1, rfl, rfl, rfl, rfl, rfl, by omega, UpTo.succ.2 ⟨hU, ⟨by omega, by omega⟩, Or.inl hz⟩, O1⟩
    · have dz : (i : Int) > 0 := by omega
      have y2 : IntKind.i64.wrap ((i : Int) - 1) = ((i - 1 : Nat) : Int) := by rw [wrap_i64 (by omega) (by omega)]; omega
      have c1 : (0 : Int) ≤ ((i - 1 : Nat) : Int) := by omega
      have c2 : ((i - 1 : Nat) : Int) < (l.length : Int) := by omega
      obtain ⟨b3, o3, s3, d3, hv3, q3, q4⟩ := rdcl (V _ O1.drop) (i := i - 1) (by omega)
      rw [hc] at hv3
      cases hv3
      by_cases hg : cel l (i - 1) ≥ cel l i
      · simp (disch := first | assumption | omega | (simp only [wkD, oneCell, Option.isSome_some, *]; done) | (simp only [wkE, ne_eq]; omega)) only [g1, g4, r8, hlt', c0, k2, Int.toNat_natCast, x1, x2, dz, y2, c1, c2, q4, hg, wkF, X_region, X_seq, X_block, X_loop, X_cond, Y_box, Y_un, Y_store, Y_append, Y_makeMap, Y_buildSlice, ibin_shl, ibin_shr, ibin_and, ↓reduceIte, reduceCtorEq, oneCell, setAt, readN, Nat.reduceAdd, Nat.reduceLeDiff, Nat.reduceMul, layAt, Nat.reduceLT, Nat.reduceEqDiff, setParams, Int.reduceLT, Int.reduceLE, Int.reduceGT, Int.reduceGE, Int.reduceEq, Int.reduceNe]
        refine Is_in ?_
        simp (disch := first | assumption | omega | (simp only [wkD, oneCell, Option.isSome_some, *]; done) | (simp only [wkE, ne_eq]; omega)) only [wkF, X_region, X_seq, X_block, X_loop, X_cond, Y_box, Y_un, Y_store, Y_append, Y_makeMap, Y_buildSlice, ibin_shl, ibin_shr, ibin_and, ↓reduceIte, reduceCtorEq, oneCell, setAt, readN, Nat.reduceAdd, Nat.reduceLeDiff, Nat.reduceMul, layAt, Nat.reduceLT, Nat.reduceEqDiff, setParams, Int.reduceLT, Int.reduceLE, Int.reduceGT, Int.reduceGE, Int.reduceEq, Int.reduceNe]
        exact leaf1 ⟨false, rfl, ⟨fun h => (by cases h), fun h => absurd h (no fun g => by omega)⟩, O1.drop⟩
      · simp (disch := first | assumption | omega | (simp only [wkD, oneCell, Option.isSome_some, *]; done) | (simp only [wkE, ne_eq]; omega)) only [g1, g4, r8, hlt', c0, k2, Int.toNat_natCast, x1, x2, dz, y2, c1, c2, q4, hg, y1, wkF, X_region, X_seq, X_block, X_loop, X_cond, Y_box, Y_un, Y_store, Y_append, Y_makeMap, Y_buildSlice, ibin_shl, ibin_shr, ibin_and, ↓reduceIte, reduceCtorEq, oneCell, setAt, readN, Nat.reduceAdd, Nat.reduceLeDiff, Nat.reduceMul, layAt, Nat.reduceLT, Nat.reduceEqDiff, setParams, Int.reduceLT, Int.reduceLE, Int.reduceGT, Int.reduceGE, Int.reduceEq, Int.reduceNe]
        exact Is_in ⟨l.length - (i + 1), by omega, i + 1, rfl, rfl, rfl, rfl, rfl, by omega, UpTo.succ.2 ⟨hU, ⟨by omega, by omega⟩, Or.inr (by omega)⟩, O1⟩
  · have hlt' : ¬ (i : Int) < (l.length : Int) := by omega
    have hil : i = l.length := by omega
    simp (disch := first | assumption | omega | (simp only [wkD, oneCell, Option.isSome_some, *]; done) | (simp only [wkE, ne_eq]; omega)) only [g1, g4, r8, hlt', wkF, X_region, X_seq, X_block, X_loop, X_cond, Y_box, Y_un, Y_store, Y_append, Y_makeMap, Y_buildSlice, ibin_shl, ibin_shr, ibin_and, ↓reduceIte, reduceCtorEq, oneCell, setAt, readN, Nat.reduceAdd, Nat.reduceLeDiff, Nat.reduceMul, layAt, Nat.reduceLT, Nat.reduceEqDiff, setParams, Int.reduceLT, Int.reduceLE, Int.reduceGT, Int.reduceGE, Int.reduceEq, Int.reduceNe]
    refine Is_in ?_
    simp (disch := first | assumption | omega | (simp only [wkD, oneCell, Option.isSome_some, *]; done) | (simp only [wkE, ne_eq]; omega)) only [wkF, X_region, X_seq, X_block, X_loop, X_cond, Y_box, Y_un, Y_store, Y_append, Y_makeMap, Y_buildSlice, ibin_shl, ibin_shr, ibin_and, ↓reduceIte, reduceCtorEq, oneCell, setAt, readN, Nat.reduceAdd, Nat.reduceLeDiff, Nat.reduceMul, layAt, Nat.reduceLT, Nat.reduceEqDiff, setParams, Int.reduceLT, Int.reduceLE, Int.reduceGT, Int.reduceGE, Int.reduceEq, Int.reduceNe]
    exact leaf1 ⟨true, rfl, ⟨fun _ => ⟨hk, hS, hF, by rw [← hil]; exact hU⟩, fun _ => rfl⟩, O1.drop⟩
theorem mayP_h {n : Nat} {p : Pkt} (hn : 1400 < n) (hl : l.length ≤ 1300) (hg : p.m.gen < 4294967296) (V : ∀ h, Has ro h R → Vw 2 cc h p.m.cl l) (O : Has ro h R) :
    (callV env (n + 3) (.func (.func 9) #[] #[]) [pv p] h).Is fun q => ∃ b : Bool, q.1 = .bool b ∧ (b = true ↔ OkP p l) ∧ Has ro q.2 R := by
  refine call_is env9 ?_
  simp (disch := first | assumption | omega | (simp only [wkD, oneCell, Option.isSome_some, *]; done) | (simp only [wkE, ne_eq]; omega)) only [ir9, List.append_nil, List.nil_append, List.cons_append, List.length_cons, List.length_nil, Nat.reduceAdd, Nat.reduceSub, List.replicate_succ, List.replicate_zero, pv, wkF, X_region, X_seq, X_block, X_loop, X_cond, Y_un, Y_store, Y_append, Y_makeMap, Y_buildSlice, ibin_shl, ibin_shr, ibin_and, ↓reduceIte, reduceCtorEq, oneCell, setAt, readN, Nat.reduceAdd, Nat.reduceLeDiff, Nat.reduceMul, layAt, Nat.reduceLT, Nat.reduceEqDiff, setParams, Int.reduceLT, Int.reduceLE, Int.reduceGT, Int.reduceGE, Int.reduceEq, Int.reduceNe]
  refine Y_boxO O ?_
  intro pb h1 O1 e1
  replace O1 : Has ro h1 (Ob pb (.cells (pc p) 1 false) :: R) := O1
  obtain ⟨r0, r1, r2, r3, r4, r5, r6, r7⟩ := rdp (O1.get 0 rfl)
  by_cases f1 : p.fr ≥ 0
  case neg =>
    simp (disch := first | assumption | omega | (simp only [wkD, oneCell, Option.isSome_some, *]; done) | (simp only [wkE, ne_eq]; omega)) only [r0, r1, f1, wkF, X_region, X_seq, X_block, X_loop, X_cond, Y_box, Y_un, Y_store, Y_append, Y_makeMap, Y_buildSlice, ibin_shl, ibin_shr, ibin_and, ↓reduceIte, reduceCtorEq, oneCell, setAt, readN, Nat.reduceAdd, Nat.reduceLeDiff, Nat.reduceMul, layAt, Nat.reduceLT, Nat.reduceEqDiff, setParams, Int.reduceLT, Int.reduceLE, Int.reduceGT, Int.reduceGE, Int.reduceEq, Int.reduceNe]
    exact leaf1 ⟨false, rfl, ⟨fun h => (by cases h), fun h => (by have := h.1.1; omega)⟩, O1.drop⟩
  by_cases f2 : p.fr < 64
  case neg =>
    simp (disch := first | assumption | omega | (simp only [wkD, oneCell, Option.isSome_some, *]; done) | (simp only [wkE, ne_eq]; omega)) only [r0, r1, f1, f2, wkF, X_region, X_seq, X_block, X_loop, X_cond, Y_box, Y_un, Y_store, Y_append, Y_makeMap, Y_buildSlice, ibin_shl, ibin_shr, ibin_and, ↓reduceIte, reduceCtorEq, oneCell, setAt, readN, Nat.reduceAdd, Nat.reduceLeDiff, Nat.reduceMul, layAt, Nat.reduceLT, Nat.reduceEqDiff, setParams, Int.reduceLT, Int.reduceLE, Int.reduceGT, Int.reduceGE, Int.reduceEq, Int.reduceNe]
    exact leaf1 ⟨false, rfl, ⟨fun h => (by cases h), fun h => (by have := h.1.2; omega)⟩, O1.drop⟩
  by_cases f3 : p.tt ≥ 0
  case neg =>
    simp (disch := first | assumption | omega | (simp only [wkD, oneCell, Option.isSome_some, *]; done) | (simp only [wkE, ne_eq]; omega)) only [r0, r1, f1, f2, f3, wkF, X_region, X_seq, X_block, X_loop, X_cond, Y_box, Y_un, Y_store, Y_append, Y_makeMap, Y_buildSlice, ibin_shl, ibin_shr, ibin_and, ↓reduceIte, reduceCtorEq, oneCell, setAt, readN, Nat.reduceAdd, Nat.reduceLeDiff, Nat.reduceMul, layAt, Nat.reduceLT, Nat.reduceEqDiff, setParams, Int.reduceLT, Int.reduceLE, Int.reduceGT, Int.reduceGE, Int.reduceEq, Int.reduceNe]
    exact leaf1 ⟨false, rfl, ⟨fun h => (by cases h), fun h => (by have := h.2.1.1; omega)⟩, O1.drop⟩
  by_cases f4 : p.tt < 64
  case neg =>
    simp (disch := first | assumption | omega | (simp only [wkD, oneCell, Option.isSome_some, *]; done) | (simp only [wkE, ne_eq]; omega)) only [r0, r1, f1, f2, f3, f4, wkF, X_region, X_seq, X_block, X_loop, X_cond, Y_box, Y_un, Y_store, Y_append, Y_makeMap, Y_buildSlice, ibin_shl, ibin_shr, ibin_and, ↓reduceIte, reduceCtorEq, oneCell, setAt, readN, Nat.reduceAdd, Nat.reduceLeDiff, Nat.reduceMul, layAt, Nat.reduceLT, Nat.reduceEqDiff, setParams, Int.reduceLT, Int.reduceLE, Int.reduceGT, Int.reduceGE, Int.reduceEq, Int.reduceNe]
    exact leaf1 ⟨false, rfl, ⟨fun h => (by cases h), fun h => (by have := h.2.1.2; omega)⟩, O1.drop⟩
  by_cases f5 : p.fr = p.tt
  · have d5 : decide (p.fr = p.tt) = true := decide_eq_true f5
    simp (disch := first | assumption | omega | (simp only [wkD, oneCell, Option.isSome_some, *]; done) | (simp only [wkE, ne_eq]; omega)) only [r0, r1, f1, f2, f3, f4, d5, wkF, X_region, X_seq, X_block, X_loop, X_cond, Y_box, Y_un, Y_store, Y_append, Y_makeMap, Y_buildSlice, ibin_shl, ibin_shr, ibin_and, ↓reduceIte, reduceCtorEq, oneCell, setAt, readN, Nat.reduceAdd, Nat.reduceLeDiff, Nat.reduceMul, layAt, Nat.reduceLT, Nat.reduceEqDiff, setParams, Int.reduceLT, Int.reduceLE, Int.reduceGT, Int.reduceGE, Int.reduceEq, Int.reduceNe]
    exact leaf1 ⟨false, rfl, ⟨fun h => (by cases h), fun h => absurd f5 h.2.2.1⟩, O1.drop⟩
  have d5 : decide (p.fr = p.tt) = false := decide_eq_false f5
  simp (disch := first | assumption | omega | (simp only [wkD, oneCell, Option.isSome_some, *]; done) | (simp only [wkE, ne_eq]; omega)) only [r0, r1, f1, f2, f3, f4, d5, r6, agg_mv, wkF, X_region, X_seq, X_block, X_loop, X_cond, Y_box, Y_un, Y_store, Y_append, Y_makeMap, Y_buildSlice, ibin_shl, ibin_shr, ibin_and, ↓reduceIte, reduceCtorEq, oneCell, setAt, readN, Nat.reduceAdd, Nat.reduceLeDiff, Nat.reduceMul, layAt, Nat.reduceLT, Nat.reduceEqDiff, setParams, Int.reduceLT, Int.reduceLE, Int.reduceGT, Int.reduceGE, Int.reduceEq, Int.reduceNe]
  refine Z_is (may_h (n := n) (m := p.m) hn hl hg V O1.drop) ?_
  rintro w h2 ⟨b, rfl, hb, O2⟩
  simp (disch := first | assumption | omega | (simp only [wkD, oneCell, Option.isSome_some, *]; done) | (simp only [wkE, ne_eq]; omega)) only [wkF, X_region, X_seq, X_block, X_loop, X_cond, Y_box, Y_un, Y_store, Y_append, Y_makeMap, Y_buildSlice, ibin_shl, ibin_shr, ibin_and, ↓reduceIte, reduceCtorEq, oneCell, setAt, readN, Nat.reduceAdd, Nat.reduceLeDiff, Nat.reduceMul, layAt, Nat.reduceLT, Nat.reduceEqDiff, setParams, Int.reduceLT, Int.reduceLE, Int.reduceGT, Int.reduceGE, Int.reduceEq, Int.reduceNe]
  refine leaf1 ⟨b, ?_, ⟨fun h => ⟨⟨by omega, by omega⟩, ⟨by omega, by omega⟩, f5, hb.1 h⟩, fun h => hb.2 h.2.2.2⟩, O2⟩
  cases b <;> rfl
end
end Go.Proofs.YtpodmgbnldmlcaaDoor
