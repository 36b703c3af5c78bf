/-
  The bytes of a packet.
-/
import Derived.Test.YtpodmgbnldmlcaaDoorFk
import Derived.Test.YtpodmgbnldmlcaaDoorPln
namespace Go.Proofs.YtpodmgbnldmlcaaDoor
open Go Go.Ideal Go.ChangeShapes Go.RowKit
set_option maxHeartbeats 0
set_option linter.unusedSimpArgs false
set_option linter.unusedVariables false
set_option maxRecDepth 100000
attribute [local irreducible] callV T.All T.Is run
theorem iun_xor8 {b : Nat} (hb : b < 256) : iun .xor (.int .u8 (b : Int)) = some (.int .u8 ((255 - b : Nat) : Int)) := by
  have h : ∀ b : Fin 256, IntKind.u8.wrap (BitVec.ofInt IntKind.u8.bits (if IntKind.u8.signed then -1 else IntKind.u8.max) ^^^ BitVec.ofInt IntKind.u8.bits ((b.val : Nat) : Int)).toNat = ((255 - b.val : Nat) : Int) := by decide
  have := h ⟨b, hb⟩
  show some (Value.int .u8 _) = _
  rw [this]
/-- A packet. -/
structure Pkt where
  fr : Int
  tt : Int
  fe : Nat
  te : Nat
  sq : Nat
  mt : Nat
  m : Msg
def pc (p : Pkt) : List Value := .int .i64 p.fr :: .int .i64 p.tt :: .int .u32 (p.fe : Int) :: .int .u32 (p.te : Int) :: .int .u32 (p.sq : Int) :: .int .u32 (p.mt : Int) :: mc p.m
def pv (p : Pkt) : Value := .agg (pc p).toArray
theorem pc_len (p : Pkt) : (pc p).length = 15 := rfl
def OkP (p : Pkt) (l : List Cl) : Prop := (0 ≤ p.fr ∧ p.fr ≤ 63) ∧ (0 ≤ p.tt ∧ p.tt ≤ 63) ∧ p.fr ≠ p.tt ∧ OkM p.m l
/-- Numbers are of their kinds. -/
def WfM (m : Msg) (l : List Cl) : Prop := m.gen < 4294967296 ∧ m.stamp < 18446744073709551616 ∧ ∀ j, j < l.length → (l.getD j ⟨0, 0⟩).g < 4294967296
def WfP (p : Pkt) (l : List Cl) : Prop := p.fe < 4294967296 ∧ p.te < 4294967296 ∧ p.sq < 4294967296 ∧ p.mt < 4294967296 ∧ WfM p.m l
theorem nums_of {m : Msg} {l : List Cl} (w : WfM m l) (o : OkM m l) : Nums m l :=
  ⟨o.2.2.1.1.1, o.2.2.1.1.2, w.1, w.2.1, o.2.2.1.2.2.2.2.2, fun j hj => ⟨(o.2.2.2 j hj).1.1, (o.2.2.2 j hj).1.2, w.2.2 j hj⟩⟩
/-- The bytes of a packet, without complements. -/
def allB (p : Pkt) (l : List Cl) : List Nat := [ub p.fr, ub p.tt] ++ ([p.fe, p.te, p.sq, p.mt].flatMap fun n => be n 4) ++ plainB p.m l
/-- Each byte with its complement behind it. -/
def comp (b : List Nat) : List Nat := b.flatMap fun x => [x, 255 - x]
theorem comp_len : ∀ b : List Nat, (comp b).length = 2 * b.length
  | [] => rfl
  | x :: b => by
    have := comp_len b
    unfold comp at this ⊢
    rw [List.flatMap_cons, List.length_append, List.length_cons, List.length_cons, List.length_nil, List.length_cons]; omega
open Classical in
noncomputable def bytesP (p : Pkt) (l : List Cl) : List Nat := if OkP p l then comp (allB p l) else []
theorem bytesP_t {p : Pkt} {l : List Cl} (h : OkP p l) : bytesP p l = comp (allB p l) := if_pos h
theorem bytesP_f {p : Pkt} {l : List Cl} (h : ¬ OkP p l) : bytesP p l = [] := if_neg h
theorem ub_lt (x : Int) : ub x < 256 := by unfold ub; omega
theorem be_lt (x : Nat) : ∀ n, ∀ b ∈ be x n, b < 256
  | 0, b, h => by cases h
  | n + 1, b, h => by
    rw [be] at h
    rcases List.mem_cons.1 h with rfl | h
    · omega
    · exact be_lt x n b h
theorem fb_lt (m : Msg) (l : List Cl) (f : Int) : ∀ b ∈ fb m l f, b < 256 := by
  unfold fb
  have h1 := be_lt m.cell.toNat 2
  have h2 := be_lt m.gen 4
  have h3 := be_lt m.stamp 8
  have hs : ∀ x : Int, ∀ b ∈ [ub x], b < 256 := fun x b hb => by
    rw [List.mem_singleton] at hb
    subst hb; exact ub_lt x
  repeat' split
  · exact h1
  · exact h2
  · exact h3
  · exact hs _
  · exact hs _
  · exact hs _
  · exact hs _
  · intro b hb
    rcases List.mem_cons.1 hb with rfl | hb
    · exact ub_lt _
    · obtain ⟨c, _, hc⟩ := List.mem_flatMap.1 hb
      unfold clb at hc
      rcases List.mem_append.1 hc with hc | hc
      · exact be_lt _ _ b hc
      · exact be_lt _ _ b hc
  · intro b hb; cases hb
theorem allB_lt (p : Pkt) (l : List Cl) : ∀ b ∈ allB p l, b < 256 := by
  intro b hb
  unfold allB plainB at hb
  rcases List.mem_append.1 hb with hb | hb
  · rcases List.mem_append.1 hb with hb | hb
    · rcases List.mem_cons.1 hb with rfl | hb
      · exact ub_lt _
      · rw [List.mem_singleton] at hb
        subst hb; exact ub_lt _
    · obtain ⟨c, _, hc⟩ := List.mem_flatMap.1 hb
      exact be_lt _ _ b hc
  · rcases List.mem_cons.1 hb with rfl | hb
    · exact ub_lt _
    · obtain ⟨c, _, hc⟩ := List.mem_flatMap.1 hb
      exact fb_lt _ _ _ b hc
theorem plainB_len {m : Msg} {l : List Cl} (hl : l.length ≤ 16) : (plainB m l).length ≤ 486 := by
  have := fbs_len (m := m) hl (row m.kd)
  rw [row_len] at this
  unfold plainB
  rw [List.length_cons]; omega
section
variable {ro : Nat → Option (List Value × Nat)} {h : Heap} {R : List Rs} {p : Pkt} {l : List Cl}
theorem rdp {h : Heap} {pb : Nat} {p : Pkt} {t : Bool} (g : h.get pb = some (.cells (pc p) 1 t)) : readC (h.get pb) 0 1 = some [.int .i64 p.fr] ∧ readC (h.get pb) 1 1 = some [.int .i64 p.tt] ∧ readC (h.get pb) 2 1 = some [.int .u32 (p.fe : Int)] ∧ readC (h.get pb) 3 1 = some [.int .u32 (p.te : Int)] ∧ readC (h.get pb) 4 1 = some [.int .u32 (p.sq : Int)] ∧ readC (h.get pb) 5 1 = some [.int .u32 (p.mt : Int)] ∧ readC (h.get pb) 6 9 = some (mc p.m) ∧ readC (h.get pb) 0 15 = some (pc p) := by
  rw [g]
  exact ⟨rfl, rfl, rfl, rfl, rfl, rfl, rfl, rfl⟩
theorem agg_mv (m : Msg) : Value.agg (mc m).toArray = mv m := rfl
theorem agg_pv (p : Pkt) : Value.agg (pc p).toArray = pv p := rfl
theorem checkP_h {n : Nat} (hL : Lay ro) (hn : 2000 < n) (hl : l.length ≤ 1300) (V : ∀ h, Has ro h R → Vw 2 cc h p.m.cl l) (O : Has ro h R) :
    (callV env (n + 7) (.func (.func 11) #[] #[]) [pv p] h).Is fun q => q.1 = code (OkP p l) ∧ Has ro q.2 R := by
  refine call_is env11 ?_
  simp (disch := first | assumption | omega | (simp only [wkD, oneCell, Option.isSome_some, *]; done) | (simp only [wkE, ne_eq]; omega)) only [ir11, List.append_nil, List.nil_append, List.cons_append, List.length_cons, List.length_nil, Nat.reduceAdd, Nat.reduceSub, List.replicate_succ, List.replicate_zero, pv, wkF, X_region, X_seq, X_block, X_loop, X_cond, Y_un, Y_store, Y_append, Y_makeMap, Y_buildSlice, ibin_shl, ibin_shr, ibin_and, ↓reduceIte, reduceCtorEq, oneCell, setAt, readN, Nat.reduceAdd, Nat.reduceLeDiff, Nat.reduceMul, layAt, Nat.reduceLT, Nat.reduceEqDiff, setParams, Int.reduceLT, Int.reduceLE, Int.reduceGT, Int.reduceGE, Int.reduceEq, Int.reduceNe]
  refine Y_boxO O ?_
  intro pb h1 O1 e1
  replace O1 : Has ro h1 (Ob pb (.cells (pc p) 1 false) :: R) := O1
  obtain ⟨r0, r1, r2, r3, r4, r5, r6, r7⟩ := rdp (O1.get 0 rfl)
  by_cases f1 : 0 ≤ p.fr ∧ p.fr ≤ 63
  case neg =>
    have i1 := fun n h => in_f (n := n) (h := h) f1
    simp (disch := first | assumption | omega | (simp only [wkD, oneCell, Option.isSome_some, *]; done) | (simp only [wkE, ne_eq]; omega)) only [r0, r1, i1, wkF, X_region, X_seq, X_block, X_loop, X_cond, Y_box, Y_un, Y_store, Y_append, Y_makeMap, Y_buildSlice, ibin_shl, ibin_shr, ibin_and, ↓reduceIte, reduceCtorEq, oneCell, setAt, readN, Nat.reduceAdd, Nat.reduceLeDiff, Nat.reduceMul, layAt, Nat.reduceLT, Nat.reduceEqDiff, setParams, Int.reduceLT, Int.reduceLE, Int.reduceGT, Int.reduceGE, Int.reduceEq, Int.reduceNe]
    exact leaf1 ⟨(code_f fun h => f1 h.1).symm, O1.drop⟩
  have i1 := fun n h => in_t (n := n) (h := h) f1
  by_cases f2 : 0 ≤ p.tt ∧ p.tt ≤ 63
  case neg =>
    have i2 := fun n h => in_f (n := n) (h := h) f2
    simp (disch := first | assumption | omega | (simp only [wkD, oneCell, Option.isSome_some, *]; done) | (simp only [wkE, ne_eq]; omega)) only [r0, r1, i1, i2, wkF, X_region, X_seq, X_block, X_loop, X_cond, Y_box, Y_un, Y_store, Y_append, Y_makeMap, Y_buildSlice, ibin_shl, ibin_shr, ibin_and, ↓reduceIte, reduceCtorEq, oneCell, setAt, readN, Nat.reduceAdd, Nat.reduceLeDiff, Nat.reduceMul, layAt, Nat.reduceLT, Nat.reduceEqDiff, setParams, Int.reduceLT, Int.reduceLE, Int.reduceGT, Int.reduceGE, Int.reduceEq, Int.reduceNe]
    exact leaf1 ⟨(code_f fun h => f2 h.2.1).symm, O1.drop⟩
  have i2 := fun n h => in_t (n := n) (h := h) f2
  by_cases f3 : p.fr = p.tt
  · have d3 : decide (p.fr = p.tt) = true := decide_eq_true f3
    simp (disch := first | assumption | omega | (simp only [wkD, oneCell, Option.isSome_some, *]; done) | (simp only [wkE, ne_eq]; omega)) only [r0, r1, i1, i2, d3, wkF, X_region, X_seq, X_block, X_loop, X_cond, Y_box, Y_un, Y_store, Y_append, Y_makeMap, Y_buildSlice, ibin_shl, ibin_shr, ibin_and, ↓reduceIte, reduceCtorEq, oneCell, setAt, readN, Nat.reduceAdd, Nat.reduceLeDiff, Nat.reduceMul, layAt, Nat.reduceLT, Nat.reduceEqDiff, setParams, Int.reduceLT, Int.reduceLE, Int.reduceGT, Int.reduceGE, Int.reduceEq, Int.reduceNe]
    exact leaf1 ⟨(code_f fun h => h.2.2.1 f3).symm, O1.drop⟩
  have d3 : decide (p.fr = p.tt) = false := decide_eq_false f3
  simp (disch := first | assumption | omega | (simp only [wkD, oneCell, Option.isSome_some, *]; done) | (simp only [wkE, ne_eq]; omega)) only [r0, r1, i1, i2, d3, r6, agg_mv, wkF, X_region, X_seq, X_block, X_loop, X_cond, Y_box, Y_un, Y_store, Y_append, Y_makeMap, Y_buildSlice, ibin_shl, ibin_shr, ibin_and, ↓reduceIte, reduceCtorEq, oneCell, setAt, readN, Nat.reduceAdd, Nat.reduceLeDiff, Nat.reduceMul, layAt, Nat.reduceLT, Nat.reduceEqDiff, setParams, Int.reduceLT, Int.reduceLE, Int.reduceGT, Int.reduceGE, Int.reduceEq, Int.reduceNe]
  refine Z_is (check_h (n := n) hL hn hl V O1.drop) ?_
  rintro v2 h2 ⟨rfl, O2⟩
  simp (disch := first | assumption | omega | (simp only [wkD, oneCell, Option.isSome_some, *]; done) | (simp only [wkE, ne_eq]; omega)) only [wkF, X_region, X_seq, X_block, X_loop, X_cond, Y_box, Y_un, Y_store, Y_append, Y_makeMap, Y_buildSlice, ibin_shl, ibin_shr, ibin_and, ↓reduceIte, reduceCtorEq, oneCell, setAt, readN, Nat.reduceAdd, Nat.reduceLeDiff, Nat.reduceMul, layAt, Nat.reduceLT, Nat.reduceEqDiff, setParams, Int.reduceLT, Int.reduceLE, Int.reduceGT, Int.reduceGE, Int.reduceEq, Int.reduceNe]
  refine leaf1 ⟨code_eq ⟨fun h => ⟨f1, f2, f3, h⟩, fun h => h.2.2.2⟩, O2⟩

end
end Go.Proofs.YtpodmgbnldmlcaaDoor
