/-
  The bytes of a packet.
-/
import Derived.Test.YtpodmgbnldmlcaaDoorFk
import Derived.Test.YtpodmgbnldmlcaaDoorPln
namespace Go.Proofs.YtpodmgbnldmlcaaDoor
open Go Go.Ideal Go.ChangeShapes Go.RowKit
set_option maxHeartbeats 0
set_option linter.unusedSimpArgs false
set_option linter.unusedVariables false
set_option maxRecDepth 100000
attribute [local irreducible] callV T.All T.Is run
theorem env13 : env 13 = some ir13 := rfl
theorem env15 : env 15 = some ir15 := rfl
theorem iun_xor8 {b : Nat} (hb : b < 256) : iun .xor (.int .u8 (b : Int)) = some (.int .u8 ((255 - b : Nat) : Int)) := by
  have h : ∀ b : Fin 256, IntKind.u8.wrap (BitVec.ofInt IntKind.u8.bits (if IntKind.u8.signed then -1 else IntKind.u8.max) ^^^ BitVec.ofInt IntKind.u8.bits ((b.val : Nat) : Int)).toNat = ((255 - b.val : Nat) : Int) := by decide
  have := h ⟨b, hb⟩
  show some (Value.int .u8 _) = _
  rw [this]
/-- A packet. -/
structure Pkt where
  fr : Int
  tt : Int
  fe : Nat
  te : Nat
  sq : Nat
  mt : Nat
  m : Msg
def pc (p : Pkt) : List Value := .int .i64 p.fr :: .int .i64 p.tt :: .int .u32 (p.fe : Int) :: .int .u32 (p.te : Int) :: .int .u32 (p.sq : Int) :: .int .u32 (p.mt : Int) :: mc p.m
def pv (p : Pkt) : Value := .agg (pc p).toArray
theorem pc_len (p : Pkt) : (pc p).length = 15 := rfl
def OkP (p : Pkt) (l : List Cl) : Prop := (0 ≤ p.fr ∧ p.fr ≤ 63) ∧ (0 ≤ p.tt ∧ p.tt ≤ 63) ∧ p.fr ≠ p.tt ∧ OkM p.m l
/-- Numbers are of their kinds. -/
def WfM (m : Msg) (l : List Cl) : Prop := m.gen < 4294967296 ∧ m.stamp < 18446744073709551616 ∧ ∀ j, j < l.length → (l.getD j ⟨0, 0⟩).g < 4294967296
def WfP (p : Pkt) (l : List Cl) : Prop := p.fe < 4294967296 ∧ p.te < 4294967296 ∧ p.sq < 4294967296 ∧ p.mt < 4294967296 ∧ WfM p.m l
theorem nums_of {m : Msg} {l : List Cl} (w : WfM m l) (o : OkM m l) : Nums m l :=
  ⟨o.2.2.1.1.1, o.2.2.1.1.2, w.1, w.2.1, o.2.2.1.2.2.2.2.2, fun j hj => ⟨(o.2.2.2 j hj).1.1, (o.2.2.2 j hj).1.2, w.2.2 j hj⟩⟩
/-- The bytes of a packet, without complements. -/
def allB (p : Pkt) (l : List Cl) : List Nat := [ub p.fr, ub p.tt] ++ ([p.fe, p.te, p.sq, p.mt].flatMap fun n => be n 4) ++ plainB p.m l
/-- Each byte with its complement behind it. -/
def comp (b : List Nat) : List Nat := b.flatMap fun x => [x, 255 - x]
theorem comp_len : ∀ b : List Nat, (comp b).length = 2 * b.length
  | [] => rfl
  | x :: b => by
    have := comp_len b
    unfold comp at this ⊢
    rw [List.flatMap_cons, List.length_append, List.length_cons, List.length_cons, List.length_nil, List.length_cons]; omega
open Classical in
noncomputable def bytesP (p : Pkt) (l : List Cl) : List Nat := if OkP p l then comp (allB p l) else []
theorem bytesP_t {p : Pkt} {l : List Cl} (h : OkP p l) : bytesP p l = comp (allB p l) := if_pos h
theorem bytesP_f {p : Pkt} {l : List Cl} (h : ¬ OkP p l) : bytesP p l = [] := if_neg h
open Classical in
noncomputable def sizeM (m : Msg) (l : List Cl) : Int := if OkM m l then 2 * (18 + ((plainB m l).length : Int)) else 0
theorem sizeM_t {m : Msg} {l : List Cl} (h : OkM m l) : sizeM m l = 2 * (18 + ((plainB m l).length : Int)) := if_pos h
theorem sizeM_f {m : Msg} {l : List Cl} (h : ¬ OkM m l) : sizeM m l = 0 := if_neg h
theorem ub_lt (x : Int) : ub x < 256 := by unfold ub; omega
theorem be_lt (x : Nat) : ∀ n, ∀ b ∈ be x n, b < 256
  | 0, b, h => by cases h
  | n + 1, b, h => by
    rw [be] at h
    rcases List.mem_cons.1 h with rfl | h
    · omega
    · exact be_lt x n b h
theorem fb_lt (m : Msg) (l : List Cl) (f : Int) : ∀ b ∈ fb m l f, b < 256 := by
  unfold fb
  have h1 := be_lt m.cell.toNat 2
  have h2 := be_lt m.gen 4
  have h3 := be_lt m.stamp 8
  have hs : ∀ x : Int, ∀ b ∈ [ub x], b < 256 := fun x b hb => by
    rw [List.mem_singleton] at hb
    subst hb; exact ub_lt x
  repeat' split
  · exact h1
  · exact h2
  · exact h3
  · exact hs _
  · exact hs _
  · exact hs _
  · exact hs _
  · intro b hb
    rcases List.mem_cons.1 hb with rfl | hb
    · exact ub_lt _
    · obtain ⟨c, _, hc⟩ := List.mem_flatMap.1 hb
      unfold clb at hc
      rcases List.mem_append.1 hc with hc | hc
      · exact be_lt _ _ b hc
      · exact be_lt _ _ b hc
  · intro b hb; cases hb
theorem allB_lt (p : Pkt) (l : List Cl) : ∀ b ∈ allB p l, b < 256 := by
  intro b hb
  unfold allB plainB at hb
  rcases List.mem_append.1 hb with hb | hb
  · rcases List.mem_append.1 hb with hb | hb
    · rcases List.mem_cons.1 hb with rfl | hb
      · exact ub_lt _
      · rw [List.mem_singleton] at hb
        subst hb; exact ub_lt _
    · obtain ⟨c, _, hc⟩ := List.mem_flatMap.1 hb
      exact be_lt _ _ b hc
  · rcases List.mem_cons.1 hb with rfl | hb
    · exact ub_lt _
    · obtain ⟨c, _, hc⟩ := List.mem_flatMap.1 hb
      exact fb_lt _ _ _ b hc
theorem plainB_len {m : Msg} {l : List Cl} (hl : l.length ≤ 16) : (plainB m l).length ≤ 486 := by
  have := fbs_len (m := m) hl (row m.kd)
  rw [row_len] at this
  unfold plainB
  rw [List.length_cons]; omega
def gc (x : Nat) : List Value := [.int .u32 (x : Int)]
theorem gc_len (x : Nat) : (gc x).length = 1 := rfl
theorem be_flat4 : ∀ F : List Nat, (F.flatMap fun n => be n 4).length = 4 * F.length
  | [] => rfl
  | f :: F => by
    have := be_flat4 F
    rw [List.flatMap_cons, List.length_append, be_len, List.length_cons]; omega
section
variable {ro : Nat → Option (List Value × Nat)} {h : Heap} {R : List Rs} {p : Pkt} {l : List Cl}
theorem rdp {h : Heap} {pb : Nat} {p : Pkt} {t : Bool} (g : h.get pb = some (.cells (pc p) 1 t)) : readC (h.get pb) 0 1 = some [.int .i64 p.fr] ∧ readC (h.get pb) 1 1 = some [.int .i64 p.tt] ∧ readC (h.get pb) 2 1 = some [.int .u32 (p.fe : Int)] ∧ readC (h.get pb) 3 1 = some [.int .u32 (p.te : Int)] ∧ readC (h.get pb) 4 1 = some [.int .u32 (p.sq : Int)] ∧ readC (h.get pb) 5 1 = some [.int .u32 (p.mt : Int)] ∧ readC (h.get pb) 6 9 = some (mc p.m) ∧ readC (h.get pb) 0 15 = some (pc p) := by
  rw [g]
  exact ⟨rfl, rfl, rfl, rfl, rfl, rfl, rfl, rfl⟩
theorem agg_mv (m : Msg) : Value.agg (mc m).toArray = mv m := rfl
theorem agg_pv (p : Pkt) : Value.agg (pc p).toArray = pv p := rfl
theorem checkP_h {n : Nat} (hL : Lay ro) (hn : 2000 < n) (hl : l.length ≤ 1300) (V : ∀ h, Has ro h R → Vw 2 cc h p.m.cl l) (O : Has ro h R) :
    (callV env (n + 7) (.func (.func 11) #[] #[]) [pv p] h).Is fun q => q.1 = code (OkP p l) ∧ Has ro q.2 R := by
  refine call_is env11 ?_
  simp (disch := first | assumption | omega | (simp only [wkD, oneCell, Option.isSome_some, *]; done) | (simp only [wkE, ne_eq]; omega)) only [ir11, List.append_nil, List.nil_append, List.cons_append, List.length_cons, List.length_nil, Nat.reduceAdd, Nat.reduceSub, List.replicate_succ, List.replicate_zero, pv, wk0, wk1, wk2, wk3, wk4, wk5, X_region, X_seq, X_block, X_loop, X_cond, Y_un, Y_store, Y_append, Y_makeMap, Y_buildSlice, ibin_shl, ibin_shr, ibin_and, List.set_cons_zero, List.set_cons_succ, List.getD_cons_zero, List.getD_cons_succ, List.map_cons, List.map_nil, ↓reduceIte, reduceCtorEq, oneCell, List.length_cons, List.length_nil, setAt, readN, bne_iff_ne, ne_eq, Nat.reduceAdd, Nat.reduceLeDiff, List.getElem?_cons_zero, List.getElem?_cons_succ, Nat.reduceMul, Option.isSome_some, layAt, Nat.reduceLT, Option.isNone_some, Option.isNone_none, beq_self_eq_true, Nat.reduceEqDiff, setParams, Int.reduceLT, Int.reduceLE, Int.reduceGT, Int.reduceGE, Int.reduceEq, Int.reduceNe, Option.map_some, Option.map_none, Option.isSome_none]
  refine Y_boxO O ?_
  intro pb h1 O1 e1
  replace O1 : Has ro h1 (Ob pb (.cells (pc p) 1 false) :: R) := O1
  obtain ⟨r0, r1, r2, r3, r4, r5, r6, r7⟩ := rdp (O1.get 0 rfl)
  by_cases f1 : 0 ≤ p.fr ∧ p.fr ≤ 63
  case neg =>
    have i1 := fun n h => in_f (n := n) (h := h) f1
    simp (disch := first | assumption | omega | (simp only [wkD, oneCell, Option.isSome_some, *]; done) | (simp only [wkE, ne_eq]; omega)) only [r0, r1, i1, wk0, wk1, wk2, wk3, wk4, wk5, X_region, X_seq, X_block, X_loop, X_cond, Y_box, Y_un, Y_store, Y_append, Y_makeMap, Y_buildSlice, ibin_shl, ibin_shr, ibin_and, List.set_cons_zero, List.set_cons_succ, List.getD_cons_zero, List.getD_cons_succ, List.map_cons, List.map_nil, ↓reduceIte, reduceCtorEq, oneCell, List.length_cons, List.length_nil, setAt, readN, bne_iff_ne, ne_eq, Nat.reduceAdd, Nat.reduceLeDiff, List.getElem?_cons_zero, List.getElem?_cons_succ, Nat.reduceMul, Option.isSome_some, layAt, Nat.reduceLT, Option.isNone_some, Option.isNone_none, beq_self_eq_true, Nat.reduceEqDiff, setParams, Int.reduceLT, Int.reduceLE, Int.reduceGT, Int.reduceGE, Int.reduceEq, Int.reduceNe, Option.map_some, Option.map_none, Option.isSome_none]
    exact leaf1 ⟨(code_f fun h => f1 h.1).symm, O1.drop⟩
  have i1 := fun n h => in_t (n := n) (h := h) f1
  by_cases f2 : 0 ≤ p.tt ∧ p.tt ≤ 63
  case neg =>
    have i2 := fun n h => in_f (n := n) (h := h) f2
    simp (disch := first | assumption | omega | (simp only [wkD, oneCell, Option.isSome_some, *]; done) | (simp only [wkE, ne_eq]; omega)) only [r0, r1, i1, i2, wk0, wk1, wk2, wk3, wk4, wk5, X_region, X_seq, X_block, X_loop, X_cond, Y_box, Y_un, Y_store, Y_append, Y_makeMap, Y_buildSlice, ibin_shl, ibin_shr, ibin_and, List.set_cons_zero, List.set_cons_succ, List.getD_cons_zero, List.getD_cons_succ, List.map_cons, List.map_nil, ↓reduceIte, reduceCtorEq, oneCell, List.length_cons, List.length_nil, setAt, readN, bne_iff_ne, ne_eq, Nat.reduceAdd, Nat.reduceLeDiff, List.getElem?_cons_zero, List.getElem?_cons_succ, Nat.reduceMul, Option.isSome_some, layAt, Nat.reduceLT, Option.isNone_some, Option.isNone_none, beq_self_eq_true, Nat.reduceEqDiff, setParams, Int.reduceLT, Int.reduceLE, Int.reduceGT, Int.reduceGE, Int.reduceEq, Int.reduceNe, Option.map_some, Option.map_none, Option.isSome_none]
    exact leaf1 ⟨(code_f fun h => f2 h.2.1).symm, O1.drop⟩
  have i2 := fun n h => in_t (n := n) (h := h) f2
  by_cases f3 : p.fr = p.tt
  · have d3 : decide (p.fr = p.tt) = true := decide_eq_true f3
    simp (disch := first | assumption | omega | (simp only [wkD, oneCell, Option.isSome_some, *]; done) | (simp only [wkE, ne_eq]; omega)) only [r0, r1, i1, i2, d3, wk0, wk1, wk2, wk3, wk4, wk5, X_region, X_seq, X_block, X_loop, X_cond, Y_box, Y_un, Y_store, Y_append, Y_makeMap, Y_buildSlice, ibin_shl, ibin_shr, ibin_and, List.set_cons_zero, List.set_cons_succ, List.getD_cons_zero, List.getD_cons_succ, List.map_cons, List.map_nil, ↓reduceIte, reduceCtorEq, oneCell, List.length_cons, List.length_nil, setAt, readN, bne_iff_ne, ne_eq, Nat.reduceAdd, Nat.reduceLeDiff, List.getElem?_cons_zero, List.getElem?_cons_succ, Nat.reduceMul, Option.isSome_some, layAt, Nat.reduceLT, Option.isNone_some, Option.isNone_none, beq_self_eq_true, Nat.reduceEqDiff, setParams, Int.reduceLT, Int.reduceLE, Int.reduceGT, Int.reduceGE, Int.reduceEq, Int.reduceNe, Option.map_some, Option.map_none, Option.isSome_none]
    exact leaf1 ⟨(code_f fun h => h.2.2.1 f3).symm, O1.drop⟩
  have d3 : decide (p.fr = p.tt) = false := decide_eq_false f3
  simp (disch := first | assumption | omega | (simp only [wkD, oneCell, Option.isSome_some, *]; done) | (simp only [wkE, ne_eq]; omega)) only [r0, r1, i1, i2, d3, r6, agg_mv, wk0, wk1, wk2, wk3, wk4, wk5, X_region, X_seq, X_block, X_loop, X_cond, Y_box, Y_un, Y_store, Y_append, Y_makeMap, Y_buildSlice, ibin_shl, ibin_shr, ibin_and, List.set_cons_zero, List.set_cons_succ, List.getD_cons_zero, List.getD_cons_succ, List.map_cons, List.map_nil, ↓reduceIte, reduceCtorEq, oneCell, List.length_cons, List.length_nil, setAt, readN, bne_iff_ne, ne_eq, Nat.reduceAdd, Nat.reduceLeDiff, List.getElem?_cons_zero, List.getElem?_cons_succ, Nat.reduceMul, Option.isSome_some, layAt, Nat.reduceLT, Option.isNone_some, Option.isNone_none, beq_self_eq_true, Nat.reduceEqDiff, setParams, Int.reduceLT, Int.reduceLE, Int.reduceGT, Int.reduceGE, Int.reduceEq, Int.reduceNe, Option.map_some, Option.map_none, Option.isSome_none]
  refine Z_is (check_h (n := n) hL hn hl V O1.drop) ?_
  rintro v2 h2 ⟨rfl, O2⟩
  simp (disch := first | assumption | omega | (simp only [wkD, oneCell, Option.isSome_some, *]; done) | (simp only [wkE, ne_eq]; omega)) only [wk0, wk1, wk2, wk3, wk4, wk5, X_region, X_seq, X_block, X_loop, X_cond, Y_box, Y_un, Y_store, Y_append, Y_makeMap, Y_buildSlice, ibin_shl, ibin_shr, ibin_and, List.set_cons_zero, List.set_cons_succ, List.getD_cons_zero, List.getD_cons_succ, List.map_cons, List.map_nil, ↓reduceIte, reduceCtorEq, oneCell, List.length_cons, List.length_nil, setAt, readN, bne_iff_ne, ne_eq, Nat.reduceAdd, Nat.reduceLeDiff, List.getElem?_cons_zero, List.getElem?_cons_succ, Nat.reduceMul, Option.isSome_some, layAt, Nat.reduceLT, Option.isNone_some, Option.isNone_none, beq_self_eq_true, Nat.reduceEqDiff, setParams, Int.reduceLT, Int.reduceLE, Int.reduceGT, Int.reduceGE, Int.reduceEq, Int.reduceNe, Option.map_some, Option.map_none, Option.isSome_none]
  refine leaf1 ⟨code_eq ⟨fun h => ⟨f1, f2, f3, h⟩, fun h => h.2.2.2⟩, O2⟩

theorem bytes_h {n : Nat} (hL : Lay ro) (hn : 2000 < n) (hl : l.length ≤ 200) (hW : WfP p l) (V : ∀ h, Has ro h R → Vw 2 cc h p.m.cl l) (O : Has ro h R) :
    (callV env (n + 8) (.func (.func 13) #[] #[]) [pv p] h).Is fun q => ∃ v, q.1 = .tuple #[v, code (OkP p l)] ∧ Has ro q.2 (Sc 1 bc v (bytesP p l) :: R) := by
  refine call_is env13 ?_
  simp (disch := first | assumption | omega | (simp only [wkD, oneCell, Option.isSome_some, *]; done) | (simp only [wkE, ne_eq]; omega)) only [ir13, List.append_nil, List.nil_append, List.cons_append, List.length_cons, List.length_nil, Nat.reduceAdd, Nat.reduceSub, List.replicate_succ, List.replicate_zero, pv, wk0, wk1, wk2, wk3, wk4, wk5, X_region, X_seq, X_block, X_loop, X_cond, Y_un, Y_store, Y_append, Y_makeMap, Y_buildSlice, ibin_shl, ibin_shr, ibin_and, List.set_cons_zero, List.set_cons_succ, List.getD_cons_zero, List.getD_cons_succ, List.map_cons, List.map_nil, ↓reduceIte, reduceCtorEq, oneCell, List.length_cons, List.length_nil, setAt, readN, bne_iff_ne, ne_eq, Nat.reduceAdd, Nat.reduceLeDiff, List.getElem?_cons_zero, List.getElem?_cons_succ, Nat.reduceMul, Option.isSome_some, layAt, Nat.reduceLT, Option.isNone_some, Option.isNone_none, beq_self_eq_true, Nat.reduceEqDiff, setParams, Int.reduceLT, Int.reduceLE, Int.reduceGT, Int.reduceGE, Int.reduceEq, Int.reduceNe, Option.map_some, Option.map_none, Option.isSome_none]
  refine Y_boxO O ?_
  intro pb h1 O1 e1
  replace O1 : Has ro h1 (Ob pb (.cells (pc p) 1 false) :: R) := O1
  obtain ⟨r0, r1, r2, r3, r4, r5, r6, r7⟩ := rdp (O1.get 0 rfl)
  simp (disch := first | assumption | omega | (simp only [wkD, oneCell, Option.isSome_some, *]; done) | (simp only [wkE, ne_eq]; omega)) only [r7, agg_pv, wk0, wk1, wk2, wk3, wk4, wk5, X_region, X_seq, X_block, X_loop, X_cond, Y_box, Y_un, Y_store, Y_append, Y_makeMap, Y_buildSlice, ibin_shl, ibin_shr, ibin_and, List.set_cons_zero, List.set_cons_succ, List.getD_cons_zero, List.getD_cons_succ, List.map_cons, List.map_nil, ↓reduceIte, reduceCtorEq, oneCell, List.length_cons, List.length_nil, setAt, readN, bne_iff_ne, ne_eq, Nat.reduceAdd, Nat.reduceLeDiff, List.getElem?_cons_zero, List.getElem?_cons_succ, Nat.reduceMul, Option.isSome_some, layAt, Nat.reduceLT, Option.isNone_some, Option.isNone_none, beq_self_eq_true, Nat.reduceEqDiff, setParams, Int.reduceLT, Int.reduceLE, Int.reduceGT, Int.reduceGE, Int.reduceEq, Int.reduceNe, Option.map_some, Option.map_none, Option.isSome_none]
  refine Z_is (checkP_h (n := n) hL (by omega) (by omega) (fun h O => V h O.drop) O1) ?_
  rintro v2 h2 ⟨rfl, O2⟩
  clear O1 r0 r1 r2 r3 r4 r5 r6 r7 e1 O
  by_cases hok : OkP p l
  case neg =>
    rw [code_f hok]
    simp (disch := first | assumption | omega | (simp only [wkD, oneCell, Option.isSome_some, *]; done) | (simp only [wkE, ne_eq]; omega)) only [wk0, wk1, wk2, wk3, wk4, wk5, X_region, X_seq, X_block, X_loop, X_cond, Y_box, Y_un, Y_store, Y_append, Y_makeMap, Y_buildSlice, ibin_shl, ibin_shr, ibin_and, List.set_cons_zero, List.set_cons_succ, List.getD_cons_zero, List.getD_cons_succ, List.map_cons, List.map_nil, ↓reduceIte, reduceCtorEq, oneCell, List.length_cons, List.length_nil, setAt, readN, bne_iff_ne, ne_eq, Nat.reduceAdd, Nat.reduceLeDiff, List.getElem?_cons_zero, List.getElem?_cons_succ, Nat.reduceMul, Option.isSome_some, layAt, Nat.reduceLT, Option.isNone_some, Option.isNone_none, beq_self_eq_true, Nat.reduceEqDiff, setParams, Int.reduceLT, Int.reduceLE, Int.reduceGT, Int.reduceGE, Int.reduceEq, Int.reduceNe, Option.map_some, Option.map_none, Option.isSome_none]
    refine leaf2 ⟨_, rfl, ?_⟩
    rw [bytesP_f hok]
    exact O2.drop.scNil
  rw [code_t hok]
  obtain ⟨w1, w2, w3, w4, w5⟩ := hW
  have hN := nums_of w5 hok.2.2.2
  have hl16 : l.length ≤ 16 := hN.2.2.2.2.1
  obtain ⟨r0, r1, r2, r3, r4, r5, r6, r7⟩ := rdp (O2.get 0 rfl)
  have u1 := u8_ub p.fr
  have u2 := u8_ub p.tt
  simp (disch := first | assumption | omega | (simp only [wkD, oneCell, Option.isSome_some, *]; done) | (simp only [wkE, ne_eq]; omega)) only [r0, r1, u1, u2, wk0, wk1, wk2, wk3, wk4, wk5, X_region, X_seq, X_block, X_loop, X_cond, Y_box, Y_un, Y_store, Y_append, Y_makeMap, ibin_shl, ibin_shr, ibin_and, List.set_cons_zero, List.set_cons_succ, List.getD_cons_zero, List.getD_cons_succ, List.map_cons, List.map_nil, ↓reduceIte, reduceCtorEq, oneCell, List.length_cons, List.length_nil, setAt, readN, bne_iff_ne, ne_eq, Nat.reduceAdd, Nat.reduceLeDiff, List.getElem?_cons_zero, List.getElem?_cons_succ, Nat.reduceMul, Option.isSome_some, layAt, Nat.reduceLT, Option.isNone_some, Option.isNone_none, beq_self_eq_true, Nat.reduceEqDiff, setParams, Int.reduceLT, Int.reduceLE, Int.reduceGT, Int.reduceGE, Int.reduceEq, Int.reduceNe, Option.map_some, Option.map_none, Option.isSome_none]
  refine Y_buildSliceO O2 (cs := [ub p.fr, ub p.tt].flatMap bc) rfl ?_
  intro b3 h3 O3 e3
  replace O3 : Has ro h3 (Sc 1 bc (.slice (some ⟨b3, 0, none⟩) 2 2) [ub p.fr, ub p.tt] :: Ob pb (.cells (pc p) 1 false) :: R) := Has.scClose (b := b3) (c := 2) (rest := []) (sp := none) (t := false) (zz := 1) rfl (Nat.le_refl _) rfl (Or.inr rfl) O3
  obtain ⟨r0, r1, r2, r3, r4, r5, r6, r7⟩ := rdp (O3.get 1 rfl)
  simp (disch := first | assumption | omega | (simp only [wkD, oneCell, Option.isSome_some, *]; done) | (simp only [wkE, ne_eq]; omega)) only [r2, r3, r4, r5, wk0, wk1, wk2, wk3, wk4, wk5, X_region, X_seq, X_block, X_loop, X_cond, Y_box, Y_un, Y_store, Y_append, Y_makeMap, ibin_shl, ibin_shr, ibin_and, List.set_cons_zero, List.set_cons_succ, List.getD_cons_zero, List.getD_cons_succ, List.map_cons, List.map_nil, ↓reduceIte, reduceCtorEq, oneCell, List.length_cons, List.length_nil, setAt, readN, bne_iff_ne, ne_eq, Nat.reduceAdd, Nat.reduceLeDiff, List.getElem?_cons_zero, List.getElem?_cons_succ, Nat.reduceMul, Option.isSome_some, layAt, Nat.reduceLT, Option.isNone_some, Option.isNone_none, beq_self_eq_true, Nat.reduceEqDiff, setParams, Int.reduceLT, Int.reduceLE, Int.reduceGT, Int.reduceGE, Int.reduceEq, Int.reduceNe, Option.map_some, Option.map_none, Option.isSome_none]
  refine Y_buildSliceO O3 (cs := [p.fe, p.te, p.sq, p.mt].flatMap gc) rfl ?_
  intro b4 h4 O4 e4
  simp (disch := first | assumption | omega | (simp only [wkD, oneCell, Option.isSome_some, *]; done) | (simp only [wkE, ne_eq]; omega)) only [wk0, wk1, wk2, wk3, wk4, wk5, X_region, X_seq, X_block, X_loop, X_cond, Y_box, Y_un, Y_store, Y_append, Y_makeMap, Y_buildSlice, ibin_shl, ibin_shr, ibin_and, List.set_cons_zero, List.set_cons_succ, List.getD_cons_zero, List.getD_cons_succ, List.map_cons, List.map_nil, ↓reduceIte, reduceCtorEq, oneCell, List.length_cons, List.length_nil, setAt, readN, bne_iff_ne, ne_eq, Nat.reduceAdd, Nat.reduceLeDiff, List.getElem?_cons_zero, List.getElem?_cons_succ, Nat.reduceMul, Option.isSome_some, layAt, Nat.reduceLT, Option.isNone_some, Option.isNone_none, beq_self_eq_true, Nat.reduceEqDiff, setParams, Int.reduceLT, Int.reduceLE, Int.reduceGT, Int.reduceGE, Int.reduceEq, Int.reduceNe, Option.map_some, Option.map_none, Option.isSome_none]
  obtain ⟨v, hv⟩ : ∃ v, v = Value.slice (some ⟨b3, 0, none⟩) 2 2 := ⟨_, rfl⟩
  rw [← hv] at O4
  refine L_is (fun q s => ∃ (i : Nat) (v : Value), s.defers = [] ∧ s.tmps.length = 59 ∧ s.tmps.getD 1 undefV = .pointer (some ⟨pb, 0, none⟩) ∧ s.tmps.getD 5 undefV = v ∧ s.tmps.getD 31 undefV = .slice (some ⟨b4, 0, none⟩) 4 4 ∧ s.tmps.getD 32 undefV = .int .i64 4 ∧ s.tmps.getD 33 undefV = .int .i64 (i : Int) ∧ q = 4 - i ∧ i ≤ 4 ∧ Has ro s.h (Ob b4 (.cells ([p.fe, p.te, p.sq, p.mt].flatMap gc) 1 false) :: Sc 1 bc v ([ub p.fr, ub p.tt] ++ ([p.fe, p.te, p.sq, p.mt].take i).flatMap fun n => be n 4) :: Ob pb (.cells (pc p) 1 false) :: R)) 4 ?_ (by omega) ?_
  · exact ⟨0, v, rfl, rfl, rfl, hv.symm, rfl, rfl, rfl, rfl, by omega, O4⟩
  clear O4 hv e3 e4
  clear v
  rintro q_ tm df h5 ⟨i, v, hd, hlen_, g1, g5, g31, g32, g33, hq, hi, O⟩
  simp only at hd g1 g5 g31 g32 g33 O
  subst hd
  obtain ⟨w, hg_, rfl⟩ := explode hlen_
  simp only [hg_] at g1 g5 g31 g32 g33
  clear hlen_ hg_
  by_cases hlt : i < 4
  · have hlt' : (i : Int) < 4 := by omega
    have c0 : (0 : Int) ≤ (i : Int) := by omega
    have c4 : (i : Int) < ((4 : Nat) : Int) := by omega
    have y1 : IntKind.i64.wrap ((i : Int) + 1) = ((i + 1 : Nat) : Int) := by rw [wrap_i64 (by omega) (by omega)]; omega
    have Vg : Vw 1 gc h5 (.slice (some ⟨b4, 0, none⟩) 4 4) [p.fe, p.te, p.sq, p.mt] := Has.vwo O 0 rfl rfl
    obtain ⟨x, hx, hx2⟩ : ∃ x, [p.fe, p.te, p.sq, p.mt][i]? = some x ∧ x < 4294967296 := by
      have : i = 0 ∨ i = 1 ∨ i = 2 ∨ i = 3 := by omega
      rcases this with rfl | rfl | rfl | rfl
      · exact ⟨_, rfl, w1⟩
      · exact ⟨_, rfl, w2⟩
      · exact ⟨_, rfl, w3⟩
      · exact ⟨_, rfl, w4⟩
    obtain ⟨b', o', s', c', hv', -, k1⟩ := Vg.rd gc_len hx
    cases hv'
    rw [Nat.zero_add] at k1
    have wu : IntKind.u64.wrap (x : Int) = (x : Int) := by rw [u64_of (by omega) (by omega), Int.toNat_natCast]
    have gx : gc x = [.int .u32 (x : Int)] := rfl
    simp (disch := first | assumption | omega | (simp only [wkD, oneCell, Option.isSome_some, *]; done) | (simp only [wkE, ne_eq]; omega)) only [g1, g5, g31, g32, g33, hlt', c0, c4, Int.toNat_natCast, k1, gx, wu, Nat.zero_add, wk0, wk1, wk2, wk3, wk4, wk5, X_region, X_seq, X_block, X_loop, X_cond, Y_box, Y_un, Y_store, Y_append, Y_makeMap, Y_buildSlice, ibin_shl, ibin_shr, ibin_and, List.set_cons_zero, List.set_cons_succ, List.getD_cons_zero, List.getD_cons_succ, List.map_cons, List.map_nil, ↓reduceIte, reduceCtorEq, oneCell, List.length_cons, List.length_nil, setAt, readN, bne_iff_ne, ne_eq, Nat.reduceAdd, Nat.reduceLeDiff, List.getElem?_cons_zero, List.getElem?_cons_succ, Nat.reduceMul, Option.isSome_some, layAt, Nat.reduceLT, Option.isNone_some, Option.isNone_none, beq_self_eq_true, Nat.reduceEqDiff, setParams, Int.reduceLT, Int.reduceLE, Int.reduceGT, Int.reduceGE, Int.reduceEq, Int.reduceNe, Option.map_some, Option.map_none, Option.isSome_none]
    have bl := be_flat4 ([p.fe, p.te, p.sq, p.mt].take i)
    rw [List.length_take] at bl
    refine Z_is (put_h (n := n + 6) (m := 4) (x := x) (by omega) (by omega) (by simp only [List.length_append, List.length_cons, List.length_nil]; omega) (O.at 1 rfl)) ?_
    rintro v6 h6 O6
    replace O6 : Has ro h6 (Sc 1 bc v6 (([ub p.fr, ub p.tt] ++ ([p.fe, p.te, p.sq, p.mt].take i).flatMap fun n => be n 4) ++ be x 4) :: Ob b4 (.cells ([p.fe, p.te, p.sq, p.mt].flatMap gc) 1 false) :: Ob pb (.cells (pc p) 1 false) :: R) := O6
    have e2 : [p.fe, p.te, p.sq, p.mt].take (i + 1) = [p.fe, p.te, p.sq, p.mt].take i ++ [x] := by rw [List.take_add_one, hx]; rfl
    have e3 : ([ub p.fr, ub p.tt] ++ ([p.fe, p.te, p.sq, p.mt].take i).flatMap fun n => be n 4) ++ be x 4 = [ub p.fr, ub p.tt] ++ ([p.fe, p.te, p.sq, p.mt].take (i + 1)).flatMap fun n => be n 4 := by
      rw [e2, List.flatMap_append, List.flatMap_singleton, List.append_assoc]
    rw [e3] at O6
    simp (disch := first | assumption | omega | (simp only [wkD, oneCell, Option.isSome_some, *]; done) | (simp only [wkE, ne_eq]; omega)) only [g1, g5, g31, g32, g33, y1, wk0, wk1, wk2, wk3, wk4, wk5, X_region, X_seq, X_block, X_loop, X_cond, Y_box, Y_un, Y_store, Y_append, Y_makeMap, Y_buildSlice, ibin_shl, ibin_shr, ibin_and, List.set_cons_zero, List.set_cons_succ, List.getD_cons_zero, List.getD_cons_succ, List.map_cons, List.map_nil, ↓reduceIte, reduceCtorEq, oneCell, List.length_cons, List.length_nil, setAt, readN, bne_iff_ne, ne_eq, Nat.reduceAdd, Nat.reduceLeDiff, List.getElem?_cons_zero, List.getElem?_cons_succ, Nat.reduceMul, Option.isSome_some, layAt, Nat.reduceLT, Option.isNone_some, Option.isNone_none, beq_self_eq_true, Nat.reduceEqDiff, setParams, Int.reduceLT, Int.reduceLE, Int.reduceGT, Int.reduceGE, Int.reduceEq, Int.reduceNe, Option.map_some, Option.map_none, Option.isSome_none]
    exact Is_in ⟨4 - (i + 1), by omega, i + 1, v6, rfl, rfl, rfl, rfl, rfl, rfl, rfl, rfl, by omega, O6.at 1 rfl⟩
  have hlt' : ¬ (i : Int) < 4 := by omega
  simp (disch := first | assumption | omega | (simp only [wkD, oneCell, Option.isSome_some, *]; done) | (simp only [wkE, ne_eq]; omega)) only [g1, g5, g31, g32, g33, hlt', wk0, wk1, wk2, wk3, wk4, wk5, X_region, X_seq, X_block, X_loop, X_cond, Y_box, Y_un, Y_store, Y_append, Y_makeMap, Y_buildSlice, ibin_shl, ibin_shr, ibin_and, List.set_cons_zero, List.set_cons_succ, List.getD_cons_zero, List.getD_cons_succ, List.map_cons, List.map_nil, ↓reduceIte, reduceCtorEq, oneCell, List.length_cons, List.length_nil, setAt, readN, bne_iff_ne, ne_eq, Nat.reduceAdd, Nat.reduceLeDiff, List.getElem?_cons_zero, List.getElem?_cons_succ, Nat.reduceMul, Option.isSome_some, layAt, Nat.reduceLT, Option.isNone_some, Option.isNone_none, beq_self_eq_true, Nat.reduceEqDiff, setParams, Int.reduceLT, Int.reduceLE, Int.reduceGT, Int.reduceGE, Int.reduceEq, Int.reduceNe, Option.map_some, Option.map_none, Option.isSome_none]
  refine Is_in ?_
  rw [List.take_of_length_le (show 4 ≤ i by omega)] at O
  obtain ⟨r0, r1, r2, r3, r4, r5, r6, r7⟩ := rdp (O.get 2 rfl)
  simp (disch := first | assumption | omega | (simp only [wkD, oneCell, Option.isSome_some, *]; done) | (simp only [wkE, ne_eq]; omega)) only [g1, g5, g31, g32, g33, r6, agg_mv, wk0, wk1, wk2, wk3, wk4, wk5, X_region, X_seq, X_block, X_loop, X_cond, Y_box, Y_un, Y_store, Y_append, Y_makeMap, Y_buildSlice, ibin_shl, ibin_shr, ibin_and, List.set_cons_zero, List.set_cons_succ, List.getD_cons_zero, List.getD_cons_succ, List.map_cons, List.map_nil, ↓reduceIte, reduceCtorEq, oneCell, List.length_cons, List.length_nil, setAt, readN, bne_iff_ne, ne_eq, Nat.reduceAdd, Nat.reduceLeDiff, List.getElem?_cons_zero, List.getElem?_cons_succ, Nat.reduceMul, Option.isSome_some, layAt, Nat.reduceLT, Option.isNone_some, Option.isNone_none, beq_self_eq_true, Nat.reduceEqDiff, setParams, Int.reduceLT, Int.reduceLE, Int.reduceGT, Int.reduceGE, Int.reduceEq, Int.reduceNe, Option.map_some, Option.map_none, Option.isSome_none]
  have O7 := (O.at 2 rfl).at 1 rfl |>.at 2 rfl
  refine Z_is (plain_h (n := n + 4) (m := p.m) (l := l) (R := Ob b4 (.cells ([p.fe, p.te, p.sq, p.mt].flatMap gc) 1 false) :: Ob pb (.cells (pc p) 1 false) :: R) hL (by omega) hok.2.2.2.1.1 hok.2.2.2.1.2 (by simp only [List.length_append, List.length_cons, List.length_nil, be_flat4]; omega) hN (fun h O => V h O.drop.drop) (O.at 1 rfl)) ?_
  rintro v8 h8 O8
  have eA : ([ub p.fr, ub p.tt] ++ [p.fe, p.te, p.sq, p.mt].flatMap fun n => be n 4) ++ plainB p.m l = allB p l := rfl
  replace O8 : Has ro h8 (Sc 1 bc v8 (allB p l) :: R) := ((show Has ro h8 (Sc 1 bc v8 (([ub p.fr, ub p.tt] ++ [p.fe, p.te, p.sq, p.mt].flatMap fun n => be n 4) ++ plainB p.m l) :: Ob b4 (.cells ([p.fe, p.te, p.sq, p.mt].flatMap gc) 1 false) :: Ob pb (.cells (pc p) 1 false) :: R) from O8).rid 2 rfl).rid 1 rfl
  clear O O7 r0 r1 r2 r3 r4 r5 r6 r7 eA
  have hlt2 := allB_lt p l
  have hlen2 : (allB p l).length ≤ 600 := by
    have := plainB_len (m := p.m) hl16
    unfold allB
    simp only [List.length_append, List.length_cons, List.length_nil, be_flat4]
    omega
  rw [bytesP_t hok]
  generalize allB p l = A at O8 hlt2 hlen2 ⊢
  have O9 : Has ro h8 (Sc 1 bc (.slice none 0 0) (comp (A.take 0)) :: Sc 1 bc v8 A :: R) := Has.scNil O8
  obtain ⟨q8, c8, hv8, -⟩ := O8.scVal 0 rfl
  have ln : ∀ v : Value, v = .slice q8 A.length c8 → v8 = v → v8 = v := fun _ _ h => h
  clear ln
  subst hv8
  simp (disch := first | assumption | omega | (simp only [wkD, oneCell, Option.isSome_some, *]; done) | (simp only [wkE, ne_eq]; omega)) only [wk0, wk1, wk2, wk3, wk4, wk5, X_region, X_seq, X_block, X_loop, X_cond, Y_box, Y_un, Y_store, Y_append, Y_makeMap, Y_buildSlice, ibin_shl, ibin_shr, ibin_and, List.set_cons_zero, List.set_cons_succ, List.getD_cons_zero, List.getD_cons_succ, List.map_cons, List.map_nil, ↓reduceIte, reduceCtorEq, oneCell, List.length_cons, List.length_nil, setAt, readN, bne_iff_ne, ne_eq, Nat.reduceAdd, Nat.reduceLeDiff, List.getElem?_cons_zero, List.getElem?_cons_succ, Nat.reduceMul, Option.isSome_some, layAt, Nat.reduceLT, Option.isNone_some, Option.isNone_none, beq_self_eq_true, Nat.reduceEqDiff, setParams, Int.reduceLT, Int.reduceLE, Int.reduceGT, Int.reduceGE, Int.reduceEq, Int.reduceNe, Option.map_some, Option.map_none, Option.isSome_none]
  refine L_is (fun q s => ∃ (i : Nat) (v : Value), s.defers = [] ∧ s.tmps.length = 59 ∧ s.tmps.getD 8 undefV = v ∧ s.tmps.getD 45 undefV = .slice q8 A.length c8 ∧ s.tmps.getD 46 undefV = .int .i64 (A.length : Int) ∧ s.tmps.getD 47 undefV = .int .i64 (i : Int) ∧ q = A.length - i ∧ i ≤ A.length ∧ Has ro s.h (Sc 1 bc v (comp (A.take i)) :: Sc 1 bc (.slice q8 A.length c8) A :: R)) A.length ?_ (by omega) ?_
  · exact ⟨0, _, rfl, rfl, rfl, rfl, rfl, rfl, rfl, by omega, O9⟩
  clear O8 O9 g1 g5 g31 g32 g33
  rintro q_ tm df h9 ⟨j, v, hd, hlen_, g8, g45, g46, g47, hq, hj, O⟩
  simp only at hd g8 g45 g46 g47 O
  subst hd
  obtain ⟨w, hg_, rfl⟩ := explode hlen_
  simp only [hg_] at g8 g45 g46 g47
  clear hlen_ hg_
  by_cases hlt : j < A.length
  · have hlt' : (j : Int) < (A.length : Int) := by omega
    have c0 : (0 : Int) ≤ (j : Int) := by omega
    have y1 : IntKind.i64.wrap ((j : Int) + 1) = ((j + 1 : Nat) : Int) := by rw [wrap_i64 (by omega) (by omega)]; omega
    obtain ⟨b', o', s', c', hv', k1⟩ := rdW bc_len (O.vw 1 rfl) (i := j) hlt
    cases hv'
    have hb := hlt2 _ (List.getElem_mem hlt)
    have gx : bc A[j] = [.int .u8 (A[j] : Int)] := rfl
    have xr := iun_xor8 hb
    simp (disch := first | assumption | omega | (simp only [wkD, oneCell, Option.isSome_some, *]; done) | (simp only [wkE, ne_eq]; omega)) only [g8, g45, g46, g47, hlt', c0, Int.toNat_natCast, k1, gx, xr, wk0, wk1, wk2, wk3, wk4, wk5, X_region, X_seq, X_block, X_loop, X_cond, Y_box, Y_un, Y_store, Y_append, Y_makeMap, ibin_shl, ibin_shr, ibin_and, List.set_cons_zero, List.set_cons_succ, List.getD_cons_zero, List.getD_cons_succ, List.map_cons, List.map_nil, ↓reduceIte, reduceCtorEq, oneCell, List.length_cons, List.length_nil, setAt, readN, bne_iff_ne, ne_eq, Nat.reduceAdd, Nat.reduceLeDiff, List.getElem?_cons_zero, List.getElem?_cons_succ, Nat.reduceMul, Option.isSome_some, layAt, Nat.reduceLT, Option.isNone_some, Option.isNone_none, beq_self_eq_true, Nat.reduceEqDiff, setParams, Int.reduceLT, Int.reduceLE, Int.reduceGT, Int.reduceGE, Int.reduceEq, Int.reduceNe, Option.map_some, Option.map_none, Option.isSome_none]
    refine Y_buildSliceO O (cs := [A[j], 255 - A[j]].flatMap bc) rfl ?_
    intro b10 h10 O10 e10
    have V4 : Vw 1 bc h10 (.slice (some ⟨b10, 0, none⟩) 2 2) [A[j], 255 - A[j]] := Has.vwo O10 0 rfl rfl
    have lc := comp_len (A.take j)
    rw [List.length_take] at lc
    obtain ⟨w, h11, ap, O11⟩ := sc_appendV (bytes := 1) (by omega) bc_len bc_one (O10.at 1 rfl) V4 (by simp only [List.length_cons, List.length_nil]; unfold roomMost; omega) (by omega)
    replace O11 : Has ro h11 (Sc 1 bc w (comp (A.take j) ++ [A[j], 255 - A[j]]) :: Sc 1 bc (.slice (some ⟨b', o', s'⟩) A.length c8) A :: R) := (show Has ro h11 (Sc 1 bc w (comp (A.take j) ++ [A[j], 255 - A[j]]) :: Ob b10 _ :: Sc 1 bc (.slice (some ⟨b', o', s'⟩) A.length c8) A :: R) from O11).rid 1 rfl
    have e2 : A.take (j + 1) = A.take j ++ [A[j]] := by rw [List.take_add_one, List.getElem?_eq_getElem hlt]; rfl
    have e3 : comp (A.take j) ++ [A[j], 255 - A[j]] = comp (A.take (j + 1)) := by
      unfold comp
      rw [e2, List.flatMap_append, List.flatMap_singleton]
    rw [e3] at O11
    simp (disch := first | assumption | omega | (simp only [wkD, oneCell, Option.isSome_some, *]; done) | (simp only [wkE, ne_eq]; omega)) only [g8, g45, g46, g47, ap, y1, wk0, wk1, wk2, wk3, wk4, wk5, X_region, X_seq, X_block, X_loop, X_cond, Y_box, Y_un, Y_store, Y_append, Y_makeMap, Y_buildSlice, ibin_shl, ibin_shr, ibin_and, List.set_cons_zero, List.set_cons_succ, List.getD_cons_zero, List.getD_cons_succ, List.map_cons, List.map_nil, ↓reduceIte, reduceCtorEq, oneCell, List.length_cons, List.length_nil, setAt, readN, bne_iff_ne, ne_eq, Nat.reduceAdd, Nat.reduceLeDiff, List.getElem?_cons_zero, List.getElem?_cons_succ, Nat.reduceMul, Option.isSome_some, layAt, Nat.reduceLT, Option.isNone_some, Option.isNone_none, beq_self_eq_true, Nat.reduceEqDiff, setParams, Int.reduceLT, Int.reduceLE, Int.reduceGT, Int.reduceGE, Int.reduceEq, Int.reduceNe, Option.map_some, Option.map_none, Option.isSome_none]
    exact Is_in ⟨A.length - (j + 1), by omega, j + 1, w, rfl, rfl, rfl, rfl, rfl, rfl, rfl, by omega, O11⟩
  · have hlt' : ¬ (j : Int) < (A.length : Int) := by omega
    simp (disch := first | assumption | omega | (simp only [wkD, oneCell, Option.isSome_some, *]; done) | (simp only [wkE, ne_eq]; omega)) only [g8, g45, g46, g47, hlt', wk0, wk1, wk2, wk3, wk4, wk5, X_region, X_seq, X_block, X_loop, X_cond, Y_box, Y_un, Y_store, Y_append, Y_makeMap, Y_buildSlice, ibin_shl, ibin_shr, ibin_and, List.set_cons_zero, List.set_cons_succ, List.getD_cons_zero, List.getD_cons_succ, List.map_cons, List.map_nil, ↓reduceIte, reduceCtorEq, oneCell, List.length_cons, List.length_nil, setAt, readN, bne_iff_ne, ne_eq, Nat.reduceAdd, Nat.reduceLeDiff, List.getElem?_cons_zero, List.getElem?_cons_succ, Nat.reduceMul, Option.isSome_some, layAt, Nat.reduceLT, Option.isNone_some, Option.isNone_none, beq_self_eq_true, Nat.reduceEqDiff, setParams, Int.reduceLT, Int.reduceLE, Int.reduceGT, Int.reduceGE, Int.reduceEq, Int.reduceNe, Option.map_some, Option.map_none, Option.isSome_none]
    refine Is_in ?_
    simp (disch := first | assumption | omega | (simp only [wkD, oneCell, Option.isSome_some, *]; done) | (simp only [wkE, ne_eq]; omega)) only [g8, g45, g46, g47, wk0, wk1, wk2, wk3, wk4, wk5, X_region, X_seq, X_block, X_loop, X_cond, Y_box, Y_un, Y_store, Y_append, Y_makeMap, Y_buildSlice, ibin_shl, ibin_shr, ibin_and, List.set_cons_zero, List.set_cons_succ, List.getD_cons_zero, List.getD_cons_succ, List.map_cons, List.map_nil, ↓reduceIte, reduceCtorEq, oneCell, List.length_cons, List.length_nil, setAt, readN, bne_iff_ne, ne_eq, Nat.reduceAdd, Nat.reduceLeDiff, List.getElem?_cons_zero, List.getElem?_cons_succ, Nat.reduceMul, Option.isSome_some, layAt, Nat.reduceLT, Option.isNone_some, Option.isNone_none, beq_self_eq_true, Nat.reduceEqDiff, setParams, Int.reduceLT, Int.reduceLE, Int.reduceGT, Int.reduceGE, Int.reduceEq, Int.reduceNe, Option.map_some, Option.map_none, Option.isSome_none]
    rw [List.take_of_length_le (show A.length ≤ j by omega)] at O
    exact leaf2 ⟨_, rfl, O.rid 1 rfl⟩

end
end Go.Proofs.YtpodmgbnldmlcaaDoor
