/-
  The law WireReads holds, on its card: the call answers true whatever bytes, kind and messages it is handed, whatever the machine chooses, and nothing that was there before it is changed; the listed package variables start as the program's text lays them.
-/
import Derived.Test.YtpodmgbnldmlcaaDoorFk
import Derived.Test.YtpodmgbnldmlcaaDoorRrd
import Derived.Test.YtpodmgbnldmlcaaDoorNme
import Derived.Test.YtpodmgbnldmlcaaDoorRsm
import Derived.Test.YtpodmgbnldmlcaaDoorEqu
import Derived.Test.YtpodmgbnldmlcaaDoorRows
import Derived.Test.YtpodmgbnldmlcaaDoorTie
import Derived.Test.YtpodmgbnldmlcaaDoorCards
namespace Go.Proofs.YtpodmgbnldmlcaaDoor
open Go Go.Ideal Go.ChangeShapes Go.RowKit
set_option maxHeartbeats 0
set_option linter.unusedSimpArgs false
set_option linter.unusedVariables false
set_option maxRecDepth 100000
attribute [local irreducible] callV T.All T.Is run
/-- The cells of wagonway/wire.kinds. -/
def tab0 : List Value := [.string ⟨([114, 101, 113, 117, 101, 115, 116] : List UInt8).toArray⟩, .int .i64 1, .int .i64 3, .int .i64 4, .int .i64 0, .int .i64 0, .string ⟨([103, 114, 97, 110, 116] : List UInt8).toArray⟩, .int .i64 1, .int .i64 2, .int .i64 3, .int .i64 0, .int .i64 0, .string ⟨([114, 101, 108, 101, 97, 115, 101] : List UInt8).toArray⟩, .int .i64 1, .int .i64 2, .int .i64 0, .int .i64 0, .int .i64 0, .string ⟨([97, 99, 107] : List UInt8).toArray⟩, .int .i64 0, .int .i64 0, .int .i64 0, .int .i64 0, .int .i64 0, .string ⟨([100, 101, 110, 121] : List UInt8).toArray⟩, .int .i64 1, .int .i64 3, .int .i64 7, .int .i64 0, .int .i64 0, .string ⟨([112, 114, 111, 98, 101] : List UInt8).toArray⟩, .int .i64 1, .int .i64 6, .int .i64 7, .int .i64 4, .int .i64 5, .string ⟨([97, 98, 111, 114, 116] : List UInt8).toArray⟩, .int .i64 6, .int .i64 7, .int .i64 0, .int .i64 0, .int .i64 0, .string ⟨([105, 110, 104, 101, 114, 105, 116] : List UInt8).toArray⟩, .int .i64 1, .int .i64 4, .int .i64 0, .int .i64 0, .int .i64 0, .string ⟨([104, 101, 108, 108, 111] : List UInt8).toArray⟩, .int .i64 0, .int .i64 0, .int .i64 0, .int .i64 0, .int .i64 0, .string ⟨([114, 101, 99, 97, 108, 108] : List UInt8).toArray⟩, .int .i64 1, .int .i64 2, .int .i64 0, .int .i64 0, .int .i64 0, .string ⟨([115, 116, 97, 116, 117, 115] : List UInt8).toArray⟩, .int .i64 8, .int .i64 0, .int .i64 0, .int .i64 0, .int .i64 0]
def tabs : List (Nat × (List Value × Nat)) := [(0, (tab0, 1))]
theorem tab0_flat : ∃ t, (Tryd.prog.globals[0]?).map (·.type) = some t ∧ flatD Tryd.prog 6 t (Rows.laid_wagonway_wire_kinds : DataW Unit) = some tab0 := ⟨_, rfl, by kernel_rfl⟩
theorem tab0_ro {W : World} (h : laidMet Tryd.prog [("wagonway/wire.kinds", Rows.laid_wagonway_wire_kinds)] W) : roW W 0 = some (tab0, 1) := by
  obtain ⟨t, h1, h2⟩ := tab0_flat
  exact (laid_ro h (n := "wagonway/wire.kinds") (by simp) (by kernel_rfl) h1 h2 (by kernel_rfl)).trans (by kernel_rfl)
theorem tabs_ro (W : World) (h : laidMet Tryd.prog [("wagonway/wire.kinds", Rows.laid_wagonway_wire_kinds)] W) : ∀ p ∈ tabs, roW W p.1 = some p.2 := by
  intro p hp
  simp only [tabs, List.mem_cons, List.not_mem_nil, or_false] at hp
  rcases hp with rfl
  · exact tab0_ro h
theorem own : ownKnob Tryd.prog.godebug = none := by kernel_rfl
theorem mixed : Tryd.prog.follows .mixedOrders = true := by kernel_rfl
theorem laid_out : laidOutB Tryd.prog = true := by kernel_rfl

theorem lay_tabs (ro : Nat → Option (List Value × Nat)) : Lay (pin tabs ro) := by
  intro kd h0 h1
  have hg : (fresh (pin tabs ro)).get 1 = some (.cells tab0 1 true) := by unfold Heap.get; rfl
  rw [hg, readC_cells]
  have : kd = 1 ∨ kd = 2 ∨ kd = 3 ∨ kd = 4 ∨ kd = 5 ∨ kd = 6 ∨ kd = 7 ∨ kd = 8 ∨ kd = 9 ∨ kd = 10 ∨ kd = 11 := by omega
  rcases this with rfl | rfl | rfl | rfl | rfl | rfl | rfl | rfl | rfl | rfl | rfl <;> rfl
theorem flat_u8 {P : Program} {d : Nat} {ro : Nat → Option (List Value × Nat)} {v : Value} (h : DFit P ro d (.flat (.int .u8)) v) : ∃ x : Nat, v = .int .u8 (x : Int) ∧ x < 256 := by
  have h' : ∃ x : Int, v = .int .u8 x ∧ 0 ≤ x ∧ x ≤ 255 := by cases d <;> exact h
  obtain ⟨x, rfl, h1, h2⟩ := h'
  exact ⟨x.toNat, by rw [Int.toNat_of_nonneg h1], by omega⟩
theorem by_kinds : dkOf Tryd.prog 8 5 = some [.flat (.int .u8)] := by kernel_rfl
theorem by_size : Tryd.prog.cellsOf 5 = 1 := by kernel_rfl
theorem by_inv {ro : Nat → Option (List Value × Nat)} (vs : List Value) (h : Fits2 (DFit Tryd.prog ro 0) [.flat (.int .u8)] vs) : ∃ a : Nat, vs = bc a ∧ a < 256 := by
  obtain ⟨v, w, rfl, h1, h2⟩ := f2_cons h
  have := f2_nil h2
  subst this
  obtain ⟨x, rfl, hx⟩ := flat_u8 h1
  exact ⟨x, rfl, hx⟩

theorem lay_names (ro : Nat → Option (List Value × Nat)) : LayN (pin tabs ro) := by
  intro kd h0 h1
  have hg : (fresh (pin tabs ro)).get 1 = some (.cells tab0 1 true) := by unfold Heap.get; rfl
  rw [hg, readC_cells]
  have : kd = 1 ∨ kd = 2 ∨ kd = 3 ∨ kd = 4 ∨ kd = 5 ∨ kd = 6 ∨ kd = 7 ∨ kd = 8 ∨ kd = 9 ∨ kd = 10 ∨ kd = 11 := by omega
  rcases this with rfl | rfl | rfl | rfl | rfl | rfl | rfl | rfl | rfl | rfl | rfl <;> rfl
open Classical in
/-- What is read. -/
noncomputable def rdU (B : List Nat) : Pkt × List Cl × Int := if RdOk B then ((readS B).1, (readS B).2.1, 0) else (pz, [], 70)
theorem same_self (m : Msg) (l : List Cl) : SameM m l m l := ⟨rfl, rfl, rfl, rfl, rfl, rfl, rfl, rfl, rfl⟩
theorem env5 : env 5 = some ir5 := rfl
section
variable {ro : Nat → Option (List Value × Nat)} {h : Heap} {R : List Rs} {B : List Nat}
theorem rdU_of {v : Value} {h : Heap} (k : (RdOk B ∧ ∃ cv, v = .tuple #[pv { (readS B).1 with m := { (readS B).1.m with cl := cv } }, .int .i64 0] ∧ Has ro h (Sc 2 cc cv (readS B).2.1 :: R)) ∨ (¬ RdOk B ∧ v = .tuple #[pv pz, .int .i64 70] ∧ Has ro h R)) :
    ∃ cv, v = .tuple #[pv { (rdU B).1 with m := { (rdU B).1.m with cl := cv } }, .int .i64 (rdU B).2.2] ∧ Has ro h (Sc 2 cc cv (rdU B).2.1 :: R) := by
  unfold rdU
  rcases k with ⟨hr, cv, e, O⟩ | ⟨hr, e, O⟩
  · rw [if_pos hr]
    exact ⟨cv, e, O⟩
  · rw [if_neg hr]
    exact ⟨nilS, e, Has.scNil O⟩
theorem rdU_len (hN : B.length ≤ 1500) (hB : ∀ b ∈ B, b < 256) : (rdU B).2.1.length ≤ 1300 := by
  unfold rdU
  split
  · rename_i hr
    have h1 := rd_guess hB hr
    have h2 := (guess_wf (B := evs B) (evs_by hB)).2
    rw [h1.2.1] at h2
    show (readS B).2.1.length ≤ 1300
    omega
  · show 0 ≤ 1300; omega
end
theorem wireReads_run {ro : Nat → Option (List Value × Nat)} {B : List Nat} {kd : Int} {m1 m2 : Msg} {l1 l2 : List Cl} {cB c1 c2 : Nat} {pB p1 p2 : Option Addr} (hL : Lay ro) (hN : LayN ro) (hB : ∀ b ∈ B, b < 256) (hc1 : m1.cl = .slice p1 l1.length c1) (hc2 : m2.cl = .slice p2 l2.length c2)
    (VB : ∀ (L : List Rs) (h : Heap), Has ro h L → Vw 1 bc h (.slice pB B.length cB) B) (V1 : ∀ (L : List Rs) (h : Heap), Has ro h L → Vw 2 cc h m1.cl l1) (V2 : ∀ (L : List Rs) (h : Heap), Has ro h L → Vw 2 cc h m2.cl l2) :
    (callV env 5000 (.func (.func 5) #[] #[]) [.slice pB B.length cB, .int .i64 kd, mv m1, mv m2] (fresh ro)).Is fun q => q.1 = .bool true := by
  refine call_is (n := 4999) env5 ?_
  have O : Has ro (fresh ro) [] := Has.start ro
  simp (disch := first | assumption | omega | (simp only [wkD, oneCell, Option.isSome_some, *]; done) | (simp only [wkE, ne_eq]; omega)) only [ir5, List.append_nil, List.nil_append, List.cons_append, List.length_cons, List.length_nil, Nat.reduceAdd, Nat.reduceSub, List.replicate_succ, List.replicate_zero, mv, wkF, X_region, X_seq, X_block, X_loop, X_cond, Y_un, Y_store, Y_append, Y_makeMap, Y_buildSlice, ibin_shl, ibin_shr, ibin_and, ↓reduceIte, reduceCtorEq, oneCell, setAt, readN, Nat.reduceAdd, Nat.reduceLeDiff, Nat.reduceMul, layAt, Nat.reduceLT, Nat.reduceEqDiff, setParams, Int.reduceLT, Int.reduceLE, Int.reduceGT, Int.reduceGE, Int.reduceEq, Int.reduceNe]
  refine Y_boxO O ?_
  intro b6 h1 O1 e1
  replace O1 : Has ro h1 [Ob b6 (.cells (mc m1) 1 false)] := O1
  simp (disch := first | assumption | omega | (simp only [wkD, oneCell, Option.isSome_some, *]; done) | (simp only [wkE, ne_eq]; omega)) only [wkF, X_region, X_seq, X_block, X_loop, X_cond, Y_un, Y_store, Y_append, Y_makeMap, Y_buildSlice, ibin_shl, ibin_shr, ibin_and, ↓reduceIte, reduceCtorEq, oneCell, setAt, readN, Nat.reduceAdd, Nat.reduceLeDiff, Nat.reduceMul, layAt, Nat.reduceLT, Nat.reduceEqDiff, setParams, Int.reduceLT, Int.reduceLE, Int.reduceGT, Int.reduceGE, Int.reduceEq, Int.reduceNe]
  refine Y_boxO O1 ?_
  intro b7 h2 O2 e2
  replace O2 : Has ro h2 [Ob b7 (.cells (mc m2) 1 false), Ob b6 (.cells (mc m1) 1 false)] := O2
  clear O O1 e1 e2
  have q6 : readC (h2.get b6) 8 1 = some [m1.cl] := by rw [O2.get 1 rfl]; rfl
  have q7 : readC (h2.get b7) 8 1 = some [m2.cl] := by rw [O2.get 0 rfl]; rfl
  rw [hc1] at q6
  rw [hc2] at q7
  by_cases g1 : 500 < B.length
  · have g1' : (B.length : Int) > 500 := by omega
    by_cases g3 : 100 < l2.length
    · have g3' : (l2.length : Int) > 100 := by omega
      simp (disch := first | assumption | omega | (simp only [wkD, oneCell, Option.isSome_some, *]; done) | (simp only [wkE, ne_eq]; omega)) only [q6, q7, g1', g3', wkF, X_region, X_seq, X_block, X_loop, X_cond, Y_box, Y_un, Y_store, Y_append, Y_makeMap, Y_buildSlice, ibin_shl, ibin_shr, ibin_and, ↓reduceIte, reduceCtorEq, oneCell, setAt, readN, Nat.reduceAdd, Nat.reduceLeDiff, Nat.reduceMul, layAt, Nat.reduceLT, Nat.reduceEqDiff, setParams, Int.reduceLT, Int.reduceLE, Int.reduceGT, Int.reduceGE, Int.reduceEq, Int.reduceNe]
      exact leaf1 rfl
    · have g3' : ¬ (l2.length : Int) > 100 := by omega
      simp (disch := first | assumption | omega | (simp only [wkD, oneCell, Option.isSome_some, *]; done) | (simp only [wkE, ne_eq]; omega)) only [q6, q7, g1', g3', wkF, X_region, X_seq, X_block, X_loop, X_cond, Y_box, Y_un, Y_store, Y_append, Y_makeMap, Y_buildSlice, ibin_shl, ibin_shr, ibin_and, ↓reduceIte, reduceCtorEq, oneCell, setAt, readN, Nat.reduceAdd, Nat.reduceLeDiff, Nat.reduceMul, layAt, Nat.reduceLT, Nat.reduceEqDiff, setParams, Int.reduceLT, Int.reduceLE, Int.reduceGT, Int.reduceGE, Int.reduceEq, Int.reduceNe]
      exact leaf1 rfl
  have g1' : ¬ (B.length : Int) > 500 := by omega
  by_cases g2 : 100 < l1.length
  · have g2' : (l1.length : Int) > 100 := by omega
    simp (disch := first | assumption | omega | (simp only [wkD, oneCell, Option.isSome_some, *]; done) | (simp only [wkE, ne_eq]; omega)) only [q6, q7, g1', g2', wkF, X_region, X_seq, X_block, X_loop, X_cond, Y_box, Y_un, Y_store, Y_append, Y_makeMap, Y_buildSlice, ibin_shl, ibin_shr, ibin_and, ↓reduceIte, reduceCtorEq, oneCell, setAt, readN, Nat.reduceAdd, Nat.reduceLeDiff, Nat.reduceMul, layAt, Nat.reduceLT, Nat.reduceEqDiff, setParams, Int.reduceLT, Int.reduceLE, Int.reduceGT, Int.reduceGE, Int.reduceEq, Int.reduceNe]
    exact leaf1 rfl
  have g2' : ¬ (l1.length : Int) > 100 := by omega
  by_cases g3 : 100 < l2.length
  · have g3' : (l2.length : Int) > 100 := by omega
    simp (disch := first | assumption | omega | (simp only [wkD, oneCell, Option.isSome_some, *]; done) | (simp only [wkE, ne_eq]; omega)) only [q6, q7, g1', g2', g3', wkF, X_region, X_seq, X_block, X_loop, X_cond, Y_box, Y_un, Y_store, Y_append, Y_makeMap, Y_buildSlice, ibin_shl, ibin_shr, ibin_and, ↓reduceIte, reduceCtorEq, oneCell, setAt, readN, Nat.reduceAdd, Nat.reduceLeDiff, Nat.reduceMul, layAt, Nat.reduceLT, Nat.reduceEqDiff, setParams, Int.reduceLT, Int.reduceLE, Int.reduceGT, Int.reduceGE, Int.reduceEq, Int.reduceNe]
    exact leaf1 rfl
  have g3' : ¬ (l2.length : Int) > 100 := by omega
  simp (disch := first | assumption | omega | (simp only [wkD, oneCell, Option.isSome_some, *]; done) | (simp only [wkE, ne_eq]; omega)) only [q6, q7, g1', g2', g3', wkF, X_region, X_seq, X_block, X_loop, X_cond, Y_box, Y_un, Y_store, Y_append, Y_makeMap, Y_buildSlice, ibin_shl, ibin_shr, ibin_and, ↓reduceIte, reduceCtorEq, oneCell, setAt, readN, Nat.reduceAdd, Nat.reduceLeDiff, Nat.reduceMul, layAt, Nat.reduceLT, Nat.reduceEqDiff, setParams, Int.reduceLT, Int.reduceLE, Int.reduceGT, Int.reduceGE, Int.reduceEq, Int.reduceNe]
  clear q6 q7
  refine Z_is (read_h (n := 4990) hL (by omega) (by omega) hB (fun h O => VB _ h O) O2) ?_
  rintro v3 h3 hv3
  obtain ⟨cv, rfl, O3⟩ := rdU_of hv3
  replace O3 : Has ro h3 [Sc 2 cc cv (rdU B).2.1, Ob b7 (.cells (mc m2) 1 false), Ob b6 (.cells (mc m1) 1 false)] := O3
  clear O2 hv3
  have hlu := rdU_len (B := B) (by omega) hB
  have hcp : ∀ (P : Pkt), cellsOf (pv P) = pc P := fun P => (cellsOf_agg _).trans rfl
  have hs5 : ∀ P : Pkt, setAt (pc pz) 0 (pc P) = pc P := fun P => by simp [setAt, pc, mc]
  have hone : ∀ (P : Pkt) (cv : Value), oneCell cv = true → (pc { P with m := { P.m with cl := cv } }).all oneCell = true := fun P cv z2 => by
    simp only [pc, mc, List.all_cons, z2, List.all_nil, Bool.and_true]
    rfl
  simp (disch := first | assumption | omega | (simp only [wkD, oneCell, Option.isSome_some, *]; done) | (simp only [wkE, ne_eq]; omega)) only [wkF, X_region, X_seq, X_block, X_loop, X_cond, Y_un, Y_store, Y_append, Y_makeMap, Y_buildSlice, ibin_shl, ibin_shr, ibin_and, ↓reduceIte, reduceCtorEq, oneCell, setAt, readN, Nat.reduceAdd, Nat.reduceLeDiff, Nat.reduceMul, layAt, Nat.reduceLT, Nat.reduceEqDiff, setParams, Int.reduceLT, Int.reduceLE, Int.reduceGT, Int.reduceGE, Int.reduceEq, Int.reduceNe]
  refine Y_boxO O3 ?_
  intro b9 h4 O4 e4
  replace O4 : Has ro h4 [Ob b9 (.cells (pc pz) 1 false), Sc 2 cc cv (rdU B).2.1, Ob b7 (.cells (mc m2) 1 false), Ob b6 (.cells (mc m1) 1 false)] := O4
  have g4 := O4.get 0 rfl
  have p4 := O4.can 0 rfl
  have z4 := hone (rdU B).1 cv (scOne O4 1 rfl).2
  have O5 := O4.set 0 rfl (.cells (pc { (rdU B).1 with m := { (rdU B).1.m with cl := cv } }) 1 false)
  simp only [List.set_cons_zero] at O5
  simp (disch := first | assumption | omega | (simp only [wkD, oneCell, Option.isSome_some, *]; done) | (simp only [wkE, ne_eq]; omega)) only [g4, p4, hcp, hs5, z4, pc_len, wkF, X_region, X_block, X_loop, X_cond, Y_box, Y_un, Y_store, Y_append, Y_makeMap, Y_buildSlice, ibin_shl, ibin_shr, ibin_and, ↓reduceIte, reduceCtorEq, readN, Nat.reduceAdd, Nat.reduceLeDiff, Nat.reduceMul, layAt, Nat.reduceLT, Nat.reduceEqDiff, setParams, Int.reduceLT, Int.reduceLE, Int.reduceGT, Int.reduceGE, Int.reduceEq, Int.reduceNe]
  generalize h4.setB b9 (.cells (pc { (rdU B).1 with m := { (rdU B).1.m with cl := cv } }) 1 false) = h5 at O5 ⊢
  clear O3 O4 g4 p4 z4 e4
  rw [X_seq]
  simp (disch := first | assumption | omega | (simp only [wkD, oneCell, Option.isSome_some, *]; done) | (simp only [wkE, ne_eq]; omega)) only [wkF, X_region, X_seq, X_block, X_loop, X_cond, Y_box, Y_un, Y_store, Y_append, Y_makeMap, Y_buildSlice, ibin_shl, ibin_shr, ibin_and, ↓reduceIte, reduceCtorEq, oneCell, setAt, readN, Nat.reduceAdd, Nat.reduceLeDiff, Nat.reduceMul, layAt, Nat.reduceLT, Nat.reduceEqDiff, setParams, Int.reduceLT, Int.reduceLE, Int.reduceGT, Int.reduceGE, Int.reduceEq, Int.reduceNe]
  refine Z_is (rread_h (n := 4994) (by omega) (by omega) hB (fun h O => VB _ h O) O5) ?_
  rintro v6 h6 hv6
  obtain ⟨cw, rfl, O6⟩ := rdU_of hv6
  replace O6 : Has ro h6 [Sc 2 cc cw (rdU B).2.1, Ob b9 (.cells (pc { (rdU B).1 with m := { (rdU B).1.m with cl := cv } }) 1 false), Sc 2 cc cv (rdU B).2.1, Ob b7 (.cells (mc m2) 1 false), Ob b6 (.cells (mc m1) 1 false)] := O6
  clear O5 hv6
  simp (disch := first | assumption | omega | (simp only [wkD, oneCell, Option.isSome_some, *]; done) | (simp only [wkE, ne_eq]; omega)) only [wkF, X_region, X_seq, X_block, X_loop, X_cond, Y_un, Y_store, Y_append, Y_makeMap, Y_buildSlice, ibin_shl, ibin_shr, ibin_and, ↓reduceIte, reduceCtorEq, oneCell, setAt, readN, Nat.reduceAdd, Nat.reduceLeDiff, Nat.reduceMul, layAt, Nat.reduceLT, Nat.reduceEqDiff, setParams, Int.reduceLT, Int.reduceLE, Int.reduceGT, Int.reduceGE, Int.reduceEq, Int.reduceNe]
  refine Y_boxO O6 ?_
  intro b11 h7 O7 e7
  replace O7 : Has ro h7 [Ob b11 (.cells (pc pz) 1 false), Sc 2 cc cw (rdU B).2.1, Ob b9 (.cells (pc { (rdU B).1 with m := { (rdU B).1.m with cl := cv } }) 1 false), Sc 2 cc cv (rdU B).2.1, Ob b7 (.cells (mc m2) 1 false), Ob b6 (.cells (mc m1) 1 false)] := O7
  have g7 := O7.get 0 rfl
  have p7 := O7.can 0 rfl
  have z7 := hone (rdU B).1 cw (scOne O7 1 rfl).2
  have O8 := O7.set 0 rfl (.cells (pc { (rdU B).1 with m := { (rdU B).1.m with cl := cw } }) 1 false)
  simp only [List.set_cons_zero] at O8
  simp (disch := first | assumption | omega | (simp only [wkD, oneCell, Option.isSome_some, *]; done) | (simp only [wkE, ne_eq]; omega)) only [g7, p7, hcp, hs5, z7, pc_len, wkF, X_region, X_block, X_loop, X_cond, Y_box, Y_un, Y_store, Y_append, Y_makeMap, Y_buildSlice, ibin_shl, ibin_shr, ibin_and, ↓reduceIte, reduceCtorEq, readN, Nat.reduceAdd, Nat.reduceLeDiff, Nat.reduceMul, layAt, Nat.reduceLT, Nat.reduceEqDiff, setParams, Int.reduceLT, Int.reduceLE, Int.reduceGT, Int.reduceGE, Int.reduceEq, Int.reduceNe]
  generalize h7.setB b11 (.cells (pc { (rdU B).1 with m := { (rdU B).1.m with cl := cw } }) 1 false) = h8 at O8 ⊢
  clear O6 O7 g7 p7 z7 e7 hs5 hone hcp
  rw [X_seq]
  generalize hP : (rdU B).1 = P at O8 ⊢
  generalize hU : (rdU B).2.1 = U at O8 hlu ⊢
  generalize (rdU B).2.2 = e
  have r9 := (rdp (O8.get 2 rfl)).2.2.2.2.2.2.2
  have r11 := (rdp (O8.get 0 rfl)).2.2.2.2.2.2.2
  refine X_plan [] O8.fine ?_
  refine Dp.move ?_
  refine Dp.move ?_
  simp only [putDst_some, putDst_none, List.set_cons_succ, List.set_cons_zero]
  refine Dp.bin (a := .int .i64 e) (b := .int .i64 e) (v := .bool true) rfl rfl (by rw [ibin_eql, decide_eq_true rfl]) ?_
  refine Dp.move ?_
  simp only [putDst_some, putDst_none, List.set_cons_succ, List.set_cons_zero]
  refine Dp.guard rfl (Dp.loadFN rfl r9 (fun k _ => by rw [plan_none]; simp) (fun x hx => by cases hx) ?_)
  refine Dp.guard rfl (Dp.loadFN rfl r11 (fun k _ => by rw [plan_none]; simp) (fun x hx => by cases hx) ?_)
  simp only [putDst_some, putDst_none, List.set_cons_succ, List.set_cons_zero]
  refine Dp.guard rfl (Dp.callFixed (refEqual_t (n := 4997) (p := P) (l := U) (v1 := cv) (v2 := cw) (by omega) (by omega) (by omega) (fun h O => O.vw 3 rfl) (fun h O => O.vw 1 rfl) O8) ?_)
  rintro v9 h9 ⟨rfl, O9⟩
  simp only [putDst_some, putDst_none, List.set_cons_succ, List.set_cons_zero]
  refine Dp.pure (v := .bool true) rfl rfl ?_
  refine Dp.move ?_
  simp only [putDst_some, putDst_none, List.set_cons_succ, List.set_cons_zero]
  refine Dp.guard rfl (Dp.move ?_)
  simp only [putDst_some, putDst_none, List.set_cons_succ, List.set_cons_zero]
  refine Dp.guard rfl (Dp.callFixed (nameP_h (n := 4997) (k := kd) hN O9) ?_)
  rintro v10 h10 hq
  cases hq
  simp only [putDst_some, putDst_none, List.set_cons_succ, List.set_cons_zero]
  refine Dp.guard rfl (Dp.move ?_)
  simp only [putDst_some, putDst_none, List.set_cons_succ, List.set_cons_zero]
  refine Dp.guard rfl (Dp.callFixed (nameD_h (n := 4998) (k := kd)) ?_)
  rintro v11 h11 hq
  cases hq
  simp only [putDst_some, putDst_none, List.set_cons_succ, List.set_cons_zero]
  refine Dp.guard rfl (Dp.bin (a := .string (word kd)) (b := .string (word kd)) (v := .bool true) rfl rfl (str_eq _) ?_)
  simp only [putDst_some, putDst_none, List.set_cons_succ, List.set_cons_zero]
  refine Dp.pure (v := .bool true) rfl rfl ?_
  refine Dp.move ?_
  simp only [putDst_some, putDst_none, List.set_cons_succ, List.set_cons_zero]
  have r6 := (rdm (O9.get 5 rfl)).2.2.2.2.2.2.2.2.2
  have r7 := (rdm (O9.get 4 rfl)).2.2.2.2.2.2.2.2.2
  have n6 : b6 < 2 * h9.next := (O9.info (i := 5) rfl).2.2.2.1
  have n7 : b7 < 2 * h9.next := (O9.info (i := 4) rfl).2.2.2.1
  refine Dp.guard rfl (Dp.loadFN rfl r6 (fun k _ => by rw [plan_none]; simp) (fun x hx => by cases hx) ?_)
  refine Dp.guard rfl (Dp.loadFN rfl r7 (fun k _ => by rw [plan_none]; simp) (fun x hx => by cases hx) ?_)
  simp only [putDst_some, putDst_none, List.set_cons_succ, List.set_cons_zero]
  refine Dp.guard rfl (Dp.callFree (R := fun q => q.1 = .bool (decide (SameM m1 l1 m2 l2)) ∧ Has ro q.2 [Ob b11 (.cells (pc { P with m := { P.m with cl := cw } }) 1 false), Sc 2 cc cw U, Ob b9 (.cells (pc { P with m := { P.m with cl := cv } }) 1 false), Sc 2 cc cv U, Ob b7 (.cells (mc m2) 1 false), Ob b6 (.cells (mc m1) 1 false)]) O9.fine (T.Is.mono (fun _ _ => trivial) (same_h (n := 4997) (m := m1) (m' := m2) (by omega) (by omega) (by omega) (fun h O => V1 _ h O) (fun h O => V2 _ h O) (Has.seenE O9 (fun x hx => by cases hx)))) (same_h (n := 4997) (m := m1) (m' := m2) (by omega) (by omega) (by omega) (fun h O => V1 _ h O) (fun h O => V2 _ h O) O9) ?_)
  rintro v12 h12 ⟨rfl, O12⟩
  replace O12 : Has ro h12 [Ob b11 (.cells (pc { P with m := { P.m with cl := cw } }) 1 false), Sc 2 cc cw U, Ob b9 (.cells (pc { P with m := { P.m with cl := cv } }) 1 false), Sc 2 cc cv U, Ob b7 (.cells (mc m2) 1 false), Ob b6 (.cells (mc m1) 1 false)] := O12
  simp only [putDst_some, putDst_none, List.set_cons_succ, List.set_cons_zero]
  have r6 := (rdm (O12.get 5 rfl)).2.2.2.2.2.2.2.2.2
  have r7 := (rdm (O12.get 4 rfl)).2.2.2.2.2.2.2.2.2
  refine Dp.guard rfl (Dp.loadFN rfl r6 (fun k _ => by rw [plan_none]; simp) (fun x hx => by split at hx; (· rcases List.mem_singleton.1 hx with rfl; exact Or.inl (by show b6 / 2 < h9.next; omega)); (· cases hx)) ?_)
  refine Dp.guard rfl (Dp.loadFN rfl r7 (fun k _ => by rw [plan_none]; simp) (fun x hx => by split at hx; (· rcases List.mem_singleton.1 hx with rfl; exact Or.inl (by show b7 / 2 < h9.next; omega)); (· cases hx)) ?_)
  simp only [putDst_some, putDst_none, List.set_cons_succ, List.set_cons_zero]
  refine Dp.guard rfl (Dp.callFixed (refSame_h (n := 4998) (m := m1) (m' := m2) (by omega) (by omega) (by omega) (fun h O => V1 _ h O) (fun h O => V2 _ h O) O12) ?_)
  rintro v13 h13 ⟨rfl, O13⟩
  simp only [putDst_some, putDst_none, List.set_cons_succ, List.set_cons_zero]
  refine Dp.guard rfl (Dp.eqBool rfl rfl ?_)
  have bb : ∀ a : Bool, ((a == a) != false) = true := fun a => by cases a <;> rfl
  rw [bb]
  simp only [putDst_some, putDst_none, List.set_cons_succ, List.set_cons_zero]
  refine Dp.pure (v := .bool true) rfl rfl ?_
  refine Dp.move ?_
  simp only [putDst_some, putDst_none, List.set_cons_succ, List.set_cons_zero]
  have r6 := (rdm (O13.get 5 rfl)).2.2.2.2.2.2.2.2.2
  refine Dp.guard rfl (Dp.loadFN rfl r6 (fun k _ => by rw [plan_none]; simp) (fun x hx => by cases hx) ?_)
  refine Dp.guard rfl (Dp.loadFN rfl r6 (fun k _ => by rw [plan_none]; simp) (fun x hx => by cases hx) ?_)
  simp only [putDst_some, putDst_none, List.set_cons_succ, List.set_cons_zero]
  refine Dp.guard rfl (Dp.callFixed (same_h (n := 4997) (m := m1) (m' := m1) (l := l1) (k := l1) (by omega) (by omega) (by omega) (fun h O => V1 _ h O) (fun h O => V1 _ h O) O13) ?_)
  rintro v14 h14 ⟨rfl, O14⟩
  rw [decide_eq_true (same_self m1 l1)]
  simp only [putDst_some, putDst_none, List.set_cons_succ, List.set_cons_zero]
  refine Dp.pure (v := .bool true) rfl rfl ?_
  refine Dp.move ?_
  simp only [putDst_some, putDst_none, List.set_cons_succ, List.set_cons_zero]
  refine Dp.nil ?_
  simp (disch := first | assumption | omega | (simp only [wkD, oneCell, Option.isSome_some, *]; done) | (simp only [wkE, ne_eq]; omega)) only [wkF, X_region, X_seq, X_block, X_loop, X_cond, Y_box, Y_un, Y_store, Y_append, Y_makeMap, Y_buildSlice, ibin_shl, ibin_shr, ibin_and, ↓reduceIte, reduceCtorEq, oneCell, setAt, readN, Nat.reduceAdd, Nat.reduceLeDiff, Nat.reduceMul, layAt, Nat.reduceLT, Nat.reduceEqDiff, setParams, Int.reduceLT, Int.reduceLE, Int.reduceGT, Int.reduceGE, Int.reduceEq, Int.reduceNe]
  exact leaf1 rfl

theorem wireReads_all (ro : Nat → Option (List Value × Nat)) (vs : List Value) (ha : ArgsD Tryd.prog (pin tabs ro) 1 [.one (.slice 5), .one (.flat (.int .i64)), .agg mKinds, .agg mKinds] vs) : (run env 5000 5 vs (fresh (pin tabs ro))).True := by
  match vs, ha with
  | [v0, v1, v2, v3], ha =>
    obtain ⟨h0, h1, ⟨cs2, rfl, h2⟩, ⟨cs3, rfl, h3⟩, -⟩ := ha
    obtain ⟨p0, B, c0, rfl, hB, -, -, hV0⟩ := dslice h0 by_kinds by_size (by simp) bc (fun a => a < 256) by_inv
    obtain ⟨s, rfl, hs1, hs2⟩ := flat_i64 h1
    obtain ⟨m1, l1, p1, c1, hq1, -, hc1, -, -, hV1⟩ := m_inv _ h2
    obtain ⟨m2, l2, p2, c2, hq2, -, hc2, -, -, hV2⟩ := m_inv _ h3
    have := wireReads_run (kd := s) (lay_tabs ro) (lay_names ro) hB hc1 hc2 hV0 hV1 hV2
    unfold mv at this
    rw [← hq1, ← hq2] at this
    exact run_true this.all
  | [], ha => exact ha.elim
  | [_], ha => exact ha.2.elim
  | [_, _], ha => exact ha.2.2.elim
  | [_, _, _], ha => exact ha.2.2.2.elim
  | _ :: _ :: _ :: _ :: _ :: _, ha => exact ha.2.2.2.2.elim
theorem wireReads_kinds : Tryd.f5.params.toList.mapM (pdOf Tryd.prog) = some [.one (.slice 5), .one (.flat (.int .i64)), .agg mKinds, .agg mKinds] := by kernel_rfl
theorem wireReads_reads : Tryd.f5.params.toList.all (fun t => Tryd.prog.readableRec t && decide (t < Tryd.prog.types.size)) = true := by kernel_rfl
theorem wireReads_size : Tryd.f5.params.size = 4 := by kernel_rfl
theorem wireReads_lifted (os : Os) (started : os.Started) (H : Type) (enc : TypeId × Value → H) :
    ReturnsInHanded {} Tryd.checked os 5 .any (fun w args => (Rows.wireReadsSpec.pre enc Tryd.prog Tryd.f5 [] false w args ∧ laidMetH Tryd.prog [("wagonway/wire.kinds", Rows.laid_wagonway_wire_kinds)] w) ∧ sizedMet enc Tryd.prog Tryd.f5 (OpenSpec.ofChange Rows.wireReadsSpec) false w args) (Rows.wireReadsSpec.post enc Tryd.prog Tryd.f5 false true false false) :=
  deep_door_lifted (C := Tryd.checked) (n := 5000) (pks := [.one (.slice 5), .one (.flat (.int .i64)), .agg mKinds, .agg mKinds]) (tabs := tabs) 1 own started (by kernel_rfl) Tryd.func5
    (ChangeSpec.witness_shaped (enc := enc) (C := Tryd.checked) (os := os) (X := fun w _ => laidMetH Tryd.prog [("wagonway/wire.kinds", Rows.laid_wagonway_wire_kinds)] w) false (World.laidAll Tryd.prog os [("wagonway/wire.kinds", Rows.laid_wagonway_wire_kinds)]) #[.slice none 0 0, .int .i64 0, .agg #[.int .i64 0, .int .i64 0, .int .u32 0, .int .u64 0, .int .i64 0, .int .i64 0, .int .i64 0, .int .i64 0, .slice none 0 0], .agg #[.int .i64 0, .int .i64 0, .int .u32 0, .int .u64 0, .int .i64 0, .int .i64 0, .int .i64 0, .int .i64 0, .slice none 0 0]] 8 (World.laidAll_os _ _ _)
      (World.shaped_of_ZipB (by kernel_rfl) (by kernel_rfl)) (by kernel_rfl) (by kernel_rfl) (by kernel_rfl)
      (by rw [MakeChecks.laidMetH_plain _ _ _ (by kernel_rfl)]; exact laidMet_laidAll _ (by kernel_rfl) (by kernel_rfl)))
    mixed env_ok laid_out wireReads_kinds wireReads_reads (by rfl) Tryd.underlying4 rfl
    (fun ds hds => by rw [wireReads_size] at hds; match ds, hds with | [_, _, _, _], _ => rfl) (by kernel_rfl) tabs_ro (by kernel_rfl) wireReads_all
theorem wireReads_row : Rows.WireReadsSaid :=
  OpenClaim.holds_of_wide 5 Tryd.f5 rfl rfl rfl rfl rfl rfl rfl ⟨rfl, rfl, rfl, rfl, rfl⟩ rfl rfl rfl rfl rfl (by kernel_rfl) Tryd.func5 (by kernel_rfl)
    (of_decide_eq_true (by kernel_rfl)) (by unfold Func.isWrapper; rw [if_neg (of_decide_eq_false (by kernel_rfl))]; exact ⟨rfl, rfl⟩)
    (fun os started H enc _ => wireReads_lifted os started H enc)
theorem wireReads_holds : Rows.WireReadsCardSaid :=
  Claim7.holds_tied_plain_at .later [] [.data] true (true, "6504691fb4248637c7f3bd12986ab8356ba0a8da1b68853a139464c41493caf0") false wireReads_row (fun _ h => by cases h) (by kernel_rfl) (fun _ h => by cases h) wireReads_row_tie rfl ⟨rfl, rfl⟩ (by kernel_rfl) rfl
    (fun f fn hf hfn => by
      obtain rfl : f = 5 := Option.some.inj ((show Tryd.prog.funcNamed _ = some 5 by kernel_rfl).symm.trans hf) |>.symm
      obtain rfl : fn = Tryd.f5 := (Option.some.inj (Tryd.func5.symm.trans hfn)).symm
      exact ⟨by kernel_rfl, fun j t ht => by
        have hall : Tryd.f5.params.toList.all (fun t => !Tryd.prog.wantsStandIn t) = true := by kernel_rfl
        have := List.all_eq_true.1 hall t (List.mem_of_getElem? (i := j) (by simpa using ht))
        have h2 : Tryd.prog.wantsStandIn t = false := by simpa using this
        exact h2⟩)
    (by kernel_rfl)

end Go.Proofs.YtpodmgbnldmlcaaDoor
