/-
  The law WireWrites holds, on its card: the call answers true whatever packet it is handed, whatever the machine chooses, and nothing that was there before it is changed; the listed package variables start as the program's text lays them.
-/
import Derived.Test.YtpodmgbnldmlcaaDoorFk
import Derived.Test.YtpodmgbnldmlcaaDoorRby
import Derived.Test.YtpodmgbnldmlcaaDoorRows
import Derived.Test.YtpodmgbnldmlcaaDoorTie
import Derived.Test.YtpodmgbnldmlcaaDoorCards
namespace Go.Proofs.YtpodmgbnldmlcaaDoor
open Go Go.Ideal Go.ChangeShapes Go.RowKit
set_option maxHeartbeats 0
set_option linter.unusedSimpArgs false
set_option linter.unusedVariables false
set_option maxRecDepth 100000
attribute [local irreducible] callV T.All T.Is run
/-- The cells of wagonway/wire.kinds. -/
def tab0 : List Value := [.string ⟨([114, 101, 113, 117, 101, 115, 116] : List UInt8).toArray⟩, .int .i64 1, .int .i64 3, .int .i64 4, .int .i64 0, .int .i64 0, .string ⟨([103, 114, 97, 110, 116] : List UInt8).toArray⟩, .int .i64 1, .int .i64 2, .int .i64 3, .int .i64 0, .int .i64 0, .string ⟨([114, 101, 108, 101, 97, 115, 101] : List UInt8).toArray⟩, .int .i64 1, .int .i64 2, .int .i64 0, .int .i64 0, .int .i64 0, .string ⟨([97, 99, 107] : List UInt8).toArray⟩, .int .i64 0, .int .i64 0, .int .i64 0, .int .i64 0, .int .i64 0, .string ⟨([100, 101, 110, 121] : List UInt8).toArray⟩, .int .i64 1, .int .i64 3, .int .i64 7, .int .i64 0, .int .i64 0, .string ⟨([112, 114, 111, 98, 101] : List UInt8).toArray⟩, .int .i64 1, .int .i64 6, .int .i64 7, .int .i64 4, .int .i64 5, .string ⟨([97, 98, 111, 114, 116] : List UInt8).toArray⟩, .int .i64 6, .int .i64 7, .int .i64 0, .int .i64 0, .int .i64 0, .string ⟨([105, 110, 104, 101, 114, 105, 116] : List UInt8).toArray⟩, .int .i64 1, .int .i64 4, .int .i64 0, .int .i64 0, .int .i64 0, .string ⟨([104, 101, 108, 108, 111] : List UInt8).toArray⟩, .int .i64 0, .int .i64 0, .int .i64 0, .int .i64 0, .int .i64 0, .string ⟨([114, 101, 99, 97, 108, 108] : List UInt8).toArray⟩, .int .i64 1, .int .i64 2, .int .i64 0, .int .i64 0, .int .i64 0, .string ⟨([115, 116, 97, 116, 117, 115] : List UInt8).toArray⟩, .int .i64 8, .int .i64 0, .int .i64 0, .int .i64 0, .int .i64 0]
def tabs : List (Nat × (List Value × Nat)) := [(0, (tab0, 1))]
theorem tab0_flat : ∃ t, (Tryd.prog.globals[0]?).map (·.type) = some t ∧ flatD Tryd.prog 6 t (Rows.laid_wagonway_wire_kinds : DataW Unit) = some tab0 := ⟨_, rfl, by kernel_rfl⟩
theorem tab0_ro {W : World} (h : laidMet Tryd.prog [("wagonway/wire.kinds", Rows.laid_wagonway_wire_kinds)] W) : roW W 0 = some (tab0, 1) := by
  obtain ⟨t, h1, h2⟩ := tab0_flat
  exact (laid_ro h (n := "wagonway/wire.kinds") (by simp) (by kernel_rfl) h1 h2 (by kernel_rfl)).trans (by kernel_rfl)
theorem tabs_ro (W : World) (h : laidMet Tryd.prog [("wagonway/wire.kinds", Rows.laid_wagonway_wire_kinds)] W) : ∀ p ∈ tabs, roW W p.1 = some p.2 := by
  intro p hp
  simp only [tabs, List.mem_cons, List.not_mem_nil, or_false] at hp
  rcases hp with rfl
  · exact tab0_ro h
theorem own : ownKnob Tryd.prog.godebug = none := by kernel_rfl
theorem mixed : Tryd.prog.follows .mixedOrders = true := by kernel_rfl
theorem laid_out : laidOutB Tryd.prog = true := by kernel_rfl

theorem lay_tabs (ro : Nat → Option (List Value × Nat)) : Lay (pin tabs ro) := by
  intro kd h0 h1
  have hg : (fresh (pin tabs ro)).get 1 = some (.cells tab0 1 true) := by unfold Heap.get; rfl
  rw [hg, readC_cells]
  have : kd = 1 ∨ kd = 2 ∨ kd = 3 ∨ kd = 4 ∨ kd = 5 ∨ kd = 6 ∨ kd = 7 ∨ kd = 8 ∨ kd = 9 ∨ kd = 10 ∨ kd = 11 := by omega
  rcases this with rfl | rfl | rfl | rfl | rfl | rfl | rfl | rfl | rfl | rfl | rfl <;> rfl
theorem rdB {h : Heap} {v : Value} {A : List Nat} (V : Vw 1 bc h v A) {i x : Nat} (hi : A[i]? = some x) : ∃ (b off : Nat) (sp : Option Nat) (c : Nat), v = .slice (some ⟨b, off, sp⟩) A.length c ∧ readC (h.get b) (off + i * 1) 1 = some [.int .u8 (x : Int)] := by
  obtain ⟨b, off, sp, c, hv, -, k⟩ := V.rd bc_len hi
  exact ⟨b, off, sp, c, hv, k⟩
theorem comp_by {A : List Nat} (h : ∀ b ∈ A, b < 256) : ∀ b ∈ comp A, b < 256 := by
  intro b hb
  obtain ⟨x, hx, hx2⟩ := List.mem_flatMap.1 hb
  have := h x hx
  simp only [List.mem_cons, List.not_mem_nil, or_false] at hx2
  omega
theorem allB_len (p : Pkt) (l : List Cl) : (allB p l).length = 18 + (plainB p.m l).length := by
  unfold allB
  simp only [List.length_append, List.length_cons, List.length_nil, be_flat4]
theorem flat_u8 {P : Program} {d : Nat} {ro : Nat → Option (List Value × Nat)} {v : Value} (h : DFit P ro d (.flat (.int .u8)) v) : ∃ x : Nat, v = .int .u8 (x : Int) ∧ x < 256 := by
  have h' : ∃ x : Int, v = .int .u8 x ∧ 0 ≤ x ∧ x ≤ 255 := by cases d <;> exact h
  obtain ⟨x, rfl, h1, h2⟩ := h'
  exact ⟨x.toNat, by rw [Int.toNat_of_nonneg h1], by omega⟩
theorem by_kinds : dkOf Tryd.prog 8 5 = some [.flat (.int .u8)] := by kernel_rfl
theorem by_size : Tryd.prog.cellsOf 5 = 1 := by kernel_rfl
theorem by_inv {ro : Nat → Option (List Value × Nat)} (vs : List Value) (h : Fits2 (DFit Tryd.prog ro 0) [.flat (.int .u8)] vs) : ∃ a : Nat, vs = bc a ∧ a < 256 := by
  obtain ⟨v, w, rfl, h1, h2⟩ := f2_cons h
  have := f2_nil h2
  subst this
  obtain ⟨x, rfl, hx⟩ := flat_u8 h1
  exact ⟨x, rfl, hx⟩

theorem env3 : env 3 = some ir3 := rfl
theorem wireWrites_run {ro : Nat → Option (List Value × Nat)} {p : Pkt} {l : List Cl} {c : Nat} {pp : Option Addr} (hL : Lay ro) (hW : WfP p l) (hc : p.m.cl = .slice pp l.length c)
    (V : ∀ (L : List Rs) (h : Heap), Has ro h L → Vw 2 cc h p.m.cl l) :
    (callV env 5000 (.func (.func 3) #[] #[]) [pv p] (fresh ro)).Is fun q => q.1 = .bool true := by
  refine call_is (n := 4999) env3 ?_
  have O : Has ro (fresh ro) [] := Has.start ro
  simp (disch := first | assumption | omega | (simp only [wkD, oneCell, Option.isSome_some, *]; done) | (simp only [wkE, ne_eq]; omega)) only [ir3, List.append_nil, List.nil_append, List.cons_append, List.length_cons, List.length_nil, Nat.reduceAdd, Nat.reduceSub, List.replicate_succ, List.replicate_zero, pv, wk0, wk1, wk2, wk3, wk4, wk5, X_region, X_seq, X_block, X_loop, X_cond, Y_un, Y_store, Y_append, Y_makeMap, Y_buildSlice, ibin_shl, ibin_shr, ibin_and, List.set_cons_zero, List.set_cons_succ, List.getD_cons_zero, List.getD_cons_succ, List.map_cons, List.map_nil, ↓reduceIte, reduceCtorEq, oneCell, List.length_cons, List.length_nil, setAt, readN, bne_iff_ne, ne_eq, Nat.reduceAdd, Nat.reduceLeDiff, List.getElem?_cons_zero, List.getElem?_cons_succ, Nat.reduceMul, Option.isSome_some, layAt, Nat.reduceLT, Option.isNone_some, Option.isNone_none, beq_self_eq_true, Nat.reduceEqDiff, setParams, Int.reduceLT, Int.reduceLE, Int.reduceGT, Int.reduceGE, Int.reduceEq, Int.reduceNe, Option.map_some, Option.map_none, Option.isSome_none]
  refine Y_boxO O ?_
  intro pb h1 O1 e1
  replace O1 : Has ro h1 [Ob pb (.cells (pc p) 1 false)] := O1
  clear O e1
  have q14 : readC (h1.get pb) 14 1 = some [p.m.cl] := by rw [O1.get 0 rfl]; rfl
  rw [hc] at q14
  by_cases hlen : 100 < l.length
  · have hl' : (l.length : Int) > 100 := by omega
    simp (disch := first | assumption | omega | (simp only [wkD, oneCell, Option.isSome_some, *]; done) | (simp only [wkE, ne_eq]; omega)) only [q14, hl', wk0, wk1, wk2, wk3, wk4, wk5, X_region, X_seq, X_block, X_loop, X_cond, Y_box, Y_un, Y_store, Y_append, Y_makeMap, Y_buildSlice, ibin_shl, ibin_shr, ibin_and, List.set_cons_zero, List.set_cons_succ, List.getD_cons_zero, List.getD_cons_succ, List.map_cons, List.map_nil, ↓reduceIte, reduceCtorEq, oneCell, List.length_cons, List.length_nil, setAt, readN, bne_iff_ne, ne_eq, Nat.reduceAdd, Nat.reduceLeDiff, List.getElem?_cons_zero, List.getElem?_cons_succ, Nat.reduceMul, Option.isSome_some, layAt, Nat.reduceLT, Option.isNone_some, Option.isNone_none, beq_self_eq_true, Nat.reduceEqDiff, setParams, Int.reduceLT, Int.reduceLE, Int.reduceGT, Int.reduceGE, Int.reduceEq, Int.reduceNe, Option.map_some, Option.map_none, Option.isSome_none]
    exact leaf1 rfl
  have hl' : ¬ (l.length : Int) > 100 := by omega
  have r7 := (rdp (O1.get 0 rfl)).2.2.2.2.2.2.2
  simp (disch := first | assumption | omega | (simp only [wkD, oneCell, Option.isSome_some, *]; done) | (simp only [wkE, ne_eq]; omega)) only [q14, hl', r7, agg_pv, wk0, wk1, wk2, wk3, wk4, wk5, X_region, X_seq, X_block, X_loop, X_cond, Y_box, Y_un, Y_store, Y_append, Y_makeMap, Y_buildSlice, ibin_shl, ibin_shr, ibin_and, List.set_cons_zero, List.set_cons_succ, List.getD_cons_zero, List.getD_cons_succ, List.map_cons, List.map_nil, ↓reduceIte, reduceCtorEq, oneCell, List.length_cons, List.length_nil, setAt, readN, bne_iff_ne, ne_eq, Nat.reduceAdd, Nat.reduceLeDiff, List.getElem?_cons_zero, List.getElem?_cons_succ, Nat.reduceMul, Option.isSome_some, layAt, Nat.reduceLT, Option.isNone_some, Option.isNone_none, beq_self_eq_true, Nat.reduceEqDiff, setParams, Int.reduceLT, Int.reduceLE, Int.reduceGT, Int.reduceGE, Int.reduceEq, Int.reduceNe, Option.map_some, Option.map_none, Option.isSome_none]
  refine Z_is (mayP_h (n := 4996) (p := p) (l := l) (by omega) (by omega) hW.2.2.2.2.1 (fun h O => V _ h O) O1) ?_
  rintro v2 h2 ⟨b1, rfl, hb1, O2⟩
  replace O2 : Has ro h2 [Ob pb (.cells (pc p) 1 false)] := O2
  clear O1 q14 r7
  have r6 := (rdp (O2.get 0 rfl)).2.2.2.2.2.2.1
  simp (disch := first | assumption | omega | (simp only [wkD, oneCell, Option.isSome_some, *]; done) | (simp only [wkE, ne_eq]; omega)) only [r6, agg_mv, wk0, wk1, wk2, wk3, wk4, wk5, X_region, X_seq, X_block, X_loop, X_cond, Y_box, Y_un, Y_store, Y_append, Y_makeMap, Y_buildSlice, ibin_shl, ibin_shr, ibin_and, List.set_cons_zero, List.set_cons_succ, List.getD_cons_zero, List.getD_cons_succ, List.map_cons, List.map_nil, ↓reduceIte, reduceCtorEq, oneCell, List.length_cons, List.length_nil, setAt, readN, bne_iff_ne, ne_eq, Nat.reduceAdd, Nat.reduceLeDiff, List.getElem?_cons_zero, List.getElem?_cons_succ, Nat.reduceMul, Option.isSome_some, layAt, Nat.reduceLT, Option.isNone_some, Option.isNone_none, beq_self_eq_true, Nat.reduceEqDiff, setParams, Int.reduceLT, Int.reduceLE, Int.reduceGT, Int.reduceGE, Int.reduceEq, Int.reduceNe, Option.map_some, Option.map_none, Option.isSome_none]
  refine Z_is (may_h (n := 4997) (m := p.m) (l := l) (by omega) (by omega) hW.2.2.2.2.1 (fun h O => V _ h O) O2) ?_
  rintro v3 h3 ⟨b2, rfl, hb2, O3⟩
  replace O3 : Has ro h3 [Ob pb (.cells (pc p) 1 false)] := O3
  clear O2 r6
  have r7 := (rdp (O3.get 0 rfl)).2.2.2.2.2.2.2
  simp (disch := first | assumption | omega | (simp only [wkD, oneCell, Option.isSome_some, *]; done) | (simp only [wkE, ne_eq]; omega)) only [r7, agg_pv, wk0, wk1, wk2, wk3, wk4, wk5, X_region, X_seq, X_block, X_loop, X_cond, Y_box, Y_un, Y_store, Y_append, Y_makeMap, Y_buildSlice, ibin_shl, ibin_shr, ibin_and, List.set_cons_zero, List.set_cons_succ, List.getD_cons_zero, List.getD_cons_succ, List.map_cons, List.map_nil, ↓reduceIte, reduceCtorEq, oneCell, List.length_cons, List.length_nil, setAt, readN, bne_iff_ne, ne_eq, Nat.reduceAdd, Nat.reduceLeDiff, List.getElem?_cons_zero, List.getElem?_cons_succ, Nat.reduceMul, Option.isSome_some, layAt, Nat.reduceLT, Option.isNone_some, Option.isNone_none, beq_self_eq_true, Nat.reduceEqDiff, setParams, Int.reduceLT, Int.reduceLE, Int.reduceGT, Int.reduceGE, Int.reduceEq, Int.reduceNe, Option.map_some, Option.map_none, Option.isSome_none]
  refine Z_is (checkP_h (n := 4992) (p := p) (l := l) hL (by omega) (by omega) (fun h O => V _ h O) O3) ?_
  rintro v4 h4 ⟨rfl, O4⟩
  replace O4 : Has ro h4 [Ob pb (.cells (pc p) 1 false)] := O4
  clear O3 r7
  have r6 := (rdp (O4.get 0 rfl)).2.2.2.2.2.2.1
  simp (disch := first | assumption | omega | (simp only [wkD, oneCell, Option.isSome_some, *]; done) | (simp only [wkE, ne_eq]; omega)) only [r6, agg_mv, wk0, wk1, wk2, wk3, wk4, wk5, X_region, X_seq, X_block, X_loop, X_cond, Y_box, Y_un, Y_store, Y_append, Y_makeMap, Y_buildSlice, ibin_shl, ibin_shr, ibin_and, List.set_cons_zero, List.set_cons_succ, List.getD_cons_zero, List.getD_cons_succ, List.map_cons, List.map_nil, ↓reduceIte, reduceCtorEq, oneCell, List.length_cons, List.length_nil, setAt, readN, bne_iff_ne, ne_eq, Nat.reduceAdd, Nat.reduceLeDiff, List.getElem?_cons_zero, List.getElem?_cons_succ, Nat.reduceMul, Option.isSome_some, layAt, Nat.reduceLT, Option.isNone_some, Option.isNone_none, beq_self_eq_true, Nat.reduceEqDiff, setParams, Int.reduceLT, Int.reduceLE, Int.reduceGT, Int.reduceGE, Int.reduceEq, Int.reduceNe, Option.map_some, Option.map_none, Option.isSome_none]
  refine Z_is (check_h (n := 4993) (m := p.m) (l := l) hL (by omega) (by omega) (fun h O => V _ h O) O4) ?_
  rintro v5 h5 ⟨rfl, O5⟩
  replace O5 : Has ro h5 [Ob pb (.cells (pc p) 1 false)] := O5
  clear O4 r6
  have r7 := (rdp (O5.get 0 rfl)).2.2.2.2.2.2.2
  simp (disch := first | assumption | omega | (simp only [wkD, oneCell, Option.isSome_some, *]; done) | (simp only [wkE, ne_eq]; omega)) only [r7, agg_pv, wk0, wk1, wk2, wk3, wk4, wk5, X_region, X_seq, X_block, X_loop, X_cond, Y_box, Y_un, Y_store, Y_append, Y_makeMap, Y_buildSlice, ibin_shl, ibin_shr, ibin_and, List.set_cons_zero, List.set_cons_succ, List.getD_cons_zero, List.getD_cons_succ, List.map_cons, List.map_nil, ↓reduceIte, reduceCtorEq, oneCell, List.length_cons, List.length_nil, setAt, readN, bne_iff_ne, ne_eq, Nat.reduceAdd, Nat.reduceLeDiff, List.getElem?_cons_zero, List.getElem?_cons_succ, Nat.reduceMul, Option.isSome_some, layAt, Nat.reduceLT, Option.isNone_some, Option.isNone_none, beq_self_eq_true, Nat.reduceEqDiff, setParams, Int.reduceLT, Int.reduceLE, Int.reduceGT, Int.reduceGE, Int.reduceEq, Int.reduceNe, Option.map_some, Option.map_none, Option.isSome_none]
  refine Z_is (bytes_h (n := 4991) (p := p) (l := l) hL (by omega) (by omega) hW (fun h O => V _ h O) O5) ?_
  rintro v6 h6 ⟨u6, rfl, O6⟩
  replace O6 : Has ro h6 [Sc 1 bc u6 (bytesP p l), Ob pb (.cells (pc p) 1 false)] := O6
  clear O5 r7
  have r7 := (rdp (O6.get 1 rfl)).2.2.2.2.2.2.2
  simp (disch := first | assumption | omega | (simp only [wkD, oneCell, Option.isSome_some, *]; done) | (simp only [wkE, ne_eq]; omega)) only [r7, agg_pv, wk0, wk1, wk2, wk3, wk4, wk5, X_region, X_seq, X_block, X_loop, X_cond, Y_box, Y_un, Y_store, Y_append, Y_makeMap, Y_buildSlice, ibin_shl, ibin_shr, ibin_and, List.set_cons_zero, List.set_cons_succ, List.getD_cons_zero, List.getD_cons_succ, List.map_cons, List.map_nil, ↓reduceIte, reduceCtorEq, oneCell, List.length_cons, List.length_nil, setAt, readN, bne_iff_ne, ne_eq, Nat.reduceAdd, Nat.reduceLeDiff, List.getElem?_cons_zero, List.getElem?_cons_succ, Nat.reduceMul, Option.isSome_some, layAt, Nat.reduceLT, Option.isNone_some, Option.isNone_none, beq_self_eq_true, Nat.reduceEqDiff, setParams, Int.reduceLT, Int.reduceLE, Int.reduceGT, Int.reduceGE, Int.reduceEq, Int.reduceNe, Option.map_some, Option.map_none, Option.isSome_none]
  refine Z_is (rbytes_h (n := 4995) (p := p) (l := l) (by omega) (by omega) hW (fun h O => V _ h O) O6) ?_
  rintro v7 h7 ⟨u7, e7, rfl, hc7, O7⟩
  replace O7 : Has ro h7 [Sc 1 bc u7 (bytesP p l), Sc 1 bc u6 (bytesP p l), Ob pb (.cells (pc p) 1 false)] := O7
  clear O6 r7
  have r6 := (rdp (O7.get 2 rfl)).2.2.2.2.2.2.1
  have hl0 : setAt [Value.int .i64 0, .int .i64 0, .int .u32 0, .int .u32 0, .int .u32 0, .int .u32 0, .int .i64 0, .int .i64 0, .int .u32 0, .int .u64 0, .int .i64 0, .int .i64 0, .int .i64 0, .int .i64 0, .slice none 0 0] 1 [.int .i64 1] = pc ⟨0, 1, 0, 0, 0, 0, mz 0⟩ := rfl
  have hst := set_msg ⟨0, 1, 0, 0, 0, 0, mz 0⟩ p.m
  simp (disch := first | assumption | omega | (simp only [wkD, oneCell, Option.isSome_some, *]; done) | (simp only [wkE, ne_eq]; omega)) only [r6, mc_len, pc_len, hl0, hst, agg_pv, wk0, wk1, wk2, wk3, wk4, wk5, X_region, X_seq, X_block, X_loop, X_cond, Y_box, Y_un, Y_store, Y_append, Y_makeMap, Y_buildSlice, ibin_shl, ibin_shr, ibin_and, List.set_cons_zero, List.set_cons_succ, List.getD_cons_zero, List.getD_cons_succ, List.map_cons, List.map_nil, ↓reduceIte, reduceCtorEq, oneCell, List.length_cons, List.length_nil, readN, bne_iff_ne, ne_eq, Nat.reduceAdd, Nat.reduceLeDiff, List.getElem?_cons_zero, List.getElem?_cons_succ, Nat.reduceMul, Option.isSome_some, layAt, Nat.reduceLT, Option.isNone_some, Option.isNone_none, beq_self_eq_true, Nat.reduceEqDiff, setParams, Int.reduceLT, Int.reduceLE, Int.reduceGT, Int.reduceGE, Int.reduceEq, Int.reduceNe, Option.map_some, Option.map_none, Option.isSome_none]
  have hWQ : WfP ⟨0, 1, 0, 0, 0, 0, p.m⟩ l := ⟨by show (0 : Nat) < _; omega, by show (0 : Nat) < _; omega, by show (0 : Nat) < _; omega, by show (0 : Nat) < _; omega, hW.2.2.2.2⟩
  refine Z_is (rbytes_h (n := 4995) (p := ⟨0, 1, 0, 0, 0, 0, p.m⟩) (l := l) (by omega) (by omega) hWQ (fun h O => V _ h O) O7) ?_
  rintro v9 h9 ⟨u9, e9, rfl, hc9, O9⟩
  replace O9 : Has ro h9 [Sc 1 bc u9 (bytesP ⟨0, 1, 0, 0, 0, 0, p.m⟩ l), Sc 1 bc u7 (bytesP p l), Sc 1 bc u6 (bytesP p l), Ob pb (.cells (pc p) 1 false)] := O9
  clear O7 r6 hl0 hst
  have hQ : OkP ⟨0, 1, 0, 0, 0, 0, p.m⟩ l ↔ OkM p.m l := ⟨fun h => h.2.2.2, fun h => ⟨⟨by show (0 : Int) ≤ 0; omega, by show (0 : Int) ≤ 63; omega⟩, ⟨by show (0 : Int) ≤ 1; omega, by show (1 : Int) ≤ 63; omega⟩, by show (0 : Int) ≠ 1; omega, h⟩⟩
  have hlQ : sizeM p.m l = ((bytesP ⟨0, 1, 0, 0, 0, 0, p.m⟩ l).length : Int) := by
    by_cases hM : OkM p.m l
    · rw [bytesP_t (hQ.2 hM), comp_len, allB_len, sizeM_t hM]
      show 2 * (18 + ((plainB p.m l).length : Int)) = ((2 * (18 + (plainB p.m l).length) : Nat) : Int)
      omega
    · rw [bytesP_f (fun h => hM (hQ.1 h)), sizeM_f hM]
      rfl
  obtain ⟨q9, c9, hu9, -⟩ := O9.scVal 0 rfl
  have r6 := (rdp (O9.get 3 rfl)).2.2.2.2.2.2.1
  have bb : ∀ a : Bool, ((a == a) != false) = true := fun a => by cases a <;> rfl
  have hdl : decide (((bytesP ⟨0, 1, 0, 0, 0, 0, p.m⟩ l).length : Int) = ((bytesP ⟨0, 1, 0, 0, 0, 0, p.m⟩ l).length : Int)) = true := decide_eq_true rfl
  by_cases hM : OkM p.m l
  · have t2 : b2 = true := hb2.2 hM
    subst t2
    rw [code_t hM]
    by_cases hP : OkP p l
    · have t1 : b1 = true := hb1.2 hP
      subst t1
      rw [code_t hP] at hc7
      have h7 : (0 : Int) = e7 := by injection hc7
      subst h7
      rw [code_t hP]
      simp (disch := first | assumption | omega | (simp only [wkD, oneCell, Option.isSome_some, *]; done) | (simp only [wkE, ne_eq]; omega)) only [hu9, wk0, wk1, wk2, wk3, wk4, wk5, X_region, X_seq, X_block, X_loop, X_cond, Y_box, Y_un, Y_store, Y_append, Y_makeMap, Y_buildSlice, ibin_shl, ibin_shr, ibin_and, List.set_cons_zero, List.set_cons_succ, List.getD_cons_zero, List.getD_cons_succ, List.map_cons, List.map_nil, ↓reduceIte, reduceCtorEq, oneCell, List.length_cons, List.length_nil, setAt, readN, bne_iff_ne, ne_eq, Nat.reduceAdd, Nat.reduceLeDiff, List.getElem?_cons_zero, List.getElem?_cons_succ, Nat.reduceMul, Option.isSome_some, layAt, Nat.reduceLT, Option.isNone_some, Option.isNone_none, beq_self_eq_true, Nat.reduceEqDiff, setParams, Int.reduceLT, Int.reduceLE, Int.reduceGT, Int.reduceGE, Int.reduceEq, Int.reduceNe, Option.map_some, Option.map_none, Option.isSome_none]
      rw [Y_bytesStrV (B := bytesP p l) (O9.vw 2 rfl)]
      simp (disch := first | assumption | omega | (simp only [wkD, oneCell, Option.isSome_some, *]; done) | (simp only [wkE, ne_eq]; omega)) only [wk0, wk1, wk2, wk3, wk4, wk5, X_region, X_seq, X_block, X_loop, X_cond, Y_box, Y_un, Y_store, Y_append, Y_makeMap, Y_buildSlice, ibin_shl, ibin_shr, ibin_and, List.set_cons_zero, List.set_cons_succ, List.getD_cons_zero, List.getD_cons_succ, List.map_cons, List.map_nil, ↓reduceIte, reduceCtorEq, oneCell, List.length_cons, List.length_nil, setAt, readN, bne_iff_ne, ne_eq, Nat.reduceAdd, Nat.reduceLeDiff, List.getElem?_cons_zero, List.getElem?_cons_succ, Nat.reduceMul, Option.isSome_some, layAt, Nat.reduceLT, Option.isNone_some, Option.isNone_none, beq_self_eq_true, Nat.reduceEqDiff, setParams, Int.reduceLT, Int.reduceLE, Int.reduceGT, Int.reduceGE, Int.reduceEq, Int.reduceNe, Option.map_some, Option.map_none, Option.isSome_none]
      rw [Y_bytesStrV (B := bytesP p l) (O9.vw 1 rfl)]
      simp (disch := first | assumption | omega | (simp only [wkD, oneCell, Option.isSome_some, *]; done) | (simp only [wkE, ne_eq]; omega)) only [str_eq, r6, agg_mv, wk0, wk1, wk2, wk3, wk4, wk5, X_region, X_seq, X_block, X_loop, X_cond, Y_box, Y_un, Y_store, Y_append, Y_makeMap, Y_buildSlice, ibin_shl, ibin_shr, ibin_and, List.set_cons_zero, List.set_cons_succ, List.getD_cons_zero, List.getD_cons_succ, List.map_cons, List.map_nil, ↓reduceIte, reduceCtorEq, oneCell, List.length_cons, List.length_nil, setAt, readN, bne_iff_ne, ne_eq, Nat.reduceAdd, Nat.reduceLeDiff, List.getElem?_cons_zero, List.getElem?_cons_succ, Nat.reduceMul, Option.isSome_some, layAt, Nat.reduceLT, Option.isNone_some, Option.isNone_none, beq_self_eq_true, Nat.reduceEqDiff, setParams, Int.reduceLT, Int.reduceLE, Int.reduceGT, Int.reduceGE, Int.reduceEq, Int.reduceNe, Option.map_some, Option.map_none, Option.isSome_none]
      refine Z_is (size_h (n := 4992) (m := p.m) (l := l) hL (by omega) (by omega) hW.2.2.2.2 (fun h O => V _ h O) O9) ?_
      rintro v10 h10 ⟨rfl, O10⟩
      rw [hlQ]
      simp (disch := first | assumption | omega | (simp only [wkD, oneCell, Option.isSome_some, *]; done) | (simp only [wkE, ne_eq]; omega)) only [hdl, wk0, wk1, wk2, wk3, wk4, wk5, X_region, X_seq, X_block, X_loop, X_cond, Y_box, Y_un, Y_store, Y_append, Y_makeMap, Y_buildSlice, ibin_shl, ibin_shr, ibin_and, List.set_cons_zero, List.set_cons_succ, List.getD_cons_zero, List.getD_cons_succ, List.map_cons, List.map_nil, ↓reduceIte, reduceCtorEq, oneCell, List.length_cons, List.length_nil, setAt, readN, bne_iff_ne, ne_eq, Nat.reduceAdd, Nat.reduceLeDiff, List.getElem?_cons_zero, List.getElem?_cons_succ, Nat.reduceMul, Option.isSome_some, layAt, Nat.reduceLT, Option.isNone_some, Option.isNone_none, beq_self_eq_true, Nat.reduceEqDiff, setParams, Int.reduceLT, Int.reduceLE, Int.reduceGT, Int.reduceGE, Int.reduceEq, Int.reduceNe, Option.map_some, Option.map_none, Option.isSome_none]
      exact leaf1 rfl
    · have t1 : b1 = false := by
        cases b1 with
        | true => exact absurd (hb1.1 rfl) hP
        | false => rfl
      subst t1
      rw [code_f hP] at hc7
      have h7 : (71 : Int) = e7 := by injection hc7
      subst h7
      rw [code_f hP]
      simp (disch := first | assumption | omega | (simp only [wkD, oneCell, Option.isSome_some, *]; done) | (simp only [wkE, ne_eq]; omega)) only [hu9, wk0, wk1, wk2, wk3, wk4, wk5, X_region, X_seq, X_block, X_loop, X_cond, Y_box, Y_un, Y_store, Y_append, Y_makeMap, Y_buildSlice, ibin_shl, ibin_shr, ibin_and, List.set_cons_zero, List.set_cons_succ, List.getD_cons_zero, List.getD_cons_succ, List.map_cons, List.map_nil, ↓reduceIte, reduceCtorEq, oneCell, List.length_cons, List.length_nil, setAt, readN, bne_iff_ne, ne_eq, Nat.reduceAdd, Nat.reduceLeDiff, List.getElem?_cons_zero, List.getElem?_cons_succ, Nat.reduceMul, Option.isSome_some, layAt, Nat.reduceLT, Option.isNone_some, Option.isNone_none, beq_self_eq_true, Nat.reduceEqDiff, setParams, Int.reduceLT, Int.reduceLE, Int.reduceGT, Int.reduceGE, Int.reduceEq, Int.reduceNe, Option.map_some, Option.map_none, Option.isSome_none]
      rw [Y_bytesStrV (B := bytesP p l) (O9.vw 2 rfl)]
      simp (disch := first | assumption | omega | (simp only [wkD, oneCell, Option.isSome_some, *]; done) | (simp only [wkE, ne_eq]; omega)) only [wk0, wk1, wk2, wk3, wk4, wk5, X_region, X_seq, X_block, X_loop, X_cond, Y_box, Y_un, Y_store, Y_append, Y_makeMap, Y_buildSlice, ibin_shl, ibin_shr, ibin_and, List.set_cons_zero, List.set_cons_succ, List.getD_cons_zero, List.getD_cons_succ, List.map_cons, List.map_nil, ↓reduceIte, reduceCtorEq, oneCell, List.length_cons, List.length_nil, setAt, readN, bne_iff_ne, ne_eq, Nat.reduceAdd, Nat.reduceLeDiff, List.getElem?_cons_zero, List.getElem?_cons_succ, Nat.reduceMul, Option.isSome_some, layAt, Nat.reduceLT, Option.isNone_some, Option.isNone_none, beq_self_eq_true, Nat.reduceEqDiff, setParams, Int.reduceLT, Int.reduceLE, Int.reduceGT, Int.reduceGE, Int.reduceEq, Int.reduceNe, Option.map_some, Option.map_none, Option.isSome_none]
      rw [Y_bytesStrV (B := bytesP p l) (O9.vw 1 rfl)]
      simp (disch := first | assumption | omega | (simp only [wkD, oneCell, Option.isSome_some, *]; done) | (simp only [wkE, ne_eq]; omega)) only [str_eq, r6, agg_mv, wk0, wk1, wk2, wk3, wk4, wk5, X_region, X_seq, X_block, X_loop, X_cond, Y_box, Y_un, Y_store, Y_append, Y_makeMap, Y_buildSlice, ibin_shl, ibin_shr, ibin_and, List.set_cons_zero, List.set_cons_succ, List.getD_cons_zero, List.getD_cons_succ, List.map_cons, List.map_nil, ↓reduceIte, reduceCtorEq, oneCell, List.length_cons, List.length_nil, setAt, readN, bne_iff_ne, ne_eq, Nat.reduceAdd, Nat.reduceLeDiff, List.getElem?_cons_zero, List.getElem?_cons_succ, Nat.reduceMul, Option.isSome_some, layAt, Nat.reduceLT, Option.isNone_some, Option.isNone_none, beq_self_eq_true, Nat.reduceEqDiff, setParams, Int.reduceLT, Int.reduceLE, Int.reduceGT, Int.reduceGE, Int.reduceEq, Int.reduceNe, Option.map_some, Option.map_none, Option.isSome_none]
      refine Z_is (size_h (n := 4992) (m := p.m) (l := l) hL (by omega) (by omega) hW.2.2.2.2 (fun h O => V _ h O) O9) ?_
      rintro v10 h10 ⟨rfl, O10⟩
      rw [hlQ]
      simp (disch := first | assumption | omega | (simp only [wkD, oneCell, Option.isSome_some, *]; done) | (simp only [wkE, ne_eq]; omega)) only [hdl, wk0, wk1, wk2, wk3, wk4, wk5, X_region, X_seq, X_block, X_loop, X_cond, Y_box, Y_un, Y_store, Y_append, Y_makeMap, Y_buildSlice, ibin_shl, ibin_shr, ibin_and, List.set_cons_zero, List.set_cons_succ, List.getD_cons_zero, List.getD_cons_succ, List.map_cons, List.map_nil, ↓reduceIte, reduceCtorEq, oneCell, List.length_cons, List.length_nil, setAt, readN, bne_iff_ne, ne_eq, Nat.reduceAdd, Nat.reduceLeDiff, List.getElem?_cons_zero, List.getElem?_cons_succ, Nat.reduceMul, Option.isSome_some, layAt, Nat.reduceLT, Option.isNone_some, Option.isNone_none, beq_self_eq_true, Nat.reduceEqDiff, setParams, Int.reduceLT, Int.reduceLE, Int.reduceGT, Int.reduceGE, Int.reduceEq, Int.reduceNe, Option.map_some, Option.map_none, Option.isSome_none]
      exact leaf1 rfl
  · have t2 : b2 = false := by
      cases b2 with
      | true => exact absurd (hb2.1 rfl) hM
      | false => rfl
    subst t2
    have hP : ¬ OkP p l := fun h => hM h.2.2.2
    have t1 : b1 = false := by
      cases b1 with
      | true => exact absurd (hb1.1 rfl) hP
      | false => rfl
    subst t1
    rw [code_f hP] at hc7
    have h7 : (71 : Int) = e7 := by injection hc7
    subst h7
    rw [code_f hP, code_f hM]
    simp (disch := first | assumption | omega | (simp only [wkD, oneCell, Option.isSome_some, *]; done) | (simp only [wkE, ne_eq]; omega)) only [hu9, wk0, wk1, wk2, wk3, wk4, wk5, X_region, X_seq, X_block, X_loop, X_cond, Y_box, Y_un, Y_store, Y_append, Y_makeMap, Y_buildSlice, ibin_shl, ibin_shr, ibin_and, List.set_cons_zero, List.set_cons_succ, List.getD_cons_zero, List.getD_cons_succ, List.map_cons, List.map_nil, ↓reduceIte, reduceCtorEq, oneCell, List.length_cons, List.length_nil, setAt, readN, bne_iff_ne, ne_eq, Nat.reduceAdd, Nat.reduceLeDiff, List.getElem?_cons_zero, List.getElem?_cons_succ, Nat.reduceMul, Option.isSome_some, layAt, Nat.reduceLT, Option.isNone_some, Option.isNone_none, beq_self_eq_true, Nat.reduceEqDiff, setParams, Int.reduceLT, Int.reduceLE, Int.reduceGT, Int.reduceGE, Int.reduceEq, Int.reduceNe, Option.map_some, Option.map_none, Option.isSome_none]
    rw [Y_bytesStrV (B := bytesP p l) (O9.vw 2 rfl)]
    simp (disch := first | assumption | omega | (simp only [wkD, oneCell, Option.isSome_some, *]; done) | (simp only [wkE, ne_eq]; omega)) only [wk0, wk1, wk2, wk3, wk4, wk5, X_region, X_seq, X_block, X_loop, X_cond, Y_box, Y_un, Y_store, Y_append, Y_makeMap, Y_buildSlice, ibin_shl, ibin_shr, ibin_and, List.set_cons_zero, List.set_cons_succ, List.getD_cons_zero, List.getD_cons_succ, List.map_cons, List.map_nil, ↓reduceIte, reduceCtorEq, oneCell, List.length_cons, List.length_nil, setAt, readN, bne_iff_ne, ne_eq, Nat.reduceAdd, Nat.reduceLeDiff, List.getElem?_cons_zero, List.getElem?_cons_succ, Nat.reduceMul, Option.isSome_some, layAt, Nat.reduceLT, Option.isNone_some, Option.isNone_none, beq_self_eq_true, Nat.reduceEqDiff, setParams, Int.reduceLT, Int.reduceLE, Int.reduceGT, Int.reduceGE, Int.reduceEq, Int.reduceNe, Option.map_some, Option.map_none, Option.isSome_none]
    rw [Y_bytesStrV (B := bytesP p l) (O9.vw 1 rfl)]
    simp (disch := first | assumption | omega | (simp only [wkD, oneCell, Option.isSome_some, *]; done) | (simp only [wkE, ne_eq]; omega)) only [str_eq, r6, agg_mv, wk0, wk1, wk2, wk3, wk4, wk5, X_region, X_seq, X_block, X_loop, X_cond, Y_box, Y_un, Y_store, Y_append, Y_makeMap, Y_buildSlice, ibin_shl, ibin_shr, ibin_and, List.set_cons_zero, List.set_cons_succ, List.getD_cons_zero, List.getD_cons_succ, List.map_cons, List.map_nil, ↓reduceIte, reduceCtorEq, oneCell, List.length_cons, List.length_nil, setAt, readN, bne_iff_ne, ne_eq, Nat.reduceAdd, Nat.reduceLeDiff, List.getElem?_cons_zero, List.getElem?_cons_succ, Nat.reduceMul, Option.isSome_some, layAt, Nat.reduceLT, Option.isNone_some, Option.isNone_none, beq_self_eq_true, Nat.reduceEqDiff, setParams, Int.reduceLT, Int.reduceLE, Int.reduceGT, Int.reduceGE, Int.reduceEq, Int.reduceNe, Option.map_some, Option.map_none, Option.isSome_none]
    refine Z_is (size_h (n := 4992) (m := p.m) (l := l) hL (by omega) (by omega) hW.2.2.2.2 (fun h O => V _ h O) O9) ?_
    rintro v10 h10 ⟨rfl, O10⟩
    rw [hlQ]
    simp (disch := first | assumption | omega | (simp only [wkD, oneCell, Option.isSome_some, *]; done) | (simp only [wkE, ne_eq]; omega)) only [hdl, wk0, wk1, wk2, wk3, wk4, wk5, X_region, X_seq, X_block, X_loop, X_cond, Y_box, Y_un, Y_store, Y_append, Y_makeMap, Y_buildSlice, ibin_shl, ibin_shr, ibin_and, List.set_cons_zero, List.set_cons_succ, List.getD_cons_zero, List.getD_cons_succ, List.map_cons, List.map_nil, ↓reduceIte, reduceCtorEq, oneCell, List.length_cons, List.length_nil, setAt, readN, bne_iff_ne, ne_eq, Nat.reduceAdd, Nat.reduceLeDiff, List.getElem?_cons_zero, List.getElem?_cons_succ, Nat.reduceMul, Option.isSome_some, layAt, Nat.reduceLT, Option.isNone_some, Option.isNone_none, beq_self_eq_true, Nat.reduceEqDiff, setParams, Int.reduceLT, Int.reduceLE, Int.reduceGT, Int.reduceGE, Int.reduceEq, Int.reduceNe, Option.map_some, Option.map_none, Option.isSome_none]
    exact leaf1 rfl

theorem wireWrites_all (ro : Nat → Option (List Value × Nat)) (vs : List Value) (ha : ArgsD Tryd.prog (pin tabs ro) 1 [.agg pKinds] vs) : (run env 5000 3 vs (fresh (pin tabs ro))).True := by
  match vs, ha with
  | [v0], ha =>
    obtain ⟨⟨cs, rfl, h0⟩, -⟩ := ha
    obtain ⟨q, l, pp, c, hq, hW, hc, hlc, hcm, hV⟩ := p_inv _ h0
    have := wireWrites_run (lay_tabs ro) hW hc hV
    unfold pv at this
    rw [← hq] at this
    exact run_true this.all
  | [], ha => exact ha.elim
  | _ :: _ :: _, ha => exact ha.2.elim
theorem wireWrites_kinds : Tryd.f3.params.toList.mapM (pdOf Tryd.prog) = some [.agg pKinds] := by kernel_rfl
theorem wireWrites_reads : Tryd.f3.params.toList.all (fun t => Tryd.prog.readableRec t && decide (t < Tryd.prog.types.size)) = true := by kernel_rfl
theorem wireWrites_size : Tryd.f3.params.size = 1 := by kernel_rfl
theorem wireWrites_lifted (os : Os) (started : os.Started) (H : Type) (enc : TypeId × Value → H) :
    ReturnsInHanded {} Tryd.checked os 3 .any (fun w args => (Rows.wireWritesSpec.pre enc Tryd.prog Tryd.f3 [] false w args ∧ laidMetH Tryd.prog [("wagonway/wire.kinds", Rows.laid_wagonway_wire_kinds)] w) ∧ sizedMet enc Tryd.prog Tryd.f3 (OpenSpec.ofChange Rows.wireWritesSpec) false w args) (Rows.wireWritesSpec.post enc Tryd.prog Tryd.f3 false true false false) :=
  deep_door_lifted (C := Tryd.checked) (n := 5000) (pks := [.agg pKinds]) (tabs := tabs) 1 own started (by kernel_rfl) Tryd.func3
    (ChangeSpec.witness_shaped (enc := enc) (C := Tryd.checked) (os := os) (X := fun w _ => laidMetH Tryd.prog [("wagonway/wire.kinds", Rows.laid_wagonway_wire_kinds)] w) false (World.laidAll Tryd.prog os [("wagonway/wire.kinds", Rows.laid_wagonway_wire_kinds)]) #[.agg #[.int .i64 0, .int .i64 0, .int .u32 0, .int .u32 0, .int .u32 0, .int .u32 0, .int .i64 0, .int .i64 0, .int .u32 0, .int .u64 0, .int .i64 0, .int .i64 0, .int .i64 0, .int .i64 0, .slice none 0 0]] 8 (World.laidAll_os _ _ _)
      (World.shaped_of_ZipB (by kernel_rfl) (by kernel_rfl)) (by kernel_rfl) (by kernel_rfl) (by kernel_rfl)
      (by rw [MakeChecks.laidMetH_plain _ _ _ (by kernel_rfl)]; exact laidMet_laidAll _ (by kernel_rfl) (by kernel_rfl)))
    mixed env_ok laid_out wireWrites_kinds wireWrites_reads (by rfl) Tryd.underlying4 rfl
    (fun ds hds => by rw [wireWrites_size] at hds; match ds, hds with | [_], _ => rfl) (by kernel_rfl) tabs_ro (by kernel_rfl) wireWrites_all
theorem wireWrites_row : Rows.WireWritesSaid :=
  OpenClaim.holds_of_wide 3 Tryd.f3 rfl rfl rfl rfl rfl rfl rfl ⟨rfl, rfl, rfl, rfl, rfl⟩ rfl rfl rfl rfl rfl (by kernel_rfl) Tryd.func3 (by kernel_rfl)
    (of_decide_eq_true (by kernel_rfl)) (by unfold Func.isWrapper; rw [if_neg (of_decide_eq_false (by kernel_rfl))]; exact ⟨rfl, rfl⟩)
    (fun os started H enc _ => wireWrites_lifted os started H enc)
theorem wireWrites_holds : Rows.WireWritesCardSaid :=
  Claim7.holds_tied_plain_at .later [] [.data] true (true, "6504691fb4248637c7f3bd12986ab8356ba0a8da1b68853a139464c41493caf0") false wireWrites_row (fun _ h => by cases h) (by kernel_rfl) (fun _ h => by cases h) wireWrites_row_tie rfl ⟨rfl, rfl⟩ (by kernel_rfl) rfl
    (fun f fn hf hfn => by
      obtain rfl : f = 3 := Option.some.inj ((show Tryd.prog.funcNamed _ = some 3 by kernel_rfl).symm.trans hf) |>.symm
      obtain rfl : fn = Tryd.f3 := (Option.some.inj (Tryd.func3.symm.trans hfn)).symm
      exact ⟨by kernel_rfl, fun j t ht => by
        have hall : Tryd.f3.params.toList.all (fun t => !Tryd.prog.wantsStandIn t) = true := by kernel_rfl
        have := List.all_eq_true.1 hall t (List.mem_of_getElem? (i := j) (by simpa using ht))
        have h2 : Tryd.prog.wantsStandIn t = false := by simpa using this
        exact h2⟩)
    (by kernel_rfl)

end Go.Proofs.YtpodmgbnldmlcaaDoor
