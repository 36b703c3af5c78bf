/-
  The law WireSizes holds, on its card: the call answers true whatever packet it is handed, whatever the machine chooses, and nothing that was there before it is changed; the listed package variables start as the program's text lays them.
-/
import Derived.Test.YtpodmgbnldmlcaaDoorFk
import Derived.Test.YtpodmgbnldmlcaaDoorSiz
import Derived.Test.YtpodmgbnldmlcaaDoorRows
import Derived.Test.YtpodmgbnldmlcaaDoorTie
import Derived.Test.YtpodmgbnldmlcaaDoorCards
namespace Go.Proofs.YtpodmgbnldmlcaaDoor
open Go Go.Ideal Go.ChangeShapes Go.RowKit
set_option maxHeartbeats 0
set_option linter.unusedSimpArgs false
set_option linter.unusedVariables false
set_option maxRecDepth 100000
attribute [local irreducible] callV T.All T.Is run
/-- The cells of wagonway/wire.kinds. -/
def tab0 : List Value := [.string ⟨([114, 101, 113, 117, 101, 115, 116] : List UInt8).toArray⟩, .int .i64 1, .int .i64 3, .int .i64 4, .int .i64 0, .int .i64 0, .string ⟨([103, 114, 97, 110, 116] : List UInt8).toArray⟩, .int .i64 1, .int .i64 2, .int .i64 3, .int .i64 0, .int .i64 0, .string ⟨([114, 101, 108, 101, 97, 115, 101] : List UInt8).toArray⟩, .int .i64 1, .int .i64 2, .int .i64 0, .int .i64 0, .int .i64 0, .string ⟨([97, 99, 107] : List UInt8).toArray⟩, .int .i64 0, .int .i64 0, .int .i64 0, .int .i64 0, .int .i64 0, .string ⟨([100, 101, 110, 121] : List UInt8).toArray⟩, .int .i64 1, .int .i64 3, .int .i64 7, .int .i64 0, .int .i64 0, .string ⟨([112, 114, 111, 98, 101] : List UInt8).toArray⟩, .int .i64 1, .int .i64 6, .int .i64 7, .int .i64 4, .int .i64 5, .string ⟨([97, 98, 111, 114, 116] : List UInt8).toArray⟩, .int .i64 6, .int .i64 7, .int .i64 0, .int .i64 0, .int .i64 0, .string ⟨([105, 110, 104, 101, 114, 105, 116] : List UInt8).toArray⟩, .int .i64 1, .int .i64 4, .int .i64 0, .int .i64 0, .int .i64 0, .string ⟨([104, 101, 108, 108, 111] : List UInt8).toArray⟩, .int .i64 0, .int .i64 0, .int .i64 0, .int .i64 0, .int .i64 0, .string ⟨([114, 101, 99, 97, 108, 108] : List UInt8).toArray⟩, .int .i64 1, .int .i64 2, .int .i64 0, .int .i64 0, .int .i64 0, .string ⟨([115, 116, 97, 116, 117, 115] : List UInt8).toArray⟩, .int .i64 8, .int .i64 0, .int .i64 0, .int .i64 0, .int .i64 0]
def tabs : List (Nat × (List Value × Nat)) := [(0, (tab0, 1))]
theorem tab0_flat : ∃ t, (Tryd.prog.globals[0]?).map (·.type) = some t ∧ flatD Tryd.prog 6 t (Rows.laid_wagonway_wire_kinds : DataW Unit) = some tab0 := ⟨_, rfl, by kernel_rfl⟩
theorem tab0_ro {W : World} (h : laidMet Tryd.prog [("wagonway/wire.kinds", Rows.laid_wagonway_wire_kinds)] W) : roW W 0 = some (tab0, 1) := by
  obtain ⟨t, h1, h2⟩ := tab0_flat
  exact (laid_ro h (n := "wagonway/wire.kinds") (by simp) (by kernel_rfl) h1 h2 (by kernel_rfl)).trans (by kernel_rfl)
theorem tabs_ro (W : World) (h : laidMet Tryd.prog [("wagonway/wire.kinds", Rows.laid_wagonway_wire_kinds)] W) : ∀ p ∈ tabs, roW W p.1 = some p.2 := by
  intro p hp
  simp only [tabs, List.mem_cons, List.not_mem_nil, or_false] at hp
  rcases hp with rfl
  · exact tab0_ro h
theorem own : ownKnob Tryd.prog.godebug = none := by kernel_rfl
theorem mixed : Tryd.prog.follows .mixedOrders = true := by kernel_rfl
theorem laid_out : laidOutB Tryd.prog = true := by kernel_rfl

theorem env4 : env 4 = some ir4 := rfl
theorem lay_tabs (ro : Nat → Option (List Value × Nat)) : Lay (pin tabs ro) := by
  intro kd h0 h1
  have hg : (fresh (pin tabs ro)).get 1 = some (.cells tab0 1 true) := by unfold Heap.get; rfl
  rw [hg, readC_cells]
  have : kd = 1 ∨ kd = 2 ∨ kd = 3 ∨ kd = 4 ∨ kd = 5 ∨ kd = 6 ∨ kd = 7 ∨ kd = 8 ∨ kd = 9 ∨ kd = 10 ∨ kd = 11 := by omega
  rcases this with rfl | rfl | rfl | rfl | rfl | rfl | rfl | rfl | rfl | rfl | rfl <;> rfl
theorem comp_get0 : ∀ (A : List Nat) (k : Nat), (comp A)[2 * k]? = A[k]?
  | [], k => by simp [comp]
  | x :: A, 0 => rfl
  | x :: A, k + 1 => by
    have := comp_get0 A k
    unfold comp at this ⊢
    rw [List.flatMap_cons, show 2 * (k + 1) = (2 * k) + 1 + 1 by omega]
    simpa using this
theorem comp_get1 : ∀ (A : List Nat) (k : Nat), (comp A)[2 * k + 1]? = (A[k]?).map fun x => 255 - x
  | [], k => by simp [comp]
  | x :: A, 0 => rfl
  | x :: A, k + 1 => by
    have := comp_get1 A k
    unfold comp at this ⊢
    rw [List.flatMap_cons, show 2 * (k + 1) + 1 = (2 * k + 1) + 1 + 1 by omega]
    simpa using this
theorem allB_len (p : Pkt) (l : List Cl) : (allB p l).length = 18 + (plainB p.m l).length := by
  unfold allB
  simp only [List.length_append, List.length_cons, List.length_nil, be_flat4]
theorem mid_turn {X Y Y' Z : List Nat} {k : Nat} (h1 : X.length = 10) (h2 : Y.length = 8) (h3 : Y'.length = 8) (hk : k < 10 ∨ 18 ≤ k) : (X ++ (Y ++ Z))[k]? = (X ++ (Y' ++ Z))[k]? := by
  rcases hk with hk | hk
  · rw [List.getElem?_append_left (l₁ := X) (by omega), List.getElem?_append_left (l₁ := X) (by omega)]
  · rw [List.getElem?_append_right (l₁ := X) (by omega), List.getElem?_append_right (l₁ := X) (by omega), List.getElem?_append_right (l₁ := Y) (by omega), List.getElem?_append_right (l₁ := Y') (by omega), h2, h3]
/-- Seq and Met turn the bytes 10 to 17 alone. -/
theorem allB_turn (p : Pkt) (l : List Cl) (s t : Nat) (k : Nat) (hk : k < 10 ∨ 18 ≤ k) : (allB { p with sq := s, mt := t } l)[k]? = (allB p l)[k]? := by
  have e : ∀ q : Pkt, allB q l = ([ub q.fr, ub q.tt] ++ be q.fe 4 ++ be q.te 4) ++ ((be q.sq 4 ++ be q.mt 4) ++ plainB q.m l) := fun q => by
    unfold allB
    simp only [List.flatMap_cons, List.flatMap_nil, List.append_nil, List.append_assoc]
  rw [e { p with sq := s, mt := t }, e p]
  exact mid_turn (by simp only [List.length_append, List.length_cons, List.length_nil, be_len]) (by simp only [List.length_append, be_len]) (by simp only [List.length_append, be_len]) hk
theorem allB_18 (p : Pkt) (l : List Cl) : (allB p l)[18]? = some (ub p.m.kd) := by
  have e0 : ([ub p.fr, ub p.tt] ++ ([p.fe, p.te, p.sq, p.mt].flatMap fun n => be n 4)).length = 18 := by
    simp only [List.length_append, List.length_cons, List.length_nil, be_flat4]
  show (([ub p.fr, ub p.tt] ++ ([p.fe, p.te, p.sq, p.mt].flatMap fun n => be n 4)) ++ plainB p.m l)[18]? = _
  rw [List.getElem?_append_right (by rw [e0]; omega), e0]
  rfl
theorem u8_255 {x : Nat} (hx : x < 256) : IntKind.u8.wrap ((x : Int) + ((255 - x : Nat) : Int)) = 255 := by
  rw [u8_wrap]; omega
theorem rdB {h : Heap} {v : Value} {A : List Nat} (V : Vw 1 bc h v A) {i x : Nat} (hi : A[i]? = some x) : ∃ (b off : Nat) (sp : Option Nat) (c : Nat), v = .slice (some ⟨b, off, sp⟩) A.length c ∧ readC (h.get b) (off + i * 1) 1 = some [.int .u8 (x : Int)] := by
  obtain ⟨b, off, sp, c, hv, -, k⟩ := V.rd bc_len hi
  exact ⟨b, off, sp, c, hv, k⟩

theorem wireSizes_run {ro : Nat → Option (List Value × Nat)} {p : Pkt} {l : List Cl} {seq met c : Nat} {pp : Option Addr} (hL : Lay ro) (hW : WfP p l) (hs : seq < 4294967296) (ht : met < 4294967296) (hc : p.m.cl = .slice pp l.length c) (hcm : c ≤ maxLen) (hlc : l.length ≤ c)
    (V : ∀ (L : List Rs) (h : Heap), Has ro h L → Vw 2 cc h p.m.cl l) :
    (callV env 5000 (.func (.func 4) #[] #[]) [pv p, .int .u32 (seq : Int), .int .u32 (met : Int)] (fresh ro)).Is fun q => q.1 = .bool true := by
  refine call_is (n := 4999) env4 ?_
  have O : Has ro (fresh ro) [] := Has.start ro
  simp (disch := first | assumption | omega | (simp only [wkD, oneCell, Option.isSome_some, *]; done) | (simp only [wkE, ne_eq]; omega)) only [ir4, List.append_nil, List.nil_append, List.cons_append, List.length_cons, List.length_nil, Nat.reduceAdd, Nat.reduceSub, List.replicate_succ, List.replicate_zero, pv, wk0, wk1, wk2, wk3, wk4, wk5, X_region, X_seq, X_block, X_loop, X_cond, Y_un, Y_store, Y_append, Y_makeMap, Y_buildSlice, ibin_shl, ibin_shr, ibin_and, List.set_cons_zero, List.set_cons_succ, List.getD_cons_zero, List.getD_cons_succ, List.map_cons, List.map_nil, ↓reduceIte, reduceCtorEq, oneCell, List.length_cons, List.length_nil, setAt, readN, bne_iff_ne, ne_eq, Nat.reduceAdd, Nat.reduceLeDiff, List.getElem?_cons_zero, List.getElem?_cons_succ, Nat.reduceMul, Option.isSome_some, layAt, Nat.reduceLT, Option.isNone_some, Option.isNone_none, beq_self_eq_true, Nat.reduceEqDiff, setParams, Int.reduceLT, Int.reduceLE, Int.reduceGT, Int.reduceGE, Int.reduceEq, Int.reduceNe, Option.map_some, Option.map_none, Option.isSome_none]
  refine Y_boxO O ?_
  intro pb h1 O1 e1
  replace O1 : Has ro h1 [Ob pb (.cells (pc p) 1 false)] := O1
  simp (disch := first | assumption | omega | (simp only [wkD, oneCell, Option.isSome_some, *]; done) | (simp only [wkE, ne_eq]; omega)) only [wk0, wk1, wk2, wk3, wk4, wk5, X_region, X_seq, X_block, X_loop, X_cond, Y_box, Y_un, Y_store, Y_append, Y_makeMap, Y_buildSlice, ibin_shl, ibin_shr, ibin_and, List.set_cons_zero, List.set_cons_succ, List.getD_cons_zero, List.getD_cons_succ, List.map_cons, List.map_nil, ↓reduceIte, reduceCtorEq, oneCell, List.length_cons, List.length_nil, setAt, readN, bne_iff_ne, ne_eq, Nat.reduceAdd, Nat.reduceLeDiff, List.getElem?_cons_zero, List.getElem?_cons_succ, Nat.reduceMul, Option.isSome_some, layAt, Nat.reduceLT, Option.isNone_some, Option.isNone_none, beq_self_eq_true, Nat.reduceEqDiff, setParams, Int.reduceLT, Int.reduceLE, Int.reduceGT, Int.reduceGE, Int.reduceEq, Int.reduceNe, Option.map_some, Option.map_none, Option.isSome_none]
  refine Z_is (alive_h (n := 4990) hL (by omega) O1) ?_
  rintro v2 h2 ⟨rfl, O2⟩
  clear O O1 e1
  have r14 : ∀ h : Heap, h.get pb = some (.cells (pc p) 1 false) → readC (h.get pb) 14 1 = some [p.m.cl] := fun h e => by rw [e]; rfl
  have q14 := r14 _ (O2.get 0 rfl)
  rw [hc] at q14
  by_cases hlen : 100 < l.length
  · have hl' : (l.length : Int) > 100 := by omega
    simp (disch := first | assumption | omega | (simp only [wkD, oneCell, Option.isSome_some, *]; done) | (simp only [wkE, ne_eq]; omega)) only [q14, hl', wk0, wk1, wk2, wk3, wk4, wk5, X_region, X_seq, X_block, X_loop, X_cond, Y_box, Y_un, Y_store, Y_append, Y_makeMap, Y_buildSlice, ibin_shl, ibin_shr, ibin_and, List.set_cons_zero, List.set_cons_succ, List.getD_cons_zero, List.getD_cons_succ, List.map_cons, List.map_nil, ↓reduceIte, reduceCtorEq, oneCell, List.length_cons, List.length_nil, setAt, readN, bne_iff_ne, ne_eq, Nat.reduceAdd, Nat.reduceLeDiff, List.getElem?_cons_zero, List.getElem?_cons_succ, Nat.reduceMul, Option.isSome_some, layAt, Nat.reduceLT, Option.isNone_some, Option.isNone_none, beq_self_eq_true, Nat.reduceEqDiff, setParams, Int.reduceLT, Int.reduceLE, Int.reduceGT, Int.reduceGE, Int.reduceEq, Int.reduceNe, Option.map_some, Option.map_none, Option.isSome_none]
    exact leaf1 rfl
  have hl' : ¬ (l.length : Int) > 100 := by omega
  obtain ⟨r0, r1, r2, r3, r4, r5, r6, r7⟩ := rdp (O2.get 0 rfl)
  simp (disch := first | assumption | omega | (simp only [wkD, oneCell, Option.isSome_some, *]; done) | (simp only [wkE, ne_eq]; omega)) only [q14, hl', r7, agg_pv, wk0, wk1, wk2, wk3, wk4, wk5, X_region, X_seq, X_block, X_loop, X_cond, Y_box, Y_un, Y_store, Y_append, Y_makeMap, Y_buildSlice, ibin_shl, ibin_shr, ibin_and, List.set_cons_zero, List.set_cons_succ, List.getD_cons_zero, List.getD_cons_succ, List.map_cons, List.map_nil, ↓reduceIte, reduceCtorEq, oneCell, List.length_cons, List.length_nil, setAt, readN, bne_iff_ne, ne_eq, Nat.reduceAdd, Nat.reduceLeDiff, List.getElem?_cons_zero, List.getElem?_cons_succ, Nat.reduceMul, Option.isSome_some, layAt, Nat.reduceLT, Option.isNone_some, Option.isNone_none, beq_self_eq_true, Nat.reduceEqDiff, setParams, Int.reduceLT, Int.reduceLE, Int.reduceGT, Int.reduceGE, Int.reduceEq, Int.reduceNe, Option.map_some, Option.map_none, Option.isSome_none]
  refine Z_is (bytes_h (n := 4991) hL (by omega) (by omega) hW (fun h O => V _ h O) O2) ?_
  rintro v3 h3 ⟨v, rfl, O3⟩
  replace O3 : Has ro h3 [Sc 1 bc v (bytesP p l), Ob pb (.cells (pc p) 1 false)] := O3
  by_cases hok : OkP p l
  case neg =>
    rw [code_f hok]
    rw [bytesP_f hok] at O3
    obtain ⟨q3, c3, rfl, -⟩ := O3.scVal 0 rfl
    simp (disch := first | assumption | omega | (simp only [wkD, oneCell, Option.isSome_some, *]; done) | (simp only [wkE, ne_eq]; omega)) only [List.length_nil, wk0, wk1, wk2, wk3, wk4, wk5, X_region, X_seq, X_block, X_loop, X_cond, Y_box, Y_un, Y_store, Y_append, Y_makeMap, Y_buildSlice, ibin_shl, ibin_shr, ibin_and, List.set_cons_zero, List.set_cons_succ, List.getD_cons_zero, List.getD_cons_succ, List.map_cons, List.map_nil, ↓reduceIte, reduceCtorEq, oneCell, List.length_cons, List.length_nil, setAt, readN, bne_iff_ne, ne_eq, Nat.reduceAdd, Nat.reduceLeDiff, List.getElem?_cons_zero, List.getElem?_cons_succ, Nat.reduceMul, Option.isSome_some, layAt, Nat.reduceLT, Option.isNone_some, Option.isNone_none, beq_self_eq_true, Nat.reduceEqDiff, setParams, Int.reduceLT, Int.reduceLE, Int.reduceGT, Int.reduceGE, Int.reduceEq, Int.reduceNe, Option.map_some, Option.map_none, Option.isSome_none]
    exact leaf1 rfl
  rw [code_t hok]
  rw [bytesP_t hok] at O3
  obtain ⟨q3, c3, hv3, -⟩ := O3.scVal 0 rfl
  obtain ⟨r0, r1, r2, r3, r4, r5, r6, r7⟩ := rdp (O3.get 1 rfl)
  have r7' := r7
  clear r0 r1 r2 r3 r4 r5 r6
  simp (disch := first | assumption | omega | (simp only [wkD, oneCell, Option.isSome_some, *]; done) | (simp only [wkE, ne_eq]; omega)) only [hv3, r7, wk0, wk1, wk2, wk3, wk4, wk5, X_region, X_seq, X_block, X_loop, X_cond, Y_un, Y_store, Y_append, Y_makeMap, Y_buildSlice, ibin_shl, ibin_shr, ibin_and, List.set_cons_zero, List.set_cons_succ, List.getD_cons_zero, List.getD_cons_succ, List.map_cons, List.map_nil, ↓reduceIte, reduceCtorEq, oneCell, List.length_cons, List.length_nil, setAt, readN, bne_iff_ne, ne_eq, Nat.reduceAdd, Nat.reduceLeDiff, List.getElem?_cons_zero, List.getElem?_cons_succ, Nat.reduceMul, Option.isSome_some, layAt, Nat.reduceLT, Option.isNone_some, Option.isNone_none, beq_self_eq_true, Nat.reduceEqDiff, setParams, Int.reduceLT, Int.reduceLE, Int.reduceGT, Int.reduceGE, Int.reduceEq, Int.reduceNe, Option.map_some, Option.map_none, Option.isSome_none]
  refine Y_boxO O3 ?_
  intro qb h4 O4 e4
  replace O4 : Has ro h4 [Ob qb (.cells (pc ⟨0, 0, 0, 0, 0, 0, ⟨0, 0, 0, 0, 0, 0, 0, 0, nilS⟩⟩) 1 false), Sc 1 bc v (comp (allB p l)), Ob pb (.cells (pc p) 1 false)] := O4
  have g4 := O4.get 0 rfl
  have p4 := O4.can 0 rfl
  have O5 := O4.set 0 rfl (.cells (pc p) 1 false)
  simp only [List.set_cons_zero] at O5
  have hone : (pc p).all oneCell = true := by
    have : oneCell p.m.cl = true := by rw [hc]; rfl
    simp only [pc, mc, List.all_cons, this, List.all_nil, Bool.and_true]
    rfl
  have hs1 : setAt (pc ⟨0, 0, 0, 0, 0, 0, ⟨0, 0, 0, 0, 0, 0, 0, 0, nilS⟩⟩) 0 (pc p) = pc p := by simp [setAt, pc, mc]
  simp (disch := first | assumption | omega | (simp only [wkD, oneCell, Option.isSome_some, *]; done) | (simp only [wkE, ne_eq]; omega)) only [g4, p4, hs1, hone, cellsOf_agg, pc_len, wk0, wk1, wk2, wk3, wk4, wk5, X_region, X_block, X_loop, X_cond, Y_box, Y_un, Y_store, Y_append, Y_makeMap, Y_buildSlice, ibin_shl, ibin_shr, ibin_and, List.set_cons_zero, List.set_cons_succ, List.getD_cons_zero, List.getD_cons_succ, List.map_cons, List.map_nil, ↓reduceIte, reduceCtorEq, List.length_cons, List.length_nil, readN, bne_iff_ne, ne_eq, Nat.reduceAdd, Nat.reduceLeDiff, List.getElem?_cons_zero, List.getElem?_cons_succ, Nat.reduceMul, Option.isSome_some, layAt, Nat.reduceLT, Option.isNone_some, Option.isNone_none, beq_self_eq_true, Nat.reduceEqDiff, setParams, Int.reduceLT, Int.reduceLE, Int.reduceGT, Int.reduceGE, Int.reduceEq, Int.reduceNe, Option.map_some, Option.map_none, Option.isSome_none]
  generalize h4.setB qb (.cells (pc p) 1 false) = h5 at O5 ⊢
  have g5 := O5.get 0 rfl
  have p5 := O5.can 0 rfl
  have O6 := O5.set 0 rfl (.cells (pc { p with sq := seq }) 1 false)
  simp only [List.set_cons_zero] at O6
  have hs2 : setAt (pc p) 4 [.int .u32 (seq : Int)] = pc { p with sq := seq } := by simp [setAt, pc]
  rw [X_seq]
  simp (disch := first | assumption | omega | (simp only [wkD, oneCell, Option.isSome_some, *]; done) | (simp only [wkE, ne_eq]; omega)) only [g5, p5, hs2, pc_len, wk0, wk1, wk2, wk3, wk4, wk5, X_region, X_block, X_loop, X_cond, Y_box, Y_un, Y_store, Y_append, Y_makeMap, Y_buildSlice, ibin_shl, ibin_shr, ibin_and, List.set_cons_zero, List.set_cons_succ, List.getD_cons_zero, List.getD_cons_succ, List.map_cons, List.map_nil, ↓reduceIte, reduceCtorEq, oneCell, List.length_cons, List.length_nil, readN, bne_iff_ne, ne_eq, Nat.reduceAdd, Nat.reduceLeDiff, List.getElem?_cons_zero, List.getElem?_cons_succ, Nat.reduceMul, Option.isSome_some, layAt, Nat.reduceLT, Option.isNone_some, Option.isNone_none, beq_self_eq_true, Nat.reduceEqDiff, setParams, Int.reduceLT, Int.reduceLE, Int.reduceGT, Int.reduceGE, Int.reduceEq, Int.reduceNe, Option.map_some, Option.map_none, Option.isSome_none]
  generalize h5.setB qb (.cells (pc { p with sq := seq }) 1 false) = h6 at O6 ⊢
  have g6 := O6.get 0 rfl
  have p6 := O6.can 0 rfl
  have O7 := O6.set 0 rfl (.cells (pc { p with sq := seq, mt := met }) 1 false)
  simp only [List.set_cons_zero] at O7
  have hs3 : setAt (pc { p with sq := seq }) 5 [.int .u32 (met : Int)] = pc { p with sq := seq, mt := met } := by simp [setAt, pc]
  rw [X_seq]
  simp (disch := first | assumption | omega | (simp only [wkD, oneCell, Option.isSome_some, *]; done) | (simp only [wkE, ne_eq]; omega)) only [g6, p6, hs3, pc_len, wk0, wk1, wk2, wk3, wk4, wk5, X_region, X_block, X_loop, X_cond, Y_box, Y_un, Y_store, Y_append, Y_makeMap, Y_buildSlice, ibin_shl, ibin_shr, ibin_and, List.set_cons_zero, List.set_cons_succ, List.getD_cons_zero, List.getD_cons_succ, List.map_cons, List.map_nil, ↓reduceIte, reduceCtorEq, oneCell, List.length_cons, List.length_nil, readN, bne_iff_ne, ne_eq, Nat.reduceAdd, Nat.reduceLeDiff, List.getElem?_cons_zero, List.getElem?_cons_succ, Nat.reduceMul, Option.isSome_some, layAt, Nat.reduceLT, Option.isNone_some, Option.isNone_none, beq_self_eq_true, Nat.reduceEqDiff, setParams, Int.reduceLT, Int.reduceLE, Int.reduceGT, Int.reduceGE, Int.reduceEq, Int.reduceNe, Option.map_some, Option.map_none, Option.isSome_none]
  generalize h6.setB qb (.cells (pc { p with sq := seq, mt := met }) 1 false) = h7 at O7 ⊢
  clear O2 O4 O5 O6 g4 p4 g5 p5 g6 p6 hs1 hs2 hs3 e4 r7 r7' q14 O3
  obtain ⟨r0, r1, r2, r3, r4, r5, r6, r7⟩ := rdp (O7.get 0 rfl)
  clear r0 r1 r2 r3 r4 r5 r6
  rw [X_seq]
  simp (disch := first | assumption | omega | (simp only [wkD, oneCell, Option.isSome_some, *]; done) | (simp only [wkE, ne_eq]; omega)) only [r7, agg_pv, wk0, wk1, wk2, wk3, wk4, wk5, X_region, X_block, X_loop, X_cond, Y_box, Y_un, Y_store, Y_append, Y_makeMap, Y_buildSlice, ibin_shl, ibin_shr, ibin_and, List.set_cons_zero, List.set_cons_succ, List.getD_cons_zero, List.getD_cons_succ, List.map_cons, List.map_nil, ↓reduceIte, reduceCtorEq, oneCell, List.length_cons, List.length_nil, setAt, readN, bne_iff_ne, ne_eq, Nat.reduceAdd, Nat.reduceLeDiff, List.getElem?_cons_zero, List.getElem?_cons_succ, Nat.reduceMul, Option.isSome_some, layAt, Nat.reduceLT, Option.isNone_some, Option.isNone_none, beq_self_eq_true, Nat.reduceEqDiff, setParams, Int.reduceLT, Int.reduceLE, Int.reduceGT, Int.reduceGE, Int.reduceEq, Int.reduceNe, Option.map_some, Option.map_none, Option.isSome_none]
  refine Z_is (bytes_h (n := 4991) (p := { p with sq := seq, mt := met }) (l := l) hL (by omega) (by omega) ⟨hW.1, hW.2.1, hs, ht, hW.2.2.2.2⟩ (fun h O => V _ h O) O7) ?_
  rintro v8 h8 ⟨w, rfl, O8⟩
  have hok2 : OkP { p with sq := seq, mt := met } l := hok
  rw [code_t hok2]
  rw [bytesP_t hok2] at O8
  replace O8 : Has ro h8 [Ob pb (.cells (pc p) 1 false), Sc 1 bc v (comp (allB p l)), Sc 1 bc w (comp (allB { p with sq := seq, mt := met } l)), Ob qb (.cells (pc { p with sq := seq, mt := met }) 1 false)] := (show Has ro h8 [Sc 1 bc w (comp (allB { p with sq := seq, mt := met } l)), Ob qb (.cells (pc { p with sq := seq, mt := met }) 1 false), Sc 1 bc v (comp (allB p l)), Ob pb (.cells (pc p) 1 false)] from O8).at 1 rfl |>.at 1 rfl |>.at 2 rfl |>.at 3 rfl
  clear O7 r7
  obtain ⟨q8, c8, hw8, -⟩ := O8.scVal 2 rfl
  have hpl : (allB p l).length = 18 + (plainB p.m l).length := allB_len p l
  have hpl2 : (allB { p with sq := seq, mt := met } l).length = 18 + (plainB p.m l).length := allB_len _ l
  have hcl : (comp (allB p l)).length = 2 * (18 + (plainB p.m l).length) := by rw [comp_len, hpl]
  have hcl2 : (comp (allB { p with sq := seq, mt := met } l)).length = 2 * (18 + (plainB p.m l).length) := by rw [comp_len, hpl2]
  have hN := nums_of hW.2.2.2.2 hok.2.2.2
  have hp1 : 1 ≤ (plainB p.m l).length := by unfold plainB; rw [List.length_cons]; omega
  have hp2 := plainB_len (m := p.m) hN.2.2.2.2.1
  have hk := hok.2.2.2.1
  have hkd : ((ub p.m.kd : Nat) : Int) = p.m.kd := by unfold ub; omega
  have hkw : IntKind.i64.wrap ((ub p.m.kd : Nat) : Int) = p.m.kd := by rw [hkd]; exact wrap_i64 (by omega) (by omega)
  have hA := allB_lt p l
  have h18 := allB_18 p l
  have hT := allB_turn p l seq met
  generalize allB { p with sq := seq, mt := met } l = B at O8 hpl2 hcl2 hT hw8 ⊢
  generalize hA0 : allB p l = A at O8 hpl hcl hA h18 hT hv3 ⊢
  have Va := O8.vw 1 rfl
  obtain ⟨ab, ao, as', ac, hva, -⟩ := rdB Va (i := 2 * 18) (x := ub p.m.kd) (by rw [comp_get0, h18])
  rw [hva] at hv3
  cases hv3
  subst hva hw8
  have rA : ∀ {h : Heap} {L : List Rs} {i x : Nat}, Has ro h (Ob pb (.cells (pc p) 1 false) :: Sc 1 bc (.slice (some ⟨ab, ao, as'⟩) (comp A).length c3) (comp A) :: L) → (comp A)[i]? = some x → readC (h.get ab) (ao + i * 1) 1 = some [.int .u8 (x : Int)] := by
    intro h L i x O hx
    obtain ⟨b', o', s', c', hv', k⟩ := rdB (O.vw 1 rfl) hx
    cases hv'
    exact k
  rw [hcl] at rA O8
  rw [hcl2] at O8
  clear Va
  obtain ⟨N, hN0⟩ : ∃ N, N = 2 * (18 + (plainB p.m l).length) := ⟨_, rfl⟩
  rw [hcl, hcl2]
  rw [← hN0] at O8 rA hcl hcl2 ⊢
  have hsz : sizeM p.m l = (N : Int) := by rw [sizeM_t hok.2.2.2, hN0]; omega
  have htm : (N : Int).tmod 2 = 0 := by rw [Int.tmod_eq_emod_of_nonneg (by omega)]; omega
  have x36 : (comp A)[36]? = some (ub p.m.kd) := by rw [show 36 = 2 * 18 by omega, comp_get0, h18]
  have rdk : ∀ h : Heap, h.get pb = some (.cells (pc p) 1 false) → readC (h.get pb) 6 1 = some [.int .i64 p.m.kd] := fun h e => by rw [e]; rfl
  obtain ⟨bb, bo, bs, bc', hvb, -⟩ := rdB (O8.vw 2 rfl) (i := 2 * 0) (x := B[0]) (by rw [comp_get0, List.getElem?_eq_getElem (by omega)])
  rw [hcl2] at hvb
  cases hvb
  simp (disch := first | assumption | omega | (simp only [wkD, oneCell, Option.isSome_some, *]; done) | (simp only [wkE, ne_eq]; omega)) only [wk0, wk1, wk2, wk3, wk4, wk5, X_region, X_block, X_loop, Y_box, Y_un, Y_store, Y_append, Y_makeMap, Y_buildSlice, ibin_shl, ibin_shr, ibin_and, List.set_cons_zero, List.set_cons_succ, List.getD_cons_zero, List.getD_cons_succ, List.map_cons, List.map_nil, ↓reduceIte, reduceCtorEq, oneCell, List.length_cons, List.length_nil, setAt, readN, bne_iff_ne, ne_eq, Nat.reduceAdd, Nat.reduceLeDiff, List.getElem?_cons_zero, List.getElem?_cons_succ, Nat.reduceMul, Option.isSome_some, layAt, Nat.reduceLT, Option.isNone_some, Option.isNone_none, beq_self_eq_true, Nat.reduceEqDiff, setParams, Int.reduceLT, Int.reduceLE, Int.reduceGT, Int.reduceGE, Int.reduceEq, Int.reduceNe, Option.map_some, Option.map_none, Option.isSome_none]
  rw [X_seq, X_seq]
  refine X_plan [] O8.fine ?_
  refine Dp.move ?_
  refine Dp.pure rfl rfl ?_
  refine Dp.move ?_
  refine Dp.guard rfl ?_
  refine Dp.move ?_
  simp only [putDst_some, putDst_none, List.set_cons_succ, List.set_cons_zero]
  refine Dp.guard rfl ?_
  refine Dp.pure rfl rfl ?_
  refine Dp.guard rfl ?_
  refine Dp.move ?_
  refine Dp.guard rfl ?_
  refine Dp.pure rfl rfl ?_
  refine Dp.guard rfl ?_
  refine Dp.bin (v := .bool false) (a := .int .i64 (N : Int)) (b := .int .i64 (N : Int)) rfl rfl (by rw [ibin_neq]; simp) ?_
  simp only [putDst_some, putDst_none, List.set_cons_succ, List.set_cons_zero]
  refine Dp.pure rfl rfl ?_
  refine Dp.move ?_
  refine Dp.guard rfl ?_
  refine Dp.move ?_
  refine Dp.guard rfl ?_
  refine Dp.pure rfl rfl ?_
  simp only [putDst_some, putDst_none, List.set_cons_succ, List.set_cons_zero]
  refine Dp.guard rfl ?_
  refine Dp.fieldAddr rfl ?_
  refine Dp.guard rfl ?_
  refine Dp.loadBN rfl (rdp (O8.get 0 rfl)).2.2.2.2.2.2.1 ?_
  refine Dp.guard rfl ?_
  refine Dp.callFixed (size_h (n := 4992) (m := p.m) (l := l) hL (by omega) (by omega) hW.2.2.2.2 (fun h O => V _ h O) O8) ?_
  rintro v9 h9 ⟨rfl, O9⟩
  refine Dp.guard rfl ?_
  refine Dp.bin (v := .bool false) (a := .int .i64 (N : Int)) (b := .int .i64 (sizeM p.m l)) rfl rfl (by rw [hsz, ibin_neq]; simp) ?_
  refine Dp.pure rfl rfl ?_
  simp only [putDst_some, putDst_none, List.set_cons_succ, List.set_cons_zero]
  refine Dp.move ?_
  refine Dp.guard rfl ?_
  refine Dp.move ?_
  refine Dp.guard rfl ?_
  refine Dp.pure rfl rfl ?_
  refine Dp.guard rfl ?_
  refine Dp.bin (v := .bool false) (a := .int .i64 (N : Int)) (b := .int .i64 38) rfl rfl (by rw [ibin_lss]; simp; omega) ?_
  simp only [putDst_some, putDst_none, List.set_cons_succ, List.set_cons_zero]
  refine Dp.pure rfl rfl ?_
  refine Dp.move ?_
  refine Dp.guard rfl ?_
  refine Dp.move ?_
  refine Dp.guard rfl ?_
  refine Dp.pure rfl rfl ?_
  simp only [putDst_some, putDst_none, List.set_cons_succ, List.set_cons_zero]
  refine Dp.guard rfl ?_
  refine Dp.bin (v := .int .i64 0) (a := .int .i64 (N : Int)) (b := .int .i64 2) rfl rfl (by rw [ibin_rem, htm]; omega) ?_
  refine Dp.guard rfl ?_
  refine Dp.pure rfl rfl ?_
  refine Dp.pure rfl rfl ?_
  refine Dp.move ?_
  simp only [putDst_some, putDst_none, List.set_cons_succ, List.set_cons_zero]
  refine Dp.guard rfl ?_
  refine Dp.move ?_
  refine Dp.guard rfl ?_
  refine Dp.idx (ii := 36) rfl rfl (by omega) ?_
  refine Dp.guard rfl ?_
  refine Dp.load1 rfl (rA O9 x36) (fun k _ => by rw [plan_none]; simp) (fun x hx => by cases hx) ?_
  refine Dp.guard rfl ?_
  refine Dp.conv rfl hkw ?_
  simp only [putDst_some, putDst_none, List.set_cons_succ, List.set_cons_zero]
  refine Dp.guard rfl ?_
  refine Dp.fieldAddr rfl ?_
  refine Dp.guard rfl ?_
  refine Dp.fieldAddr rfl ?_
  refine Dp.guard rfl ?_
  refine Dp.load1 rfl (rdk _ (O9.get 0 rfl)) (fun k _ => by rw [plan_none]; simp) (fun x hx => by cases hx) ?_
  refine Dp.guard rfl ?_
  refine Dp.bin (v := .bool false) (a := .int .i64 p.m.kd) (b := .int .i64 p.m.kd) rfl rfl (by rw [ibin_neq]; simp) ?_
  simp only [putDst_some, putDst_none, List.set_cons_succ, List.set_cons_zero]
  refine Dp.pure rfl rfl ?_
  refine Dp.nil ?_
  simp (disch := first | assumption | omega | (simp only [wkD, oneCell, Option.isSome_some, *]; done) | (simp only [wkE, ne_eq]; omega)) only [wk0, wk1, wk2, wk3, wk4, wk5, X_region, X_seq, X_block, X_loop, X_cond, Y_box, Y_un, Y_store, Y_append, Y_makeMap, Y_buildSlice, ibin_shl, ibin_shr, ibin_and, List.set_cons_zero, List.set_cons_succ, List.getD_cons_zero, List.getD_cons_succ, List.map_cons, List.map_nil, ↓reduceIte, reduceCtorEq, oneCell, List.length_cons, List.length_nil, setAt, readN, bne_iff_ne, ne_eq, Nat.reduceAdd, Nat.reduceLeDiff, List.getElem?_cons_zero, List.getElem?_cons_succ, Nat.reduceMul, Option.isSome_some, layAt, Nat.reduceLT, Option.isNone_some, Option.isNone_none, beq_self_eq_true, Nat.reduceEqDiff, setParams, Int.reduceLT, Int.reduceLE, Int.reduceGT, Int.reduceGE, Int.reduceEq, Int.reduceNe, Option.map_some, Option.map_none, Option.isSome_none]
  have rB : ∀ {h : Heap} {i x : Nat}, Has ro h [Ob pb (.cells (pc p) 1 false), Sc 1 bc (.slice (some ⟨ab, ao, as'⟩) N c3) (comp A), Sc 1 bc (.slice (some ⟨bb, bo, bs⟩) N c8) (comp B), Ob qb (.cells (pc { p with sq := seq, mt := met }) 1 false)] → (comp B)[i]? = some x → readC (h.get bb) (bo + i * 1) 1 = some [.int .u8 (x : Int)] := by
    intro h i x O hx
    obtain ⟨b', o', s', c', hv', k⟩ := rdB (O.vw 2 rfl) hx
    rw [hcl2] at hv'
    cases hv'
    exact k
  refine L_is (fun q s => ∃ (k : Nat), s.defers = [] ∧ s.tmps.length = 123 ∧ s.tmps.getD 7 undefV = .bool true ∧ s.tmps.getD 8 undefV = .slice (some ⟨ab, ao, as'⟩) N c3 ∧ s.tmps.getD 11 undefV = .slice (some ⟨bb, bo, bs⟩) N c8 ∧ s.tmps.getD 13 undefV = .int .i64 ((2 * k : Nat) : Int) ∧ q = A.length - k ∧ k ≤ A.length ∧ s.h = h9) A.length ?_ (by omega) ?_
  · exact ⟨0, rfl, rfl, rfl, rfl, rfl, rfl, rfl, by omega, rfl⟩
  rintro q_ tm df h10 ⟨k, hd, hlen_, g7, g8, g11, g13, hq, hi, hh⟩
  simp only at hd g7 g8 g11 g13 hh
  subst hd
  obtain ⟨w, hg_, rfl⟩ := explode hlen_
  simp only [hg_] at g7 g8 g11 g13
  clear hlen_ hg_
  subst hh
  have hNA : N = 2 * A.length := by omega
  by_cases hlt : k < A.length
  · have c0 : (0 : Int) ≤ ((2 * k : Nat) : Int) := by omega
    have c1 : ((2 * k : Nat) : Int) < (N : Int) := by omega
    have c2 : (0 : Int) ≤ ((2 * k + 1 : Nat) : Int) := by omega
    have c3' : ((2 * k + 1 : Nat) : Int) < (N : Int) := by omega
    have y1 : IntKind.i64.wrap (((2 * k : Nat) : Int) + 1) = ((2 * k + 1 : Nat) : Int) := by rw [wrap_i64 (by omega) (by omega)]; omega
    have y2 : IntKind.i64.wrap (((2 * k : Nat) : Int) + 2) = ((2 * (k + 1) : Nat) : Int) := by rw [wrap_i64 (by omega) (by omega)]; omega
    have hx : A[k]? = some A[k] := List.getElem?_eq_getElem hlt
    have hx2 := hA A[k] (List.getElem_mem hlt)
    have x0 := rA O9 (i := 2 * k) (x := A[k]) (by rw [comp_get0, hx])
    have x1 := rA O9 (i := 2 * k + 1) (x := 255 - A[k]) (by rw [comp_get1, hx]; rfl)
    have ya := u8_255 hx2
    generalize A[k] = x at hx hx2 x0 x1 ya
    simp (disch := first | assumption | omega | (simp only [wkD, oneCell, Option.isSome_some, *]; done) | (simp only [wkE, ne_eq]; omega)) only [g7, g8, g11, g13, c1, wk0, wk1, wk2, wk3, wk4, wk5, X_region, X_seq, X_block, X_loop, Y_box, Y_un, Y_store, Y_append, Y_makeMap, Y_buildSlice, ibin_shl, ibin_shr, ibin_and, List.set_cons_zero, List.set_cons_succ, List.getD_cons_zero, List.getD_cons_succ, List.map_cons, List.map_nil, ↓reduceIte, reduceCtorEq, oneCell, List.length_cons, List.length_nil, setAt, readN, bne_iff_ne, ne_eq, Nat.reduceAdd, Nat.reduceLeDiff, List.getElem?_cons_zero, List.getElem?_cons_succ, Nat.reduceMul, Option.isSome_some, layAt, Nat.reduceLT, Option.isNone_some, Option.isNone_none, beq_self_eq_true, Nat.reduceEqDiff, setParams, Int.reduceLT, Int.reduceLE, Int.reduceGT, Int.reduceGE, Int.reduceEq, Int.reduceNe, Option.map_some, Option.map_none, Option.isSome_none]
    rw [X_cond]
    simp (disch := first | assumption | omega | (simp only [wkD, oneCell, Option.isSome_some, *]; done) | (simp only [wkE, ne_eq]; omega)) only [wk0, wk1, wk2, wk3, wk4, wk5, X_region, X_seq, X_block, X_loop, X_cond, Y_box, Y_un, Y_store, Y_append, Y_makeMap, Y_buildSlice, ibin_shl, ibin_shr, ibin_and, List.set_cons_zero, List.set_cons_succ, List.getD_cons_zero, List.getD_cons_succ, List.map_cons, List.map_nil, ↓reduceIte, reduceCtorEq, oneCell, List.length_cons, List.length_nil, setAt, readN, bne_iff_ne, ne_eq, Nat.reduceAdd, Nat.reduceLeDiff, List.getElem?_cons_zero, List.getElem?_cons_succ, Nat.reduceMul, Option.isSome_some, layAt, Nat.reduceLT, Option.isNone_some, Option.isNone_none, beq_self_eq_true, Nat.reduceEqDiff, setParams, Int.reduceLT, Int.reduceLE, Int.reduceGT, Int.reduceGE, Int.reduceEq, Int.reduceNe, Option.map_some, Option.map_none, Option.isSome_none]
    refine X_drawn _ fun an => ?_
    by_cases k1 : k < 10
    · have d1 : ((2 * k : Nat) : Int) < 20 := by omega
      have z0 := rB O9 (i := 2 * k) (x := x) (by rw [comp_get0, hT k (Or.inl k1), hx])
      simp (disch := first | assumption | omega | (simp only [wkD, oneCell, Option.isSome_some, *]; done) | (simp only [wkE, ne_eq]; omega)) only [g7, g8, g11, g13, c0, c1, c2, c3', y1, y2, x0, x1, ya, z0, d1, decide_eq_true d1, Int.toNat_natCast, wk0, wk1, wk2, wk3, wk4, wk5, X_region, X_seq, X_block, X_loop, X_cond, Y_box, Y_un, Y_store, Y_append, Y_makeMap, Y_buildSlice, ibin_shl, ibin_shr, ibin_and, List.set_cons_zero, List.set_cons_succ, List.getD_cons_zero, List.getD_cons_succ, List.map_cons, List.map_nil, ↓reduceIte, reduceCtorEq, oneCell, List.length_cons, List.length_nil, setAt, readN, bne_iff_ne, ne_eq, Nat.reduceAdd, Nat.reduceLeDiff, List.getElem?_cons_zero, List.getElem?_cons_succ, Nat.reduceMul, Option.isSome_some, layAt, Nat.reduceLT, Option.isNone_some, Option.isNone_none, beq_self_eq_true, Nat.reduceEqDiff, setParams, Int.reduceLT, Int.reduceLE, Int.reduceGT, Int.reduceGE, Int.reduceEq, Int.reduceNe, Option.map_some, Option.map_none, Option.isSome_none]
      exact Is_in ⟨A.length - (k + 1), by omega, k + 1, rfl, rfl, rfl, rfl, rfl, rfl, rfl, by omega, rfl⟩
    have d1 : ¬ ((2 * k : Nat) : Int) < 20 := by omega
    by_cases k2 : 18 ≤ k
    · have d2 : ((2 * k : Nat) : Int) ≥ 36 := by omega
      have z0 := rB O9 (i := 2 * k) (x := x) (by rw [comp_get0, hT k (Or.inr k2), hx])
      simp (disch := first | assumption | omega | (simp only [wkD, oneCell, Option.isSome_some, *]; done) | (simp only [wkE, ne_eq]; omega)) only [g7, g8, g11, g13, c0, c1, c2, c3', y1, y2, x0, x1, ya, z0, d1, decide_eq_false d1, d2, decide_eq_true d2, Int.toNat_natCast, wk0, wk1, wk2, wk3, wk4, wk5, X_region, X_seq, X_block, X_loop, X_cond, Y_box, Y_un, Y_store, Y_append, Y_makeMap, Y_buildSlice, ibin_shl, ibin_shr, ibin_and, List.set_cons_zero, List.set_cons_succ, List.getD_cons_zero, List.getD_cons_succ, List.map_cons, List.map_nil, ↓reduceIte, reduceCtorEq, oneCell, List.length_cons, List.length_nil, setAt, readN, bne_iff_ne, ne_eq, Nat.reduceAdd, Nat.reduceLeDiff, List.getElem?_cons_zero, List.getElem?_cons_succ, Nat.reduceMul, Option.isSome_some, layAt, Nat.reduceLT, Option.isNone_some, Option.isNone_none, beq_self_eq_true, Nat.reduceEqDiff, setParams, Int.reduceLT, Int.reduceLE, Int.reduceGT, Int.reduceGE, Int.reduceEq, Int.reduceNe, Option.map_some, Option.map_none, Option.isSome_none]
      exact Is_in ⟨A.length - (k + 1), by omega, k + 1, rfl, rfl, rfl, rfl, rfl, rfl, rfl, by omega, rfl⟩
    · have d2 : ¬ ((2 * k : Nat) : Int) ≥ 36 := by omega
      simp (disch := first | assumption | omega | (simp only [wkD, oneCell, Option.isSome_some, *]; done) | (simp only [wkE, ne_eq]; omega)) only [g7, g8, g11, g13, c0, c1, c2, c3', y1, y2, x0, x1, ya, d1, decide_eq_false d1, d2, decide_eq_false d2, Int.toNat_natCast, wk0, wk1, wk2, wk3, wk4, wk5, X_region, X_seq, X_block, X_loop, X_cond, Y_box, Y_un, Y_store, Y_append, Y_makeMap, Y_buildSlice, ibin_shl, ibin_shr, ibin_and, List.set_cons_zero, List.set_cons_succ, List.getD_cons_zero, List.getD_cons_succ, List.map_cons, List.map_nil, ↓reduceIte, reduceCtorEq, oneCell, List.length_cons, List.length_nil, setAt, readN, bne_iff_ne, ne_eq, Nat.reduceAdd, Nat.reduceLeDiff, List.getElem?_cons_zero, List.getElem?_cons_succ, Nat.reduceMul, Option.isSome_some, layAt, Nat.reduceLT, Option.isNone_some, Option.isNone_none, beq_self_eq_true, Nat.reduceEqDiff, setParams, Int.reduceLT, Int.reduceLE, Int.reduceGT, Int.reduceGE, Int.reduceEq, Int.reduceNe, Option.map_some, Option.map_none, Option.isSome_none]
      exact Is_in ⟨A.length - (k + 1), by omega, k + 1, rfl, rfl, rfl, rfl, rfl, rfl, rfl, by omega, rfl⟩
  · have c1 : ¬ ((2 * k : Nat) : Int) < (N : Int) := by omega
    simp (disch := first | assumption | omega | (simp only [wkD, oneCell, Option.isSome_some, *]; done) | (simp only [wkE, ne_eq]; omega)) only [g7, g8, g11, g13, c1, wk0, wk1, wk2, wk3, wk4, wk5, X_region, X_seq, X_block, X_loop, X_cond, Y_box, Y_un, Y_store, Y_append, Y_makeMap, Y_buildSlice, ibin_shl, ibin_shr, ibin_and, List.set_cons_zero, List.set_cons_succ, List.getD_cons_zero, List.getD_cons_succ, List.map_cons, List.map_nil, ↓reduceIte, reduceCtorEq, oneCell, List.length_cons, List.length_nil, setAt, readN, bne_iff_ne, ne_eq, Nat.reduceAdd, Nat.reduceLeDiff, List.getElem?_cons_zero, List.getElem?_cons_succ, Nat.reduceMul, Option.isSome_some, layAt, Nat.reduceLT, Option.isNone_some, Option.isNone_none, beq_self_eq_true, Nat.reduceEqDiff, setParams, Int.reduceLT, Int.reduceLE, Int.reduceGT, Int.reduceGE, Int.reduceEq, Int.reduceNe, Option.map_some, Option.map_none, Option.isSome_none]
    refine Is_in ?_
    simp (disch := first | assumption | omega | (simp only [wkD, oneCell, Option.isSome_some, *]; done) | (simp only [wkE, ne_eq]; omega)) only [g7, g8, g11, g13, wk0, wk1, wk2, wk3, wk4, wk5, X_region, X_seq, X_block, X_loop, X_cond, Y_box, Y_un, Y_store, Y_append, Y_makeMap, Y_buildSlice, ibin_shl, ibin_shr, ibin_and, List.set_cons_zero, List.set_cons_succ, List.getD_cons_zero, List.getD_cons_succ, List.map_cons, List.map_nil, ↓reduceIte, reduceCtorEq, oneCell, List.length_cons, List.length_nil, setAt, readN, bne_iff_ne, ne_eq, Nat.reduceAdd, Nat.reduceLeDiff, List.getElem?_cons_zero, List.getElem?_cons_succ, Nat.reduceMul, Option.isSome_some, layAt, Nat.reduceLT, Option.isNone_some, Option.isNone_none, beq_self_eq_true, Nat.reduceEqDiff, setParams, Int.reduceLT, Int.reduceLE, Int.reduceGT, Int.reduceGE, Int.reduceEq, Int.reduceNe, Option.map_some, Option.map_none, Option.isSome_none]
    exact leaf1 rfl

theorem wireSizes_all (ro : Nat → Option (List Value × Nat)) (vs : List Value) (ha : ArgsD Tryd.prog (pin tabs ro) 1 [.agg pKinds, .one (.flat (.int .u32)), .one (.flat (.int .u32))] vs) : (run env 5000 4 vs (fresh (pin tabs ro))).True := by
  match vs, ha with
  | [v0, v1, v2], ha =>
    obtain ⟨⟨cs, rfl, h0⟩, h1, h2, -⟩ := ha
    obtain ⟨q, l, pp, c, hq, hW, hc, hlc, hcm, hV⟩ := p_inv _ h0
    obtain ⟨s, rfl, hs⟩ := flat_u32 h1
    obtain ⟨t, rfl, ht⟩ := flat_u32 h2
    have := wireSizes_run (seq := s) (met := t) (lay_tabs ro) hW hs ht hc hcm hlc hV
    unfold pv at this
    rw [← hq] at this
    exact run_true this.all
  | [], ha => exact ha.elim
  | [_], ha => exact ha.2.elim
  | [_, _], ha => exact ha.2.2.elim
  | _ :: _ :: _ :: _ :: _, ha => exact ha.2.2.2.elim
theorem wireSizes_kinds : Tryd.f4.params.toList.mapM (pdOf Tryd.prog) = some [.agg pKinds, .one (.flat (.int .u32)), .one (.flat (.int .u32))] := by kernel_rfl
theorem wireSizes_reads : Tryd.f4.params.toList.all (fun t => Tryd.prog.readableRec t && decide (t < Tryd.prog.types.size)) = true := by kernel_rfl
theorem wireSizes_size : Tryd.f4.params.size = 3 := by kernel_rfl
theorem wireSizes_lifted (os : Os) (started : os.Started) (H : Type) (enc : TypeId × Value → H) :
    ReturnsInHanded {} Tryd.checked os 4 .any (fun w args => (Rows.wireSizesSpec.pre enc Tryd.prog Tryd.f4 [] false w args ∧ laidMetH Tryd.prog [("wagonway/wire.kinds", Rows.laid_wagonway_wire_kinds)] w) ∧ sizedMet enc Tryd.prog Tryd.f4 (OpenSpec.ofChange Rows.wireSizesSpec) false w args) (Rows.wireSizesSpec.post enc Tryd.prog Tryd.f4 false true false false) :=
  deep_door_lifted (C := Tryd.checked) (n := 5000) (pks := [.agg pKinds, .one (.flat (.int .u32)), .one (.flat (.int .u32))]) (tabs := tabs) 1 own started (by kernel_rfl) Tryd.func4
    (ChangeSpec.witness_shaped (enc := enc) (C := Tryd.checked) (os := os) (X := fun w _ => laidMetH Tryd.prog [("wagonway/wire.kinds", Rows.laid_wagonway_wire_kinds)] w) false (World.laidAll Tryd.prog os [("wagonway/wire.kinds", Rows.laid_wagonway_wire_kinds)]) #[.agg #[.int .i64 0, .int .i64 0, .int .u32 0, .int .u32 0, .int .u32 0, .int .u32 0, .int .i64 0, .int .i64 0, .int .u32 0, .int .u64 0, .int .i64 0, .int .i64 0, .int .i64 0, .int .i64 0, .slice none 0 0], .int .u32 0, .int .u32 0] 8 (World.laidAll_os _ _ _)
      (World.shaped_of_ZipB (by kernel_rfl) (by kernel_rfl)) (by kernel_rfl) (by kernel_rfl) (by kernel_rfl)
      (by rw [MakeChecks.laidMetH_plain _ _ _ (by kernel_rfl)]; exact laidMet_laidAll _ (by kernel_rfl) (by kernel_rfl)))
    mixed env_ok laid_out wireSizes_kinds wireSizes_reads (by rfl) Tryd.underlying4 rfl
    (fun ds hds => by rw [wireSizes_size] at hds; match ds, hds with | [_, _, _], _ => rfl) (by kernel_rfl) tabs_ro (by kernel_rfl) wireSizes_all
theorem wireSizes_row : Rows.WireSizesSaid :=
  OpenClaim.holds_of_wide 4 Tryd.f4 rfl rfl rfl rfl rfl rfl rfl ⟨rfl, rfl, rfl, rfl, rfl⟩ rfl rfl rfl rfl rfl (by kernel_rfl) Tryd.func4 (by kernel_rfl)
    (of_decide_eq_true (by kernel_rfl)) (by unfold Func.isWrapper; rw [if_neg (of_decide_eq_false (by kernel_rfl))]; exact ⟨rfl, rfl⟩)
    (fun os started H enc _ => wireSizes_lifted os started H enc)
theorem wireSizes_holds : Rows.WireSizesCardSaid :=
  Claim7.holds_tied_plain_at .later [] [.data] true (true, "6504691fb4248637c7f3bd12986ab8356ba0a8da1b68853a139464c41493caf0") false wireSizes_row (fun _ h => by cases h) (by kernel_rfl) (fun _ h => by cases h) wireSizes_row_tie rfl ⟨rfl, rfl⟩ (by kernel_rfl) rfl
    (fun f fn hf hfn => by
      obtain rfl : f = 4 := Option.some.inj ((show Tryd.prog.funcNamed _ = some 4 by kernel_rfl).symm.trans hf) |>.symm
      obtain rfl : fn = Tryd.f4 := (Option.some.inj (Tryd.func4.symm.trans hfn)).symm
      exact ⟨by kernel_rfl, fun j t ht => by
        have hall : Tryd.f4.params.toList.all (fun t => !Tryd.prog.wantsStandIn t) = true := by kernel_rfl
        have := List.all_eq_true.1 hall t (List.mem_of_getElem? (i := j) (by simpa using ht))
        have h2 : Tryd.prog.wantsStandIn t = false := by simpa using this
        exact h2⟩)
    (by kernel_rfl)

end Go.Proofs.YtpodmgbnldmlcaaDoor
