/-
  The law WireBack holds, on its card: the call answers true whatever packet and bytes it is handed, whatever the machine chooses, and nothing that was there before it is changed; the listed package variables start as the program's text lays them.
-/
import Derived.Test.YtpodmgbnldmlcaaDoorFk
import Derived.Test.YtpodmgbnldmlcaaDoorEqu
import Derived.Test.YtpodmgbnldmlcaaDoorRows
import Derived.Test.YtpodmgbnldmlcaaDoorTie
import Derived.Test.YtpodmgbnldmlcaaDoorCards
namespace Go.Proofs.YtpodmgbnldmlcaaDoor
open Go Go.Ideal Go.ChangeShapes Go.RowKit
set_option maxHeartbeats 0
set_option linter.unusedSimpArgs false
set_option linter.unusedVariables false
set_option maxRecDepth 100000
attribute [local irreducible] callV T.All T.Is run
/-- The cells of wagonway/wire.kinds. -/
def tab0 : List Value := [.string ⟨([114, 101, 113, 117, 101, 115, 116] : List UInt8).toArray⟩, .int .i64 1, .int .i64 3, .int .i64 4, .int .i64 0, .int .i64 0, .string ⟨([103, 114, 97, 110, 116] : List UInt8).toArray⟩, .int .i64 1, .int .i64 2, .int .i64 3, .int .i64 0, .int .i64 0, .string ⟨([114, 101, 108, 101, 97, 115, 101] : List UInt8).toArray⟩, .int .i64 1, .int .i64 2, .int .i64 0, .int .i64 0, .int .i64 0, .string ⟨([97, 99, 107] : List UInt8).toArray⟩, .int .i64 0, .int .i64 0, .int .i64 0, .int .i64 0, .int .i64 0, .string ⟨([100, 101, 110, 121] : List UInt8).toArray⟩, .int .i64 1, .int .i64 3, .int .i64 7, .int .i64 0, .int .i64 0, .string ⟨([112, 114, 111, 98, 101] : List UInt8).toArray⟩, .int .i64 1, .int .i64 6, .int .i64 7, .int .i64 4, .int .i64 5, .string ⟨([97, 98, 111, 114, 116] : List UInt8).toArray⟩, .int .i64 6, .int .i64 7, .int .i64 0, .int .i64 0, .int .i64 0, .string ⟨([105, 110, 104, 101, 114, 105, 116] : List UInt8).toArray⟩, .int .i64 1, .int .i64 4, .int .i64 0, .int .i64 0, .int .i64 0, .string ⟨([104, 101, 108, 108, 111] : List UInt8).toArray⟩, .int .i64 0, .int .i64 0, .int .i64 0, .int .i64 0, .int .i64 0, .string ⟨([114, 101, 99, 97, 108, 108] : List UInt8).toArray⟩, .int .i64 1, .int .i64 2, .int .i64 0, .int .i64 0, .int .i64 0, .string ⟨([115, 116, 97, 116, 117, 115] : List UInt8).toArray⟩, .int .i64 8, .int .i64 0, .int .i64 0, .int .i64 0, .int .i64 0]
def tabs : List (Nat × (List Value × Nat)) := [(0, (tab0, 1))]
theorem tab0_flat : ∃ t, (Tryd.prog.globals[0]?).map (·.type) = some t ∧ flatD Tryd.prog 6 t (Rows.laid_wagonway_wire_kinds : DataW Unit) = some tab0 := ⟨_, rfl, by kernel_rfl⟩
theorem tab0_ro {W : World} (h : laidMet Tryd.prog [("wagonway/wire.kinds", Rows.laid_wagonway_wire_kinds)] W) : roW W 0 = some (tab0, 1) := by
  obtain ⟨t, h1, h2⟩ := tab0_flat
  exact (laid_ro h (n := "wagonway/wire.kinds") (by simp) (by kernel_rfl) h1 h2 (by kernel_rfl)).trans (by kernel_rfl)
theorem tabs_ro (W : World) (h : laidMet Tryd.prog [("wagonway/wire.kinds", Rows.laid_wagonway_wire_kinds)] W) : ∀ p ∈ tabs, roW W p.1 = some p.2 := by
  intro p hp
  simp only [tabs, List.mem_cons, List.not_mem_nil, or_false] at hp
  rcases hp with rfl
  · exact tab0_ro h
theorem own : ownKnob Tryd.prog.godebug = none := by kernel_rfl
theorem mixed : Tryd.prog.follows .mixedOrders = true := by kernel_rfl
theorem laid_out : laidOutB Tryd.prog = true := by kernel_rfl

theorem lay_tabs (ro : Nat → Option (List Value × Nat)) : Lay (pin tabs ro) := by
  intro kd h0 h1
  have hg : (fresh (pin tabs ro)).get 1 = some (.cells tab0 1 true) := by unfold Heap.get; rfl
  rw [hg, readC_cells]
  have : kd = 1 ∨ kd = 2 ∨ kd = 3 ∨ kd = 4 ∨ kd = 5 ∨ kd = 6 ∨ kd = 7 ∨ kd = 8 ∨ kd = 9 ∨ kd = 10 ∨ kd = 11 := by omega
  rcases this with rfl | rfl | rfl | rfl | rfl | rfl | rfl | rfl | rfl | rfl | rfl <;> rfl
theorem rdB {h : Heap} {v : Value} {A : List Nat} (V : Vw 1 bc h v A) {i x : Nat} (hi : A[i]? = some x) : ∃ (b off : Nat) (sp : Option Nat) (c : Nat), v = .slice (some ⟨b, off, sp⟩) A.length c ∧ readC (h.get b) (off + i * 1) 1 = some [.int .u8 (x : Int)] := by
  obtain ⟨b, off, sp, c, hv, -, k⟩ := V.rd bc_len hi
  exact ⟨b, off, sp, c, hv, k⟩
theorem comp_by {A : List Nat} (h : ∀ b ∈ A, b < 256) : ∀ b ∈ comp A, b < 256 := by
  intro b hb
  obtain ⟨x, hx, hx2⟩ := List.mem_flatMap.1 hb
  have := h x hx
  simp only [List.mem_cons, List.not_mem_nil, or_false] at hx2
  omega
theorem allB_len (p : Pkt) (l : List Cl) : (allB p l).length = 18 + (plainB p.m l).length := by
  unfold allB
  simp only [List.length_append, List.length_cons, List.length_nil, be_flat4]
theorem flat_u8 {P : Program} {d : Nat} {ro : Nat → Option (List Value × Nat)} {v : Value} (h : DFit P ro d (.flat (.int .u8)) v) : ∃ x : Nat, v = .int .u8 (x : Int) ∧ x < 256 := by
  have h' : ∃ x : Int, v = .int .u8 x ∧ 0 ≤ x ∧ x ≤ 255 := by cases d <;> exact h
  obtain ⟨x, rfl, h1, h2⟩ := h'
  exact ⟨x.toNat, by rw [Int.toNat_of_nonneg h1], by omega⟩
theorem by_kinds : dkOf Tryd.prog 8 5 = some [.flat (.int .u8)] := by kernel_rfl
theorem by_size : Tryd.prog.cellsOf 5 = 1 := by kernel_rfl
theorem by_inv {ro : Nat → Option (List Value × Nat)} (vs : List Value) (h : Fits2 (DFit Tryd.prog ro 0) [.flat (.int .u8)] vs) : ∃ a : Nat, vs = bc a ∧ a < 256 := by
  obtain ⟨v, w, rfl, h1, h2⟩ := f2_cons h
  have := f2_nil h2
  subst this
  obtain ⟨x, rfl, hx⟩ := flat_u8 h1
  exact ⟨x, rfl, hx⟩

theorem env6 : env 6 = some ir6 := rfl
theorem bytesP_cl (p : Pkt) (l : List Cl) (v : Value) : bytesP { p with m := { p.m with cl := v } } l = bytesP p l := rfl
theorem wireBack_run {ro : Nat → Option (List Value × Nat)} {p : Pkt} {l : List Cl} {B : List Nat} {c c2 : Nat} {pp p2 : Option Addr} (hL : Lay ro) (hW : WfP p l) (hB : ∀ b ∈ B, b < 256) (hc : p.m.cl = .slice pp l.length c)
    (V : ∀ (L : List Rs) (h : Heap), Has ro h L → Vw 2 cc h p.m.cl l) (V2 : ∀ (L : List Rs) (h : Heap), Has ro h L → Vw 1 bc h (.slice p2 B.length c2) B) :
    (callV env 5000 (.func (.func 6) #[] #[]) [pv p, .slice p2 B.length c2] (fresh ro)).Is fun q => q.1 = .bool true := by
  refine call_is (n := 4999) env6 ?_
  have O : Has ro (fresh ro) [] := Has.start ro
  simp (disch := first | assumption | omega | (simp only [wkD, oneCell, Option.isSome_some, *]; done) | (simp only [wkE, ne_eq]; omega)) only [ir6, List.append_nil, List.nil_append, List.cons_append, List.length_cons, List.length_nil, Nat.reduceAdd, Nat.reduceSub, List.replicate_succ, List.replicate_zero, pv, wk0, wk1, wk2, wk3, wk4, wk5, X_region, X_seq, X_block, X_loop, X_cond, Y_un, Y_store, Y_append, Y_makeMap, Y_buildSlice, ibin_shl, ibin_shr, ibin_and, List.set_cons_zero, List.set_cons_succ, List.getD_cons_zero, List.getD_cons_succ, List.map_cons, List.map_nil, ↓reduceIte, reduceCtorEq, oneCell, List.length_cons, List.length_nil, setAt, readN, bne_iff_ne, ne_eq, Nat.reduceAdd, Nat.reduceLeDiff, List.getElem?_cons_zero, List.getElem?_cons_succ, Nat.reduceMul, Option.isSome_some, layAt, Nat.reduceLT, Option.isNone_some, Option.isNone_none, beq_self_eq_true, Nat.reduceEqDiff, setParams, Int.reduceLT, Int.reduceLE, Int.reduceGT, Int.reduceGE, Int.reduceEq, Int.reduceNe, Option.map_some, Option.map_none, Option.isSome_none]
  refine Y_boxO O ?_
  intro pb h1 O1 e1
  replace O1 : Has ro h1 [Ob pb (.cells (pc p) 1 false)] := O1
  simp (disch := first | assumption | omega | (simp only [wkD, oneCell, Option.isSome_some, *]; done) | (simp only [wkE, ne_eq]; omega)) only [wk0, wk1, wk2, wk3, wk4, wk5, X_region, X_seq, X_block, X_loop, X_cond, Y_box, Y_un, Y_store, Y_append, Y_makeMap, Y_buildSlice, ibin_shl, ibin_shr, ibin_and, List.set_cons_zero, List.set_cons_succ, List.getD_cons_zero, List.getD_cons_succ, List.map_cons, List.map_nil, ↓reduceIte, reduceCtorEq, oneCell, List.length_cons, List.length_nil, setAt, readN, bne_iff_ne, ne_eq, Nat.reduceAdd, Nat.reduceLeDiff, List.getElem?_cons_zero, List.getElem?_cons_succ, Nat.reduceMul, Option.isSome_some, layAt, Nat.reduceLT, Option.isNone_some, Option.isNone_none, beq_self_eq_true, Nat.reduceEqDiff, setParams, Int.reduceLT, Int.reduceLE, Int.reduceGT, Int.reduceGE, Int.reduceEq, Int.reduceNe, Option.map_some, Option.map_none, Option.isSome_none]
  refine Z_is (alive_h (n := 4990) hL (by omega) O1) ?_
  rintro v2 h2 ⟨rfl, O2⟩
  clear O O1 e1
  have q14 : readC (h2.get pb) 14 1 = some [p.m.cl] := by rw [O2.get 0 rfl]; rfl
  rw [hc] at q14
  by_cases hlen : 100 < l.length
  · have hl' : (l.length : Int) > 100 := by omega
    simp (disch := first | assumption | omega | (simp only [wkD, oneCell, Option.isSome_some, *]; done) | (simp only [wkE, ne_eq]; omega)) only [q14, hl', wk0, wk1, wk2, wk3, wk4, wk5, X_region, X_seq, X_block, X_loop, X_cond, Y_box, Y_un, Y_store, Y_append, Y_makeMap, Y_buildSlice, ibin_shl, ibin_shr, ibin_and, List.set_cons_zero, List.set_cons_succ, List.getD_cons_zero, List.getD_cons_succ, List.map_cons, List.map_nil, ↓reduceIte, reduceCtorEq, oneCell, List.length_cons, List.length_nil, setAt, readN, bne_iff_ne, ne_eq, Nat.reduceAdd, Nat.reduceLeDiff, List.getElem?_cons_zero, List.getElem?_cons_succ, Nat.reduceMul, Option.isSome_some, layAt, Nat.reduceLT, Option.isNone_some, Option.isNone_none, beq_self_eq_true, Nat.reduceEqDiff, setParams, Int.reduceLT, Int.reduceLE, Int.reduceGT, Int.reduceGE, Int.reduceEq, Int.reduceNe, Option.map_some, Option.map_none, Option.isSome_none]
    exact leaf1 rfl
  have hl' : ¬ (l.length : Int) > 100 := by omega
  by_cases hlz : 500 < B.length
  · have hz' : (B.length : Int) > 500 := by omega
    simp (disch := first | assumption | omega | (simp only [wkD, oneCell, Option.isSome_some, *]; done) | (simp only [wkE, ne_eq]; omega)) only [q14, hl', hz', wk0, wk1, wk2, wk3, wk4, wk5, X_region, X_seq, X_block, X_loop, X_cond, Y_box, Y_un, Y_store, Y_append, Y_makeMap, Y_buildSlice, ibin_shl, ibin_shr, ibin_and, List.set_cons_zero, List.set_cons_succ, List.getD_cons_zero, List.getD_cons_succ, List.map_cons, List.map_nil, ↓reduceIte, reduceCtorEq, oneCell, List.length_cons, List.length_nil, setAt, readN, bne_iff_ne, ne_eq, Nat.reduceAdd, Nat.reduceLeDiff, List.getElem?_cons_zero, List.getElem?_cons_succ, Nat.reduceMul, Option.isSome_some, layAt, Nat.reduceLT, Option.isNone_some, Option.isNone_none, beq_self_eq_true, Nat.reduceEqDiff, setParams, Int.reduceLT, Int.reduceLE, Int.reduceGT, Int.reduceGE, Int.reduceEq, Int.reduceNe, Option.map_some, Option.map_none, Option.isSome_none]
    exact leaf1 rfl
  have hz' : ¬ (B.length : Int) > 500 := by omega
  obtain ⟨r0, r1, r2, r3, r4, r5, r6, r7⟩ := rdp (O2.get 0 rfl)
  simp (disch := first | assumption | omega | (simp only [wkD, oneCell, Option.isSome_some, *]; done) | (simp only [wkE, ne_eq]; omega)) only [q14, hl', hz', r7, agg_pv, wk0, wk1, wk2, wk3, wk4, wk5, X_region, X_seq, X_block, X_loop, X_cond, Y_box, Y_un, Y_store, Y_append, Y_makeMap, Y_buildSlice, ibin_shl, ibin_shr, ibin_and, List.set_cons_zero, List.set_cons_succ, List.getD_cons_zero, List.getD_cons_succ, List.map_cons, List.map_nil, ↓reduceIte, reduceCtorEq, oneCell, List.length_cons, List.length_nil, setAt, readN, bne_iff_ne, ne_eq, Nat.reduceAdd, Nat.reduceLeDiff, List.getElem?_cons_zero, List.getElem?_cons_succ, Nat.reduceMul, Option.isSome_some, layAt, Nat.reduceLT, Option.isNone_some, Option.isNone_none, beq_self_eq_true, Nat.reduceEqDiff, setParams, Int.reduceLT, Int.reduceLE, Int.reduceGT, Int.reduceGE, Int.reduceEq, Int.reduceNe, Option.map_some, Option.map_none, Option.isSome_none]
  refine Z_is (bytes_h (n := 4991) hL (by omega) (by omega) hW (fun h O => V _ h O) O2) ?_
  rintro v3 h3 ⟨v, rfl, O3⟩
  replace O3 : Has ro h3 [Sc 1 bc v (bytesP p l), Ob pb (.cells (pc p) 1 false)] := O3
  clear O2 q14 r0 r1 r2 r3 r4 r5 r6 r7
  have rd : ∀ {h : Heap} {L : List Rs} {B : List Nat} {q : Option Addr} {cq : Nat}, B.length ≤ 1500 → (∀ b ∈ B, b < 256) → (∀ h, Has ro h L → Vw 1 bc h (.slice q B.length cq) B) → Has ro h L → (callV env 4999 (.func (.func 17) #[] #[]) [.slice q B.length cq] h).Is fun z => ∃ P l' cv e, z.1 = .tuple #[pv { P with m := { P.m with cl := cv } }, .int .i64 e] ∧ (RdOk B ∧ e = 0 ∧ P = (readS B).1 ∧ l' = (readS B).2.1 ∨ ¬ RdOk B ∧ e = 70 ∧ P = pz ∧ l' = []) ∧ Has ro z.2 (Sc 2 cc cv l' :: L) := by
    intro h L B q cq h1 h2 h3 h4
    refine T.Is.mono ?_ (read_h (n := 4990) hL (by omega) h1 h2 h3 h4)
    rintro ⟨z, h'⟩ (⟨k1, cv, rfl, k3⟩ | ⟨k1, rfl, k3⟩)
    · exact ⟨_, _, cv, 0, rfl, Or.inl ⟨k1, rfl, rfl, rfl⟩, k3⟩
    · exact ⟨pz, [], nilS, 70, rfl, Or.inr ⟨k1, rfl, rfl, rfl⟩, Has.scNil k3⟩
  have hone : ∀ (P : Pkt) (cv : Value), oneCell cv = true → (pc { P with m := { P.m with cl := cv } }).all oneCell = true := by
    intro P cv hz
    simp only [pc, mc, List.all_cons, hz, List.all_nil, Bool.and_true]
    rfl
  have hset : ∀ P : Pkt, setAt (pc pz) 0 (pc P) = pc P := fun P => by simp [setAt, pc, mc]
  have hbl : (bytesP p l).length ≤ 1500 := by
    by_cases hok : OkP p l
    · have hN := nums_of hW.2.2.2.2 hok.2.2.2
      have hp2 := plainB_len (m := p.m) hN.2.2.2.2.1
      rw [bytesP_t hok, comp_len, allB_len]; omega
    · rw [bytesP_f hok]; simp
  have hbb : ∀ b ∈ bytesP p l, b < 256 := by
    by_cases hok : OkP p l
    · rw [bytesP_t hok]; exact comp_by (allB_lt p l)
    · rw [bytesP_f hok]; intro b hb; cases hb
  obtain ⟨q3, c3, hv3, -⟩ := O3.scVal 0 rfl
  simp (disch := first | assumption | omega | (simp only [wkD, oneCell, Option.isSome_some, *]; done) | (simp only [wkE, ne_eq]; omega)) only [wk0, wk1, wk2, wk3, wk4, wk5, X_region, X_seq, X_block, X_loop, X_cond, Y_box, Y_un, Y_store, Y_append, Y_makeMap, Y_buildSlice, ibin_shl, ibin_shr, ibin_and, List.set_cons_zero, List.set_cons_succ, List.getD_cons_zero, List.getD_cons_succ, List.map_cons, List.map_nil, ↓reduceIte, reduceCtorEq, oneCell, List.length_cons, List.length_nil, setAt, readN, bne_iff_ne, ne_eq, Nat.reduceAdd, Nat.reduceLeDiff, List.getElem?_cons_zero, List.getElem?_cons_succ, Nat.reduceMul, Option.isSome_some, layAt, Nat.reduceLT, Option.isNone_some, Option.isNone_none, beq_self_eq_true, Nat.reduceEqDiff, setParams, Int.reduceLT, Int.reduceLE, Int.reduceGT, Int.reduceGE, Int.reduceEq, Int.reduceNe, Option.map_some, Option.map_none, Option.isSome_none]
  rw [hv3]
  refine Z_is (rd (h := h3) (B := bytesP p l) hbl hbb (fun h O => by
    have := O.vw 0 rfl
    rw [hv3] at this
    exact this) O3) ?_
  rintro w4 h4 ⟨P4, l4, cv4, e4, rfl, re4, O4⟩
  replace O4 : Has ro h4 [Sc 2 cc cv4 l4, Sc 1 bc v (bytesP p l), Ob pb (.cells (pc p) 1 false)] := O4
  clear O3
  simp (disch := first | assumption | omega | (simp only [wkD, oneCell, Option.isSome_some, *]; done) | (simp only [wkE, ne_eq]; omega)) only [wk0, wk1, wk2, wk3, wk4, wk5, X_region, X_seq, X_block, X_loop, X_cond, Y_un, Y_store, Y_append, Y_makeMap, Y_buildSlice, ibin_shl, ibin_shr, ibin_and, List.set_cons_zero, List.set_cons_succ, List.getD_cons_zero, List.getD_cons_succ, List.map_cons, List.map_nil, ↓reduceIte, reduceCtorEq, oneCell, List.length_cons, List.length_nil, setAt, readN, bne_iff_ne, ne_eq, Nat.reduceAdd, Nat.reduceLeDiff, List.getElem?_cons_zero, List.getElem?_cons_succ, Nat.reduceMul, Option.isSome_some, layAt, Nat.reduceLT, Option.isNone_some, Option.isNone_none, beq_self_eq_true, Nat.reduceEqDiff, setParams, Int.reduceLT, Int.reduceLE, Int.reduceGT, Int.reduceGE, Int.reduceEq, Int.reduceNe, Option.map_some, Option.map_none, Option.isSome_none]
  refine Y_boxO O4 ?_
  intro b5 h5 O5 x5
  replace O5 : Has ro h5 [Ob b5 (.cells (pc pz) 1 false), Sc 2 cc cv4 l4, Sc 1 bc v (bytesP p l), Ob pb (.cells (pc p) 1 false)] := O5
  have g5 := O5.get 0 rfl
  have p5 := O5.can 0 rfl
  obtain ⟨-, z4⟩ := scOne O5 1 rfl
  have O6 := O5.set 0 rfl (.cells (pc { P4 with m := { P4.m with cl := cv4 } }) 1 false)
  simp only [List.set_cons_zero] at O6
  have ho4 := hone P4 cv4 z4
  have hs4 := hset { P4 with m := { P4.m with cl := cv4 } }
  simp (disch := first | assumption | omega | (simp only [wkD, oneCell, Option.isSome_some, *]; done) | (simp only [wkE, ne_eq]; omega)) only [pv, g5, p5, hs4, ho4, pc_len, cellsOf_agg, wk0, wk1, wk2, wk3, wk4, wk5, X_region, X_seq, X_block, X_loop, X_cond, Y_box, Y_un, Y_store, Y_append, Y_makeMap, Y_buildSlice, ibin_shl, ibin_shr, ibin_and, List.set_cons_zero, List.set_cons_succ, List.getD_cons_zero, List.getD_cons_succ, List.map_cons, List.map_nil, ↓reduceIte, reduceCtorEq, List.length_cons, List.length_nil, readN, bne_iff_ne, ne_eq, Nat.reduceAdd, Nat.reduceLeDiff, List.getElem?_cons_zero, List.getElem?_cons_succ, Nat.reduceMul, Option.isSome_some, layAt, Nat.reduceLT, Option.isNone_some, Option.isNone_none, beq_self_eq_true, Nat.reduceEqDiff, setParams, Int.reduceLT, Int.reduceLE, Int.reduceGT, Int.reduceGE, Int.reduceEq, Int.reduceNe, Option.map_some, Option.map_none, Option.isSome_none]
  generalize h5.setB b5 (.cells (pc { P4 with m := { P4.m with cl := cv4 } }) 1 false) = h6 at O6 ⊢
  clear O4 O5 g5 p5 hs4 ho4 x5 z4
  refine Z_is (rd (h := h6) (B := B) (by omega) hB (fun h O => V2 _ h O) O6) ?_
  rintro w7 h7 ⟨P7, l7, cv7, e7, rfl, re7, O7⟩
  replace O7 : Has ro h7 [Sc 2 cc cv7 l7, Ob b5 (.cells (pc { P4 with m := { P4.m with cl := cv4 } }) 1 false), Sc 2 cc cv4 l4, Sc 1 bc v (bytesP p l), Ob pb (.cells (pc p) 1 false)] := O7
  clear O6
  simp (disch := first | assumption | omega | (simp only [wkD, oneCell, Option.isSome_some, *]; done) | (simp only [wkE, ne_eq]; omega)) only [wk0, wk1, wk2, wk3, wk4, wk5, X_region, X_seq, X_block, X_loop, X_cond, Y_un, Y_store, Y_append, Y_makeMap, Y_buildSlice, ibin_shl, ibin_shr, ibin_and, List.set_cons_zero, List.set_cons_succ, List.getD_cons_zero, List.getD_cons_succ, List.map_cons, List.map_nil, ↓reduceIte, reduceCtorEq, oneCell, List.length_cons, List.length_nil, setAt, readN, bne_iff_ne, ne_eq, Nat.reduceAdd, Nat.reduceLeDiff, List.getElem?_cons_zero, List.getElem?_cons_succ, Nat.reduceMul, Option.isSome_some, layAt, Nat.reduceLT, Option.isNone_some, Option.isNone_none, beq_self_eq_true, Nat.reduceEqDiff, setParams, Int.reduceLT, Int.reduceLE, Int.reduceGT, Int.reduceGE, Int.reduceEq, Int.reduceNe, Option.map_some, Option.map_none, Option.isSome_none]
  refine Y_boxO O7 ?_
  intro b8 h8 O8 x8
  replace O8 : Has ro h8 [Ob b8 (.cells (pc pz) 1 false), Sc 2 cc cv7 l7, Ob b5 (.cells (pc { P4 with m := { P4.m with cl := cv4 } }) 1 false), Sc 2 cc cv4 l4, Sc 1 bc v (bytesP p l), Ob pb (.cells (pc p) 1 false)] := O8
  have g8 := O8.get 0 rfl
  have p8 := O8.can 0 rfl
  obtain ⟨-, z7⟩ := scOne O8 1 rfl
  have O9 := O8.set 0 rfl (.cells (pc { P7 with m := { P7.m with cl := cv7 } }) 1 false)
  simp only [List.set_cons_zero] at O9
  have ho7 := hone P7 cv7 z7
  have hs7 := hset { P7 with m := { P7.m with cl := cv7 } }
  have hW7 : WfP P7 l7 ∧ l7.length ≤ 200 := by
    rcases re7 with ⟨h1, -, rfl, rfl⟩ | ⟨h1, -, rfl, rfl⟩
    · have := (read_back hB h1).2
      exact ⟨this, by have := (h1.2.2.2.2.2.2.1).2.2.2.2.2; omega⟩
    · exact ⟨⟨by decide, by decide, by decide, by decide, by decide, by decide, fun j hj => by cases hj⟩, by simp⟩
  have rp9 : ∀ h : Heap, h.get b8 = some (.cells (pc { P7 with m := { P7.m with cl := cv7 } }) 1 false) → readC (h.get b8) 0 15 = some (pc { P7 with m := { P7.m with cl := cv7 } }) := fun h e => (rdp e).2.2.2.2.2.2.2
  simp (disch := first | assumption | omega | (simp only [wkD, oneCell, Option.isSome_some, *]; done) | (simp only [wkE, ne_eq]; omega)) only [pv, g8, p8, hs7, ho7, pc_len, cellsOf_agg, wk0, wk1, wk2, wk3, wk4, wk5, X_seq, X_block, X_loop, X_cond, Y_box, Y_un, Y_store, Y_append, Y_makeMap, Y_buildSlice, ibin_shl, ibin_shr, ibin_and, List.set_cons_zero, List.set_cons_succ, List.getD_cons_zero, List.getD_cons_succ, List.map_cons, List.map_nil, ↓reduceIte, reduceCtorEq, List.length_cons, List.length_nil, readN, bne_iff_ne, ne_eq, Nat.reduceAdd, Nat.reduceLeDiff, List.getElem?_cons_zero, List.getElem?_cons_succ, Nat.reduceMul, Option.isSome_some, layAt, Nat.reduceLT, Option.isNone_some, Option.isNone_none, beq_self_eq_true, Nat.reduceEqDiff, setParams, Int.reduceLT, Int.reduceLE, Int.reduceGT, Int.reduceGE, Int.reduceEq, Int.reduceNe, Option.map_some, Option.map_none, Option.isSome_none]
  have r9 := rp9 _ (O9.get 0 rfl)
  generalize h8.setB b8 (.cells (pc { P7 with m := { P7.m with cl := cv7 } }) 1 false) = h9 at O9 r9 ⊢
  clear O7 O8 g8 p8 hs7 ho7 x8 z7
  simp (disch := first | assumption | omega | (simp only [wkD, oneCell, Option.isSome_some, *]; done) | (simp only [wkE, ne_eq]; omega)) only [r9, agg_pv, wk0, wk1, wk2, wk3, wk4, wk5, X_region, X_block, X_loop, X_cond, Y_box, Y_un, Y_store, Y_append, Y_makeMap, Y_buildSlice, ibin_shl, ibin_shr, ibin_and, List.set_cons_zero, List.set_cons_succ, List.getD_cons_zero, List.getD_cons_succ, List.map_cons, List.map_nil, ↓reduceIte, reduceCtorEq, oneCell, List.length_cons, List.length_nil, setAt, readN, bne_iff_ne, ne_eq, Nat.reduceAdd, Nat.reduceLeDiff, List.getElem?_cons_zero, List.getElem?_cons_succ, Nat.reduceMul, Option.isSome_some, layAt, Nat.reduceLT, Option.isNone_some, Option.isNone_none, beq_self_eq_true, Nat.reduceEqDiff, setParams, Int.reduceLT, Int.reduceLE, Int.reduceGT, Int.reduceGE, Int.reduceEq, Int.reduceNe, Option.map_some, Option.map_none, Option.isSome_none]
  refine Z_is (bytes_h (n := 4991) (p := { P7 with m := { P7.m with cl := cv7 } }) (l := l7) hL (by omega) hW7.2 hW7.1 (fun h O => O.vw 1 rfl) O9) ?_
  rintro v10 h10 ⟨u, rfl, O10⟩
  replace O10 : Has ro h10 [Sc 1 bc u (bytesP P7 l7), Ob b8 (.cells (pc { P7 with m := { P7.m with cl := cv7 } }) 1 false), Sc 2 cc cv7 l7, Ob b5 (.cells (pc { P4 with m := { P4.m with cl := cv4 } }) 1 false), Sc 2 cc cv4 l4, Sc 1 bc v (bytesP p l), Ob pb (.cells (pc p) 1 false)] := O10
  have hok7 : OkP { P7 with m := { P7.m with cl := cv7 } } l7 ↔ OkP P7 l7 := Iff.rfl
  rw [code_eq hok7]
  clear O9 r9 rp9 hok7
  obtain ⟨r0, r1, r2, r3, r4, r5, r6, r7⟩ := rdp (O10.get 6 rfl)
  clear r0 r1 r2 r3 r4 r5 r6
  obtain ⟨s0_, s1, s2, s3, s4, s5, s6, s7⟩ := rdp (O10.get 3 rfl)
  clear s0_ s1 s2 s3 s4 s5 s6
  have fin : ∀ {tm : List Value} {h : Heap}, True := trivial
  have e71 : ¬ (71 : Int) = 0 := by decide
  have e70 : ¬ (70 : Int) = 0 := by decide
  by_cases hok : OkP p l
  case neg =>
    rw [code_f hok]
    rcases re7 with ⟨h1, rfl, rfl, rfl⟩ | ⟨h1, rfl, rfl, rfl⟩
    · have hok7 : OkP (readS B).1 (readS B).2.1 := h1.2
      rw [code_t hok7]
      rw [bytesP_t hok7, ← (read_back hB h1).1] at O10
      simp (disch := first | assumption | omega | (simp only [wkD, oneCell, Option.isSome_some, *]; done) | (simp only [wkE, ne_eq]; omega)) only [pv, wk0, wk1, wk2, wk3, wk4, wk5, X_region, X_seq, X_block, X_loop, X_cond, Y_box, Y_un, Y_store, Y_append, Y_makeMap, Y_buildSlice, ibin_shl, ibin_shr, ibin_and, List.set_cons_zero, List.set_cons_succ, List.getD_cons_zero, List.getD_cons_succ, List.map_cons, List.map_nil, ↓reduceIte, reduceCtorEq, oneCell, List.length_cons, List.length_nil, setAt, readN, bne_iff_ne, ne_eq, Nat.reduceAdd, Nat.reduceLeDiff, List.getElem?_cons_zero, List.getElem?_cons_succ, Nat.reduceMul, Option.isSome_some, layAt, Nat.reduceLT, Option.isNone_some, Option.isNone_none, beq_self_eq_true, Nat.reduceEqDiff, setParams, Int.reduceLT, Int.reduceLE, Int.reduceGT, Int.reduceGE, Int.reduceEq, Int.reduceNe, Option.map_some, Option.map_none, Option.isSome_none]
      rw [Y_bytesStrV (B := B) (O10.vw 0 rfl)]
      simp (disch := first | assumption | omega | (simp only [wkD, oneCell, Option.isSome_some, *]; done) | (simp only [wkE, ne_eq]; omega)) only [wk0, wk1, wk2, wk3, wk4, wk5, X_region, X_seq, X_block, X_loop, X_cond, Y_box, Y_un, Y_store, Y_append, Y_makeMap, Y_buildSlice, ibin_shl, ibin_shr, ibin_and, List.set_cons_zero, List.set_cons_succ, List.getD_cons_zero, List.getD_cons_succ, List.map_cons, List.map_nil, ↓reduceIte, reduceCtorEq, oneCell, List.length_cons, List.length_nil, setAt, readN, bne_iff_ne, ne_eq, Nat.reduceAdd, Nat.reduceLeDiff, List.getElem?_cons_zero, List.getElem?_cons_succ, Nat.reduceMul, Option.isSome_some, layAt, Nat.reduceLT, Option.isNone_some, Option.isNone_none, beq_self_eq_true, Nat.reduceEqDiff, setParams, Int.reduceLT, Int.reduceLE, Int.reduceGT, Int.reduceGE, Int.reduceEq, Int.reduceNe, Option.map_some, Option.map_none, Option.isSome_none]
      rw [Y_bytesStrV (B := B) (V2 _ h10 O10)]
      simp (disch := first | assumption | omega | (simp only [wkD, oneCell, Option.isSome_some, *]; done) | (simp only [wkE, ne_eq]; omega)) only [str_eq, wk0, wk1, wk2, wk3, wk4, wk5, X_region, X_seq, X_block, X_loop, X_cond, Y_box, Y_un, Y_store, Y_append, Y_makeMap, Y_buildSlice, ibin_shl, ibin_shr, ibin_and, List.set_cons_zero, List.set_cons_succ, List.getD_cons_zero, List.getD_cons_succ, List.map_cons, List.map_nil, ↓reduceIte, reduceCtorEq, oneCell, List.length_cons, List.length_nil, setAt, readN, bne_iff_ne, ne_eq, Nat.reduceAdd, Nat.reduceLeDiff, List.getElem?_cons_zero, List.getElem?_cons_succ, Nat.reduceMul, Option.isSome_some, layAt, Nat.reduceLT, Option.isNone_some, Option.isNone_none, beq_self_eq_true, Nat.reduceEqDiff, setParams, Int.reduceLT, Int.reduceLE, Int.reduceGT, Int.reduceGE, Int.reduceEq, Int.reduceNe, Option.map_some, Option.map_none, Option.isSome_none]
      exact leaf1 rfl
    · simp (disch := first | assumption | omega | (simp only [wkD, oneCell, Option.isSome_some, *]; done) | (simp only [wkE, ne_eq]; omega)) only [pv, wk0, wk1, wk2, wk3, wk4, wk5, X_region, X_seq, X_block, X_loop, X_cond, Y_box, Y_un, Y_store, Y_append, Y_makeMap, Y_buildSlice, ibin_shl, ibin_shr, ibin_and, List.set_cons_zero, List.set_cons_succ, List.getD_cons_zero, List.getD_cons_succ, List.map_cons, List.map_nil, ↓reduceIte, reduceCtorEq, oneCell, List.length_cons, List.length_nil, setAt, readN, bne_iff_ne, ne_eq, Nat.reduceAdd, Nat.reduceLeDiff, List.getElem?_cons_zero, List.getElem?_cons_succ, Nat.reduceMul, Option.isSome_some, layAt, Nat.reduceLT, Option.isNone_some, Option.isNone_none, beq_self_eq_true, Nat.reduceEqDiff, setParams, Int.reduceLT, Int.reduceLE, Int.reduceGT, Int.reduceGE, Int.reduceEq, Int.reduceNe, Option.map_some, Option.map_none, Option.isSome_none]
      exact leaf1 rfl
  rw [code_t hok]
  have hro := (read_ok hok hW).1
  have hrs := (read_ok hok hW).2
  rw [bytesP_t hok] at re4
  rcases re4 with ⟨-, rfl, rfl, rfl⟩ | ⟨h4, -⟩
  rotate_left
  · exact absurd hro h4
  rw [hrs] at O10 s7
  have V4 : ∀ h, Has ro h [Sc 1 bc u (bytesP P7 l7), Ob b8 (.cells (pc { P7 with m := { P7.m with cl := cv7 } }) 1 false), Sc 2 cc cv7 l7, Ob b5 (.cells (pc { p with m := { p.m with cl := cv4 } }) 1 false), Sc 2 cc cv4 l, Sc 1 bc v (bytesP p l), Ob pb (.cells (pc p) 1 false)] → Vw 2 cc h cv4 l := fun h O => O.vw 4 rfl
  simp (disch := first | assumption | omega | (simp only [wkD, oneCell, Option.isSome_some, *]; done) | (simp only [wkE, ne_eq]; omega)) only [pv, r7, s7, wk0, wk1, wk2, wk3, wk4, wk5, X_region, X_seq, X_block, X_loop, X_cond, Y_box, Y_un, Y_store, Y_append, Y_makeMap, Y_buildSlice, ibin_shl, ibin_shr, ibin_and, List.set_cons_zero, List.set_cons_succ, List.getD_cons_zero, List.getD_cons_succ, List.map_cons, List.map_nil, ↓reduceIte, reduceCtorEq, oneCell, List.length_cons, List.length_nil, setAt, readN, bne_iff_ne, ne_eq, Nat.reduceAdd, Nat.reduceLeDiff, List.getElem?_cons_zero, List.getElem?_cons_succ, Nat.reduceMul, Option.isSome_some, layAt, Nat.reduceLT, Option.isNone_some, Option.isNone_none, beq_self_eq_true, Nat.reduceEqDiff, setParams, Int.reduceLT, Int.reduceLE, Int.reduceGT, Int.reduceGE, Int.reduceEq, Int.reduceNe, Option.map_some, Option.map_none, Option.isSome_none]
  refine Z_is (refEqual_t (n := 4997) (p := p) (l := l) (v1 := p.m.cl) (v2 := cv4) (by omega) (by omega) (by omega) (fun h O => V _ h O) V4 O10) ?_
  rintro w11 h11 ⟨rfl, O11⟩
  rcases re7 with ⟨h1, rfl, rfl, rfl⟩ | ⟨h1, rfl, rfl, rfl⟩
  · have hok7 : OkP (readS B).1 (readS B).2.1 := h1.2
    rw [code_t hok7]
    rw [bytesP_t hok7, ← (read_back hB h1).1] at O11
    simp (disch := first | assumption | omega | (simp only [wkD, oneCell, Option.isSome_some, *]; done) | (simp only [wkE, ne_eq]; omega)) only [wk0, wk1, wk2, wk3, wk4, wk5, X_region, X_seq, X_block, X_loop, X_cond, Y_box, Y_un, Y_store, Y_append, Y_makeMap, Y_buildSlice, ibin_shl, ibin_shr, ibin_and, List.set_cons_zero, List.set_cons_succ, List.getD_cons_zero, List.getD_cons_succ, List.map_cons, List.map_nil, ↓reduceIte, reduceCtorEq, oneCell, List.length_cons, List.length_nil, setAt, readN, bne_iff_ne, ne_eq, Nat.reduceAdd, Nat.reduceLeDiff, List.getElem?_cons_zero, List.getElem?_cons_succ, Nat.reduceMul, Option.isSome_some, layAt, Nat.reduceLT, Option.isNone_some, Option.isNone_none, beq_self_eq_true, Nat.reduceEqDiff, setParams, Int.reduceLT, Int.reduceLE, Int.reduceGT, Int.reduceGE, Int.reduceEq, Int.reduceNe, Option.map_some, Option.map_none, Option.isSome_none]
    rw [Y_bytesStrV (B := B) (O11.vw 0 rfl)]
    simp (disch := first | assumption | omega | (simp only [wkD, oneCell, Option.isSome_some, *]; done) | (simp only [wkE, ne_eq]; omega)) only [wk0, wk1, wk2, wk3, wk4, wk5, X_region, X_seq, X_block, X_loop, X_cond, Y_box, Y_un, Y_store, Y_append, Y_makeMap, Y_buildSlice, ibin_shl, ibin_shr, ibin_and, List.set_cons_zero, List.set_cons_succ, List.getD_cons_zero, List.getD_cons_succ, List.map_cons, List.map_nil, ↓reduceIte, reduceCtorEq, oneCell, List.length_cons, List.length_nil, setAt, readN, bne_iff_ne, ne_eq, Nat.reduceAdd, Nat.reduceLeDiff, List.getElem?_cons_zero, List.getElem?_cons_succ, Nat.reduceMul, Option.isSome_some, layAt, Nat.reduceLT, Option.isNone_some, Option.isNone_none, beq_self_eq_true, Nat.reduceEqDiff, setParams, Int.reduceLT, Int.reduceLE, Int.reduceGT, Int.reduceGE, Int.reduceEq, Int.reduceNe, Option.map_some, Option.map_none, Option.isSome_none]
    rw [Y_bytesStrV (B := B) (V2 _ h11 O11)]
    simp (disch := first | assumption | omega | (simp only [wkD, oneCell, Option.isSome_some, *]; done) | (simp only [wkE, ne_eq]; omega)) only [str_eq, wk0, wk1, wk2, wk3, wk4, wk5, X_region, X_seq, X_block, X_loop, X_cond, Y_box, Y_un, Y_store, Y_append, Y_makeMap, Y_buildSlice, ibin_shl, ibin_shr, ibin_and, List.set_cons_zero, List.set_cons_succ, List.getD_cons_zero, List.getD_cons_succ, List.map_cons, List.map_nil, ↓reduceIte, reduceCtorEq, oneCell, List.length_cons, List.length_nil, setAt, readN, bne_iff_ne, ne_eq, Nat.reduceAdd, Nat.reduceLeDiff, List.getElem?_cons_zero, List.getElem?_cons_succ, Nat.reduceMul, Option.isSome_some, layAt, Nat.reduceLT, Option.isNone_some, Option.isNone_none, beq_self_eq_true, Nat.reduceEqDiff, setParams, Int.reduceLT, Int.reduceLE, Int.reduceGT, Int.reduceGE, Int.reduceEq, Int.reduceNe, Option.map_some, Option.map_none, Option.isSome_none]
    exact leaf1 rfl
  · simp (disch := first | assumption | omega | (simp only [wkD, oneCell, Option.isSome_some, *]; done) | (simp only [wkE, ne_eq]; omega)) only [wk0, wk1, wk2, wk3, wk4, wk5, X_region, X_seq, X_block, X_loop, X_cond, Y_box, Y_un, Y_store, Y_append, Y_makeMap, Y_buildSlice, ibin_shl, ibin_shr, ibin_and, List.set_cons_zero, List.set_cons_succ, List.getD_cons_zero, List.getD_cons_succ, List.map_cons, List.map_nil, ↓reduceIte, reduceCtorEq, oneCell, List.length_cons, List.length_nil, setAt, readN, bne_iff_ne, ne_eq, Nat.reduceAdd, Nat.reduceLeDiff, List.getElem?_cons_zero, List.getElem?_cons_succ, Nat.reduceMul, Option.isSome_some, layAt, Nat.reduceLT, Option.isNone_some, Option.isNone_none, beq_self_eq_true, Nat.reduceEqDiff, setParams, Int.reduceLT, Int.reduceLE, Int.reduceGT, Int.reduceGE, Int.reduceEq, Int.reduceNe, Option.map_some, Option.map_none, Option.isSome_none]
    exact leaf1 rfl

theorem wireBack_all (ro : Nat → Option (List Value × Nat)) (vs : List Value) (ha : ArgsD Tryd.prog (pin tabs ro) 1 [.agg pKinds, .one (.slice 5)] vs) : (run env 5000 6 vs (fresh (pin tabs ro))).True := by
  match vs, ha with
  | [v0, v1], ha =>
    obtain ⟨⟨cs, rfl, h0⟩, h1, -⟩ := ha
    obtain ⟨q, l, pp, c, hq, hW, hc, hlc, hcm, hV⟩ := p_inv _ h0
    obtain ⟨p2, Z, c2, rfl, hZ, -, -, hV2⟩ := dslice h1 by_kinds by_size (by simp) bc (fun a => a < 256) by_inv
    have := wireBack_run (lay_tabs ro) hW hZ hc hV hV2
    unfold pv at this
    rw [← hq] at this
    exact run_true this.all
  | [], ha => exact ha.elim
  | [_], ha => exact ha.2.elim
  | _ :: _ :: _ :: _, ha => exact ha.2.2.elim
theorem wireBack_kinds : Tryd.f6.params.toList.mapM (pdOf Tryd.prog) = some [.agg pKinds, .one (.slice 5)] := by kernel_rfl
theorem wireBack_reads : Tryd.f6.params.toList.all (fun t => Tryd.prog.readableRec t && decide (t < Tryd.prog.types.size)) = true := by kernel_rfl
theorem wireBack_size : Tryd.f6.params.size = 2 := by kernel_rfl
theorem wireBack_lifted (os : Os) (started : os.Started) (H : Type) (enc : TypeId × Value → H) :
    ReturnsInHanded {} Tryd.checked os 6 .any (fun w args => (Rows.wireBackSpec.pre enc Tryd.prog Tryd.f6 [] false w args ∧ laidMetH Tryd.prog [("wagonway/wire.kinds", Rows.laid_wagonway_wire_kinds)] w) ∧ sizedMet enc Tryd.prog Tryd.f6 (OpenSpec.ofChange Rows.wireBackSpec) false w args) (Rows.wireBackSpec.post enc Tryd.prog Tryd.f6 false true false false) :=
  deep_door_lifted (C := Tryd.checked) (n := 5000) (pks := [.agg pKinds, .one (.slice 5)]) (tabs := tabs) 1 own started (by kernel_rfl) Tryd.func6
    (ChangeSpec.witness_shaped (enc := enc) (C := Tryd.checked) (os := os) (X := fun w _ => laidMetH Tryd.prog [("wagonway/wire.kinds", Rows.laid_wagonway_wire_kinds)] w) false (World.laidAll Tryd.prog os [("wagonway/wire.kinds", Rows.laid_wagonway_wire_kinds)]) #[.agg #[.int .i64 0, .int .i64 0, .int .u32 0, .int .u32 0, .int .u32 0, .int .u32 0, .int .i64 0, .int .i64 0, .int .u32 0, .int .u64 0, .int .i64 0, .int .i64 0, .int .i64 0, .int .i64 0, .slice none 0 0], .slice none 0 0] 8 (World.laidAll_os _ _ _)
      (World.shaped_of_ZipB (by kernel_rfl) (by kernel_rfl)) (by kernel_rfl) (by kernel_rfl) (by kernel_rfl)
      (by rw [MakeChecks.laidMetH_plain _ _ _ (by kernel_rfl)]; exact laidMet_laidAll _ (by kernel_rfl) (by kernel_rfl)))
    mixed env_ok laid_out wireBack_kinds wireBack_reads (by rfl) Tryd.underlying4 rfl
    (fun ds hds => by rw [wireBack_size] at hds; match ds, hds with | [_, _], _ => rfl) (by kernel_rfl) tabs_ro (by kernel_rfl) wireBack_all
theorem wireBack_row : Rows.WireBackSaid :=
  OpenClaim.holds_of_wide 6 Tryd.f6 rfl rfl rfl rfl rfl rfl rfl ⟨rfl, rfl, rfl, rfl, rfl⟩ rfl rfl rfl rfl rfl (by kernel_rfl) Tryd.func6 (by kernel_rfl)
    (of_decide_eq_true (by kernel_rfl)) (by unfold Func.isWrapper; rw [if_neg (of_decide_eq_false (by kernel_rfl))]; exact ⟨rfl, rfl⟩)
    (fun os started H enc _ => wireBack_lifted os started H enc)
theorem wireBack_holds : Rows.WireBackCardSaid :=
  Claim7.holds_tied_plain_at .later [] [.data] true (true, "6504691fb4248637c7f3bd12986ab8356ba0a8da1b68853a139464c41493caf0") false wireBack_row (fun _ h => by cases h) (by kernel_rfl) (fun _ h => by cases h) wireBack_row_tie rfl ⟨rfl, rfl⟩ (by kernel_rfl) rfl
    (fun f fn hf hfn => by
      obtain rfl : f = 6 := Option.some.inj ((show Tryd.prog.funcNamed _ = some 6 by kernel_rfl).symm.trans hf) |>.symm
      obtain rfl : fn = Tryd.f6 := (Option.some.inj (Tryd.func6.symm.trans hfn)).symm
      exact ⟨by kernel_rfl, fun j t ht => by
        have hall : Tryd.f6.params.toList.all (fun t => !Tryd.prog.wantsStandIn t) = true := by kernel_rfl
        have := List.all_eq_true.1 hall t (List.mem_of_getElem? (i := j) (by simpa using ht))
        have h2 : Tryd.prog.wantsStandIn t = false := by simpa using this
        exact h2⟩)
    (by kernel_rfl)

end Go.Proofs.YtpodmgbnldmlcaaDoor
