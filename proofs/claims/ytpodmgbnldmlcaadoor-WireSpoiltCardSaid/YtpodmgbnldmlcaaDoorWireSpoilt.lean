/-
  The law WireSpoilt holds, on its card: the call answers true whatever packet, place, byte and bytes behind it is handed, whatever the machine chooses, and nothing that was there before it is changed; the listed package variables start as the program's text lays them.
-/
import Derived.Test.YtpodmgbnldmlcaaDoorFk
import Derived.Test.YtpodmgbnldmlcaaDoorPur
import Derived.Test.YtpodmgbnldmlcaaDoorRows
import Derived.Test.YtpodmgbnldmlcaaDoorTie
import Derived.Test.YtpodmgbnldmlcaaDoorCards
namespace Go.Proofs.YtpodmgbnldmlcaaDoor
open Go Go.Ideal Go.ChangeShapes Go.RowKit
set_option maxHeartbeats 0
set_option linter.unusedSimpArgs false
set_option linter.unusedVariables false
set_option maxRecDepth 100000
attribute [local irreducible] callV T.All T.Is run
/-- The cells of wagonway/wire.kinds. -/
def tab0 : List Value := [.string ⟨([114, 101, 113, 117, 101, 115, 116] : List UInt8).toArray⟩, .int .i64 1, .int .i64 3, .int .i64 4, .int .i64 0, .int .i64 0, .string ⟨([103, 114, 97, 110, 116] : List UInt8).toArray⟩, .int .i64 1, .int .i64 2, .int .i64 3, .int .i64 0, .int .i64 0, .string ⟨([114, 101, 108, 101, 97, 115, 101] : List UInt8).toArray⟩, .int .i64 1, .int .i64 2, .int .i64 0, .int .i64 0, .int .i64 0, .string ⟨([97, 99, 107] : List UInt8).toArray⟩, .int .i64 0, .int .i64 0, .int .i64 0, .int .i64 0, .int .i64 0, .string ⟨([100, 101, 110, 121] : List UInt8).toArray⟩, .int .i64 1, .int .i64 3, .int .i64 7, .int .i64 0, .int .i64 0, .string ⟨([112, 114, 111, 98, 101] : List UInt8).toArray⟩, .int .i64 1, .int .i64 6, .int .i64 7, .int .i64 4, .int .i64 5, .string ⟨([97, 98, 111, 114, 116] : List UInt8).toArray⟩, .int .i64 6, .int .i64 7, .int .i64 0, .int .i64 0, .int .i64 0, .string ⟨([105, 110, 104, 101, 114, 105, 116] : List UInt8).toArray⟩, .int .i64 1, .int .i64 4, .int .i64 0, .int .i64 0, .int .i64 0, .string ⟨([104, 101, 108, 108, 111] : List UInt8).toArray⟩, .int .i64 0, .int .i64 0, .int .i64 0, .int .i64 0, .int .i64 0, .string ⟨([114, 101, 99, 97, 108, 108] : List UInt8).toArray⟩, .int .i64 1, .int .i64 2, .int .i64 0, .int .i64 0, .int .i64 0, .string ⟨([115, 116, 97, 116, 117, 115] : List UInt8).toArray⟩, .int .i64 8, .int .i64 0, .int .i64 0, .int .i64 0, .int .i64 0]
def tabs : List (Nat × (List Value × Nat)) := [(0, (tab0, 1))]
theorem tab0_flat : ∃ t, (Tryd.prog.globals[0]?).map (·.type) = some t ∧ flatD Tryd.prog 6 t (Rows.laid_wagonway_wire_kinds : DataW Unit) = some tab0 := ⟨_, rfl, by kernel_rfl⟩
theorem tab0_ro {W : World} (h : laidMet Tryd.prog [("wagonway/wire.kinds", Rows.laid_wagonway_wire_kinds)] W) : roW W 0 = some (tab0, 1) := by
  obtain ⟨t, h1, h2⟩ := tab0_flat
  exact (laid_ro h (n := "wagonway/wire.kinds") (by simp) (by kernel_rfl) h1 h2 (by kernel_rfl)).trans (by kernel_rfl)
theorem tabs_ro (W : World) (h : laidMet Tryd.prog [("wagonway/wire.kinds", Rows.laid_wagonway_wire_kinds)] W) : ∀ p ∈ tabs, roW W p.1 = some p.2 := by
  intro p hp
  simp only [tabs, List.mem_cons, List.not_mem_nil, or_false] at hp
  rcases hp with rfl
  · exact tab0_ro h
theorem own : ownKnob Tryd.prog.godebug = none := by kernel_rfl
theorem mixed : Tryd.prog.follows .mixedOrders = true := by kernel_rfl
theorem laid_out : laidOutB Tryd.prog = true := by kernel_rfl

theorem lay_tabs (ro : Nat → Option (List Value × Nat)) : Lay (pin tabs ro) := by
  intro kd h0 h1
  have hg : (fresh (pin tabs ro)).get 1 = some (.cells tab0 1 true) := by unfold Heap.get; rfl
  rw [hg, readC_cells]
  have : kd = 1 ∨ kd = 2 ∨ kd = 3 ∨ kd = 4 ∨ kd = 5 ∨ kd = 6 ∨ kd = 7 ∨ kd = 8 ∨ kd = 9 ∨ kd = 10 ∨ kd = 11 := by omega
  rcases this with rfl | rfl | rfl | rfl | rfl | rfl | rfl | rfl | rfl | rfl | rfl <;> rfl
theorem rdB {h : Heap} {v : Value} {A : List Nat} (V : Vw 1 bc h v A) {i x : Nat} (hi : A[i]? = some x) : ∃ (b off : Nat) (sp : Option Nat) (c : Nat), v = .slice (some ⟨b, off, sp⟩) A.length c ∧ readC (h.get b) (off + i * 1) 1 = some [.int .u8 (x : Int)] := by
  obtain ⟨b, off, sp, c, hv, -, k⟩ := V.rd bc_len hi
  exact ⟨b, off, sp, c, hv, k⟩
theorem comp_by {A : List Nat} (h : ∀ b ∈ A, b < 256) : ∀ b ∈ comp A, b < 256 := by
  intro b hb
  obtain ⟨x, hx, hx2⟩ := List.mem_flatMap.1 hb
  have := h x hx
  simp only [List.mem_cons, List.not_mem_nil, or_false] at hx2
  omega
theorem allB_len (p : Pkt) (l : List Cl) : (allB p l).length = 18 + (plainB p.m l).length := by
  unfold allB
  simp only [List.length_append, List.length_cons, List.length_nil, be_flat4]
theorem flat_u8 {P : Program} {d : Nat} {ro : Nat → Option (List Value × Nat)} {v : Value} (h : DFit P ro d (.flat (.int .u8)) v) : ∃ x : Nat, v = .int .u8 (x : Int) ∧ x < 256 := by
  have h' : ∃ x : Int, v = .int .u8 x ∧ 0 ≤ x ∧ x ≤ 255 := by cases d <;> exact h
  obtain ⟨x, rfl, h1, h2⟩ := h'
  exact ⟨x.toNat, by rw [Int.toNat_of_nonneg h1], by omega⟩
theorem by_kinds : dkOf Tryd.prog 8 5 = some [.flat (.int .u8)] := by kernel_rfl
theorem by_size : Tryd.prog.cellsOf 5 = 1 := by kernel_rfl
theorem by_inv {ro : Nat → Option (List Value × Nat)} (vs : List Value) (h : Fits2 (DFit Tryd.prog ro 0) [.flat (.int .u8)] vs) : ∃ a : Nat, vs = bc a ∧ a < 256 := by
  obtain ⟨v, w, rfl, h1, h2⟩ := f2_cons h
  have := f2_nil h2
  subst this
  obtain ⟨x, rfl, hx⟩ := flat_u8 h1
  exact ⟨x, rfl, hx⟩

theorem set_flat : ∀ (l : List Nat) (rest : List Value) (n c : Nat), n < l.length → setAt (l.flatMap bc ++ rest) n [.int .u8 (c : Int)] = (l.set n c).flatMap bc ++ rest
  | [], _, _, _, h => by simp at h
  | x :: l, rest, 0, c, _ => by simp [setAt, bc]
  | x :: l, rest, n + 1, c, h => by
    have ih := set_flat l rest n c (by simpa using h)
    rw [List.set_cons_succ, List.flatMap_cons, List.flatMap_cons]
    simp only [setAt, List.append_assoc] at ih ⊢
    simpa [bc] using ih
theorem vw_take {h : Heap} {p : Option Addr} {c n : Nat} {l : List Nat} (V : Vw 1 bc h (.slice p l.length c) l) (hn : n ≤ l.length) : Vw 1 bc h (.slice p (l.take n).length c) (l.take n) := by
  obtain ⟨p', c', e, hc, k⟩ := V
  cases e
  refine ⟨p, c, rfl, by rw [List.length_take]; omega, fun h0 => ?_⟩
  rw [List.length_take] at h0
  obtain ⟨b, off, sp, A, B, zz, t, k1, k2, k3, k4, k5⟩ := k (by omega)
  refine ⟨b, off, sp, A, (l.drop n).flatMap bc ++ B, zz, t, k1, k2, k3, ?_, k5⟩
  rw [k4, ← List.append_assoc ((l.take n).flatMap bc), ← List.flatMap_append, List.take_append_drop]
theorem spoilt1 {p : Pkt} {l : List Cl} {n c : Nat} (o : OkP p l) (w : WfP p l) (hn : n < (comp (allB p l)).length) (hc : c < 256) : RdOk ((comp (allB p l)).set n c) ↔ c = (comp (allB p l))[n] := by
  have hA := comp_by (allB_lt p l)
  constructor
  · intro h
    have hb : ∀ b ∈ (comp (allB p l)).set n c, b < 256 := fun b hb => by
      rcases List.mem_or_eq_of_mem_set hb with hb | rfl
      · exact hA b hb
      · exact hc
    have h1 := (read_back hb h).1
    have h2 : un ((comp (allB p l)).set n c) = some (allB (readS ((comp (allB p l)).set n c)).1 (readS ((comp (allB p l)).set n c)).2.1) := by
      have h3 := un_comp (allB_lt (readS ((comp (allB p l)).set n c)).1 (readS ((comp (allB p l)).set n c)).2.1) []
      rw [List.append_nil] at h3
      rw [← h1] at h3
      exact h3.trans (by show some (_ ++ []) = _; rw [List.append_nil])
    have h4 : un (comp (allB p l)) = some (allB p l) := by
      have h3 := un_comp (allB_lt p l) []
      rw [List.append_nil] at h3
      exact h3.trans (by show some (_ ++ []) = _; rw [List.append_nil])
    exact un_set hA hc hn h4 h2
  · rintro rfl
    rw [List.set_getElem_self]
    exact (read_ok o w).1
theorem spoilt2 {p : Pkt} {l : List Cl} {n : Nat} (o : OkP p l) (w : WfP p l) (hn : n < (comp (allB p l)).length) : ¬ RdOk ((comp (allB p l)).take n) := by
  intro h
  have hA := comp_by (allB_lt p l)
  have hb : ∀ b ∈ (comp (allB p l)).take n, b < 256 := fun b hb => hA b (List.mem_of_mem_take hb)
  obtain ⟨h1, h2⟩ := read_back hb h
  have h3 : RdOk (comp (allB (readS ((comp (allB p l)).take n)).1 (readS ((comp (allB p l)).take n)).2.1) ++ (comp (allB p l)).drop n) := by
    rw [← h1, List.take_append_drop]
    exact (read_ok o w).1
  have h4 := read_more h.2 h2 (fun b hb => hA b (List.mem_of_mem_drop hb)) h3
  have := congrArg List.length h4
  rw [List.length_drop, List.length_nil] at this
  omega
theorem spoilt3 {p : Pkt} {l : List Cl} {Z : List Nat} (o : OkP p l) (w : WfP p l) (hZ : ∀ b ∈ Z, b < 256) : RdOk (comp (allB p l) ++ Z) ↔ Z = [] := by
  constructor
  · exact read_more o w hZ
  · rintro rfl
    rw [List.append_nil]
    exact (read_ok o w).1
theorem env7 : env 7 = some ir7 := rfl
theorem wireSpoilt_run {ro : Nat → Option (List Value × Nat)} {p : Pkt} {l : List Cl} {Z : List Nat} {pt : Int} {x c c2 : Nat} {pp p2 : Option Addr} (hL : Lay ro) (hW : WfP p l) (ha0 : -9223372036854775808 ≤ pt) (ha1 : pt ≤ 9223372036854775807) (hx : x < 256) (hZ : ∀ b ∈ Z, b < 256) (hc : p.m.cl = .slice pp l.length c)
    (V : ∀ (L : List Rs) (h : Heap), Has ro h L → Vw 2 cc h p.m.cl l) (V2 : ∀ (L : List Rs) (h : Heap), Has ro h L → Vw 1 bc h (.slice p2 Z.length c2) Z) :
    (callV env 5000 (.func (.func 7) #[] #[]) [pv p, .int .i64 pt, .int .u8 (x : Int), .slice p2 Z.length c2] (fresh ro)).Is fun q => q.1 = .bool true := by
  refine call_is (n := 4999) env7 ?_
  have O : Has ro (fresh ro) [] := Has.start ro
  simp (disch := first | assumption | omega | (simp only [wkD, oneCell, Option.isSome_some, *]; done) | (simp only [wkE, ne_eq]; omega)) only [ir7, List.append_nil, List.nil_append, List.cons_append, List.length_cons, List.length_nil, Nat.reduceAdd, Nat.reduceSub, List.replicate_succ, List.replicate_zero, pv, wk0, wk1, wk2, wk3, wk4, wk5, X_region, X_seq, X_block, X_loop, X_cond, Y_un, Y_store, Y_append, Y_makeMap, Y_buildSlice, ibin_shl, ibin_shr, ibin_and, List.set_cons_zero, List.set_cons_succ, List.getD_cons_zero, List.getD_cons_succ, List.map_cons, List.map_nil, ↓reduceIte, reduceCtorEq, oneCell, List.length_cons, List.length_nil, setAt, readN, bne_iff_ne, ne_eq, Nat.reduceAdd, Nat.reduceLeDiff, List.getElem?_cons_zero, List.getElem?_cons_succ, Nat.reduceMul, Option.isSome_some, layAt, Nat.reduceLT, Option.isNone_some, Option.isNone_none, beq_self_eq_true, Nat.reduceEqDiff, setParams, Int.reduceLT, Int.reduceLE, Int.reduceGT, Int.reduceGE, Int.reduceEq, Int.reduceNe, Option.map_some, Option.map_none, Option.isSome_none]
  refine Y_boxO O ?_
  intro pb h1 O1 e1
  replace O1 : Has ro h1 [Ob pb (.cells (pc p) 1 false)] := O1
  simp (disch := first | assumption | omega | (simp only [wkD, oneCell, Option.isSome_some, *]; done) | (simp only [wkE, ne_eq]; omega)) only [wk0, wk1, wk2, wk3, wk4, wk5, X_region, X_seq, X_block, X_loop, X_cond, Y_box, Y_un, Y_store, Y_append, Y_makeMap, Y_buildSlice, ibin_shl, ibin_shr, ibin_and, List.set_cons_zero, List.set_cons_succ, List.getD_cons_zero, List.getD_cons_succ, List.map_cons, List.map_nil, ↓reduceIte, reduceCtorEq, oneCell, List.length_cons, List.length_nil, setAt, readN, bne_iff_ne, ne_eq, Nat.reduceAdd, Nat.reduceLeDiff, List.getElem?_cons_zero, List.getElem?_cons_succ, Nat.reduceMul, Option.isSome_some, layAt, Nat.reduceLT, Option.isNone_some, Option.isNone_none, beq_self_eq_true, Nat.reduceEqDiff, setParams, Int.reduceLT, Int.reduceLE, Int.reduceGT, Int.reduceGE, Int.reduceEq, Int.reduceNe, Option.map_some, Option.map_none, Option.isSome_none]
  refine Z_is (alive_h (n := 4990) hL (by omega) O1) ?_
  rintro v2 h2 ⟨rfl, O2⟩
  clear O O1 e1
  have q14 : readC (h2.get pb) 14 1 = some [p.m.cl] := by rw [O2.get 0 rfl]; rfl
  rw [hc] at q14
  by_cases hlen : 100 < l.length
  · have hl' : (l.length : Int) > 100 := by omega
    simp (disch := first | assumption | omega | (simp only [wkD, oneCell, Option.isSome_some, *]; done) | (simp only [wkE, ne_eq]; omega)) only [q14, hl', wk0, wk1, wk2, wk3, wk4, wk5, X_region, X_seq, X_block, X_loop, X_cond, Y_box, Y_un, Y_store, Y_append, Y_makeMap, Y_buildSlice, ibin_shl, ibin_shr, ibin_and, List.set_cons_zero, List.set_cons_succ, List.getD_cons_zero, List.getD_cons_succ, List.map_cons, List.map_nil, ↓reduceIte, reduceCtorEq, oneCell, List.length_cons, List.length_nil, setAt, readN, bne_iff_ne, ne_eq, Nat.reduceAdd, Nat.reduceLeDiff, List.getElem?_cons_zero, List.getElem?_cons_succ, Nat.reduceMul, Option.isSome_some, layAt, Nat.reduceLT, Option.isNone_some, Option.isNone_none, beq_self_eq_true, Nat.reduceEqDiff, setParams, Int.reduceLT, Int.reduceLE, Int.reduceGT, Int.reduceGE, Int.reduceEq, Int.reduceNe, Option.map_some, Option.map_none, Option.isSome_none]
    exact leaf1 rfl
  have hl' : ¬ (l.length : Int) > 100 := by omega
  by_cases hlz : 100 < Z.length
  · have hz' : (Z.length : Int) > 100 := by omega
    simp (disch := first | assumption | omega | (simp only [wkD, oneCell, Option.isSome_some, *]; done) | (simp only [wkE, ne_eq]; omega)) only [q14, hl', hz', wk0, wk1, wk2, wk3, wk4, wk5, X_region, X_seq, X_block, X_loop, X_cond, Y_box, Y_un, Y_store, Y_append, Y_makeMap, Y_buildSlice, ibin_shl, ibin_shr, ibin_and, List.set_cons_zero, List.set_cons_succ, List.getD_cons_zero, List.getD_cons_succ, List.map_cons, List.map_nil, ↓reduceIte, reduceCtorEq, oneCell, List.length_cons, List.length_nil, setAt, readN, bne_iff_ne, ne_eq, Nat.reduceAdd, Nat.reduceLeDiff, List.getElem?_cons_zero, List.getElem?_cons_succ, Nat.reduceMul, Option.isSome_some, layAt, Nat.reduceLT, Option.isNone_some, Option.isNone_none, beq_self_eq_true, Nat.reduceEqDiff, setParams, Int.reduceLT, Int.reduceLE, Int.reduceGT, Int.reduceGE, Int.reduceEq, Int.reduceNe, Option.map_some, Option.map_none, Option.isSome_none]
    exact leaf1 rfl
  have hz' : ¬ (Z.length : Int) > 100 := by omega
  obtain ⟨r0, r1, r2, r3, r4, r5, r6, r7⟩ := rdp (O2.get 0 rfl)
  simp (disch := first | assumption | omega | (simp only [wkD, oneCell, Option.isSome_some, *]; done) | (simp only [wkE, ne_eq]; omega)) only [q14, hl', hz', r7, agg_pv, wk0, wk1, wk2, wk3, wk4, wk5, X_region, X_seq, X_block, X_loop, X_cond, Y_box, Y_un, Y_store, Y_append, Y_makeMap, Y_buildSlice, ibin_shl, ibin_shr, ibin_and, List.set_cons_zero, List.set_cons_succ, List.getD_cons_zero, List.getD_cons_succ, List.map_cons, List.map_nil, ↓reduceIte, reduceCtorEq, oneCell, List.length_cons, List.length_nil, setAt, readN, bne_iff_ne, ne_eq, Nat.reduceAdd, Nat.reduceLeDiff, List.getElem?_cons_zero, List.getElem?_cons_succ, Nat.reduceMul, Option.isSome_some, layAt, Nat.reduceLT, Option.isNone_some, Option.isNone_none, beq_self_eq_true, Nat.reduceEqDiff, setParams, Int.reduceLT, Int.reduceLE, Int.reduceGT, Int.reduceGE, Int.reduceEq, Int.reduceNe, Option.map_some, Option.map_none, Option.isSome_none]
  refine Z_is (bytes_h (n := 4991) hL (by omega) (by omega) hW (fun h O => V _ h O) O2) ?_
  rintro v3 h3 ⟨v, rfl, O3⟩
  replace O3 : Has ro h3 [Sc 1 bc v (bytesP p l), Ob pb (.cells (pc p) 1 false)] := O3
  clear O2 q14 r0 r1 r2 r3 r4 r5 r6 r7
  by_cases hok : OkP p l
  case neg =>
    rw [code_f hok]
    simp (disch := first | assumption | omega | (simp only [wkD, oneCell, Option.isSome_some, *]; done) | (simp only [wkE, ne_eq]; omega)) only [wk0, wk1, wk2, wk3, wk4, wk5, X_region, X_seq, X_block, X_loop, X_cond, Y_box, Y_un, Y_store, Y_append, Y_makeMap, Y_buildSlice, ibin_shl, ibin_shr, ibin_and, List.set_cons_zero, List.set_cons_succ, List.getD_cons_zero, List.getD_cons_succ, List.map_cons, List.map_nil, ↓reduceIte, reduceCtorEq, oneCell, List.length_cons, List.length_nil, setAt, readN, bne_iff_ne, ne_eq, Nat.reduceAdd, Nat.reduceLeDiff, List.getElem?_cons_zero, List.getElem?_cons_succ, Nat.reduceMul, Option.isSome_some, layAt, Nat.reduceLT, Option.isNone_some, Option.isNone_none, beq_self_eq_true, Nat.reduceEqDiff, setParams, Int.reduceLT, Int.reduceLE, Int.reduceGT, Int.reduceGE, Int.reduceEq, Int.reduceNe, Option.map_some, Option.map_none, Option.isSome_none]
    exact leaf1 rfl
  rw [code_t hok]
  rw [bytesP_t hok] at O3
  have hN := nums_of hW.2.2.2.2 hok.2.2.2
  have hp2 := plainB_len (m := p.m) hN.2.2.2.2.1
  have hcl : (comp (allB p l)).length = 2 * (18 + (plainB p.m l).length) := by rw [comp_len, allB_len]
  have hCb := comp_by (allB_lt p l)
  have S1 := fun n => spoilt1 (n := n) (c := x) hok hW
  have S2 := fun n => spoilt2 (n := n) hok hW
  have S3 := spoilt3 hok hW hZ
  generalize comp (allB p l) = C at O3 hcl hCb S1 S2 S3
  obtain ⟨N, hNN⟩ : ∃ N, N = C.length := ⟨_, rfl⟩
  obtain ⟨q3, c3, hv3, -⟩ := O3.scVal 0 rfl
  have hN0 : (N : Int) ≠ 0 := by omega
  have hN1 : ¬ (N : Int) = 0 := by omega
  have hr1 := Int.tmod_lt_of_pos pt (show (0 : Int) < (N : Int) by omega)
  have hr2 : -(N : Int) < pt.tmod N := by
    rcases Int.le_total 0 pt with h | h
    · have := Int.tmod_nonneg (N : Int) h
      omega
    · have := Int.tmod_lt_of_pos (-pt) (show (0 : Int) < (N : Int) by omega)
      rw [Int.neg_tmod] at this
      omega
  generalize hr : pt.tmod (N : Int) = r at hr1 hr2
  have yw : IntKind.i64.wrap (r + (N : Int)) = r + (N : Int) := wrap_i64 (by omega) (by omega)
  have hm1 := Int.tmod_lt_of_pos (r + (N : Int)) (show (0 : Int) < (N : Int) by omega)
  have hm2 := Int.tmod_nonneg (N : Int) (show 0 ≤ r + (N : Int) by omega)
  obtain ⟨n, hn⟩ : ∃ n : Nat, (r + (N : Int)).tmod (N : Int) = (n : Int) := ⟨((r + (N : Int)).tmod (N : Int)).toNat, by omega⟩
  rw [hn] at hm1 hm2
  have hnN : n < C.length := by omega
  rw [← hNN] at hv3
  simp (disch := first | assumption | omega | (simp only [wkD, oneCell, Option.isSome_some, *]; done) | (simp only [wkE, ne_eq]; omega)) only [hv3, hN1, hN0, hr, yw, hn, wk0, wk1, wk2, wk3, wk4, wk5, X_region, X_seq, X_block, X_loop, X_cond, Y_box, Y_un, Y_store, Y_append, Y_makeMap, ibin_shl, ibin_shr, ibin_and, List.set_cons_zero, List.set_cons_succ, List.getD_cons_zero, List.getD_cons_succ, List.map_cons, List.map_nil, ↓reduceIte, reduceCtorEq, oneCell, List.length_cons, List.length_nil, setAt, readN, bne_iff_ne, ne_eq, Nat.reduceAdd, Nat.reduceLeDiff, List.getElem?_cons_zero, List.getElem?_cons_succ, Nat.reduceMul, Option.isSome_some, layAt, Nat.reduceLT, Option.isNone_some, Option.isNone_none, beq_self_eq_true, Nat.reduceEqDiff, setParams, Int.reduceLT, Int.reduceLE, Int.reduceGT, Int.reduceGE, Int.reduceEq, Int.reduceNe, Option.map_some, Option.map_none, Option.isSome_none]
  refine Y_buildSliceO O3 (cs := []) rfl ?_
  intro b4 h4 O4 e4
  replace O4 : Has ro h4 [Sc 1 bc (.slice (some ⟨b4, 0, none⟩) 0 0) [], Sc 1 bc v C, Ob pb (.cells (pc p) 1 false)] := Has.scClose (b := b4) (c := 0) (rest := []) (sp := none) (t := false) (zz := 1) rfl (Nat.le_refl _) rfl (Or.inr rfl) O4
  obtain ⟨w5, h5, ap, O5⟩ := sc_appendV (bytes := 1) (by omega) bc_len bc_one O4 (O4.vw 1 rfl) (by simp only [List.length_nil]; unfold roomMost; omega) (by omega)
  rw [hv3] at ap
  rw [List.nil_append] at O5
  clear O4 e4
  rcases O5.scOpen with ⟨hnil, -, -⟩ | ⟨b6, c6, rest, sp, zz, tt, hw5, hc6, hrest, hsp, O6⟩
  · rw [hnil] at hnN; exact absurd hnN (by simp)
  rw [← hNN] at hw5
  have hn0 : (0 : Int) ≤ (n : Int) := by omega
  have hnl : (n : Int) < (N : Int) := by omega
  simp (disch := first | assumption | omega | (simp only [wkD, oneCell, Option.isSome_some, *]; done) | (simp only [wkE, ne_eq]; omega)) only [ap, hw5, hn0, hnl, Int.toNat_natCast, wk0, wk1, wk2, wk3, wk4, wk5, X_region, X_seq, X_block, X_loop, X_cond, Y_box, Y_un, Y_append, Y_makeMap, Y_buildSlice, ibin_shl, ibin_shr, ibin_and, List.set_cons_zero, List.set_cons_succ, List.getD_cons_zero, List.getD_cons_succ, List.map_cons, List.map_nil, ↓reduceIte, reduceCtorEq, oneCell, List.length_cons, List.length_nil, setAt, readN, bne_iff_ne, ne_eq, Nat.reduceAdd, Nat.reduceLeDiff, List.getElem?_cons_zero, List.getElem?_cons_succ, Nat.reduceMul, Option.isSome_some, layAt, Nat.reduceLT, Option.isNone_some, Option.isNone_none, beq_self_eq_true, Nat.reduceEqDiff, setParams, Int.reduceLT, Int.reduceLE, Int.reduceGT, Int.reduceGE, Int.reduceEq, Int.reduceNe, Option.map_some, Option.map_none, Option.isSome_none]
  have hfl := flatMap_len bc_len C
  refine Y_storeO O6 0 rfl rfl rfl (by rw [List.length_append, hfl]; omega) rfl ?_
  intro h7 O7
  simp only [List.set_cons_zero] at O7
  have es : setAt (C.flatMap bc ++ rest) (n * 1) (cellsOf (.int .u8 (x : Int))) = (C.set n x).flatMap bc ++ rest := by
    rw [Nat.mul_one]
    exact set_flat C rest n x hnN
  have hsl : (C.set n x).length = C.length := List.length_set
  replace O7 : Has ro h7 [Ob b6 (.cells ((C.set n x).flatMap bc ++ rest) zz tt), Sc 1 bc v C, Ob pb (.cells (pc p) 1 false)] := by
    rw [← es]
    exact O7
  replace O7 : Has ro h7 [Sc 1 bc (.slice (some ⟨b6, 0, sp⟩) N c6) (C.set n x), Sc 1 bc v C, Ob pb (.cells (pc p) 1 false)] := Has.scClose (by rw [hsl, hNN]) (by rw [hsl]; exact hc6) (by rw [hsl]; exact hrest) hsp O7
  clear O6 O5 ap es hfl
  have rd : ∀ {h : Heap} {L : List Rs} {B : List Nat} {q : Option Addr} {cq : Nat}, B.length ≤ 1500 → (∀ b ∈ B, b < 256) → (∀ h, Has ro h L → Vw 1 bc h (.slice q B.length cq) B) → Has ro h L → (callV env 4999 (.func (.func 17) #[] #[]) [.slice q B.length cq] h).Is fun z => ∃ P e, z.1 = .tuple #[pv P, .int .i64 e] ∧ (∃ pp n c, P.m.cl = .slice pp n c) ∧ (RdOk B ∧ e = 0 ∨ ¬ RdOk B ∧ e = 70) ∧ Has ro z.2 L := by
    intro h L B q cq h1 h2 h3 h4
    refine T.Is.mono ?_ (read_h (n := 4990) hL (by omega) h1 h2 h3 h4)
    rintro ⟨z, h'⟩ (⟨k1, cv, rfl, k3⟩ | ⟨k1, rfl, k3⟩)
    · obtain ⟨z1, z2, z3, -⟩ := k3.scVal 0 rfl
      exact ⟨_, 0, rfl, ⟨z1, _, z2, z3⟩, Or.inl ⟨k1, rfl⟩, k3.drop⟩
    · exact ⟨pz, 70, rfl, ⟨none, 0, 0, rfl⟩, Or.inr ⟨k1, rfl⟩, k3⟩
  have hone : ∀ {P : Pkt}, (∃ pp n c, P.m.cl = .slice pp n c) → (pc P).all oneCell = true := by
    rintro P ⟨z1, z2, z3, hz⟩
    have : oneCell P.m.cl = true := by rw [hz]; rfl
    simp only [pc, mc, List.all_cons, this, List.all_nil, Bool.and_true]
    rfl
  have hset : ∀ P : Pkt, setAt (pc pz) 0 (pc P) = pc P := fun P => by simp [setAt, pc, mc]
  have hpz : [Value.int .i64 0, .int .i64 0, .int .u32 0, .int .u32 0, .int .u32 0, .int .u32 0, .int .i64 0, .int .i64 0, .int .u32 0, .int .u64 0, .int .i64 0, .int .i64 0, .int .i64 0, .int .i64 0, .slice none 0 0] = pc pz := rfl
  simp (disch := first | assumption | omega | (simp only [wkD, oneCell, Option.isSome_some, *]; done) | (simp only [wkE, ne_eq]; omega)) only [wk0, wk1, wk2, wk3, wk4, wk5, X_region, X_seq, X_block, X_loop, X_cond, Y_box, Y_un, Y_store, Y_append, Y_makeMap, Y_buildSlice, ibin_shl, ibin_shr, ibin_and, List.set_cons_zero, List.set_cons_succ, List.getD_cons_zero, List.getD_cons_succ, List.map_cons, List.map_nil, ↓reduceIte, reduceCtorEq, oneCell, List.length_cons, List.length_nil, setAt, readN, bne_iff_ne, ne_eq, Nat.reduceAdd, Nat.reduceLeDiff, List.getElem?_cons_zero, List.getElem?_cons_succ, Nat.reduceMul, Option.isSome_some, layAt, Nat.reduceLT, Option.isNone_some, Option.isNone_none, beq_self_eq_true, Nat.reduceEqDiff, setParams, Int.reduceLT, Int.reduceLE, Int.reduceGT, Int.reduceGE, Int.reduceEq, Int.reduceNe, Option.map_some, Option.map_none, Option.isSome_none]
  have rs : N = (C.set n x).length := by rw [hsl, hNN]
  have V7 : ∀ h, Has ro h [Sc 1 bc (.slice (some ⟨b6, 0, sp⟩) N c6) (C.set n x), Sc 1 bc v C, Ob pb (.cells (pc p) 1 false)] → Vw 1 bc h (.slice (some ⟨b6, 0, sp⟩) (C.set n x).length c6) (C.set n x) := fun h O => by rw [← rs]; exact O.vw 0 rfl
  have R7 := rd (h := h7) (cq := c6) (q := some ⟨b6, 0, sp⟩) (B := C.set n x) (by rw [hsl]; omega) (fun b hb => by
    rcases List.mem_or_eq_of_mem_set hb with hb | rfl
    · exact hCb b hb
    · exact hx) V7 O7
  rw [← rs] at R7
  refine Z_is R7 ?_
  rintro w8 h8 ⟨P8, e8, rfl, cl8, re8, O8⟩
  replace O8 : Has ro h8 [Sc 1 bc v C, Ob pb (.cells (pc p) 1 false)] := Has.drop O8
  clear O7 R7 V7
  simp (disch := first | assumption | omega | (simp only [wkD, oneCell, Option.isSome_some, *]; done) | (simp only [wkE, ne_eq]; omega)) only [wk0, wk1, wk2, wk3, wk4, wk5, X_region, X_seq, X_block, X_loop, X_cond, Y_un, Y_store, Y_append, Y_makeMap, Y_buildSlice, ibin_shl, ibin_shr, ibin_and, List.set_cons_zero, List.set_cons_succ, List.getD_cons_zero, List.getD_cons_succ, List.map_cons, List.map_nil, ↓reduceIte, reduceCtorEq, oneCell, List.length_cons, List.length_nil, setAt, readN, bne_iff_ne, ne_eq, Nat.reduceAdd, Nat.reduceLeDiff, List.getElem?_cons_zero, List.getElem?_cons_succ, Nat.reduceMul, Option.isSome_some, layAt, Nat.reduceLT, Option.isNone_some, Option.isNone_none, beq_self_eq_true, Nat.reduceEqDiff, setParams, Int.reduceLT, Int.reduceLE, Int.reduceGT, Int.reduceGE, Int.reduceEq, Int.reduceNe, Option.map_some, Option.map_none, Option.isSome_none]
  refine Y_boxO O8 ?_
  intro b9 h9 O9 e9
  replace O9 : Has ro h9 [Ob b9 (.cells (pc pz) 1 false), Sc 1 bc v C, Ob pb (.cells (pc p) 1 false)] := O9
  have g9 := O9.get 0 rfl
  have p9 := O9.can 0 rfl
  have O10 := (O9.set 0 rfl (.cells (pc P8) 1 false)).drop
  have ho8 := hone cl8
  have hs8 := hset P8
  obtain ⟨b, off, sp3, cc3, hv3b, hvsp⟩ : ∃ (b off : Nat) (sp3 : Option Nat) (cc3 : Nat), v = .slice (some ⟨b, off, sp3⟩) N cc3 ∧ spotOk 1 ⟨b, off, sp3⟩ = true := by
    obtain ⟨p', c', e, hc', k⟩ := O8.vw 0 rfl
    obtain ⟨b', o', s', A', B', z', t', k1, k2, k3, k4, k5⟩ := k (by omega)
    subst k1
    refine ⟨b', o', s', c', by rw [hNN]; exact e, ?_⟩
    rcases k2 with rfl | rfl
    · exact spotOk_none
    · exact spotOk_some
  have hcc3 : N ≤ cc3 := by
    obtain ⟨p', c', e, hc', k⟩ := O8.vw 0 rfl
    rw [hv3b] at e
    cases e
    omega
  rw [hv3b] at hv3
  cases hv3
  have s1 : vSlice 1 (.slice (some ⟨b, off, sp3⟩) N c3) none (some (.int .i64 (n : Int))) none false = some (.slice (some ⟨b, off, sp3⟩) n c3) := vSlice_h (by omega) hvsp
  simp (disch := first | assumption | omega | (simp only [wkD, oneCell, Option.isSome_some, *]; done) | (simp only [wkE, ne_eq]; omega)) only [pv, g9, p9, hs8, ho8, pc_len, cellsOf_agg, hv3b, s1, wk0, wk1, wk2, wk3, wk4, wk5, X_region, X_seq, X_block, X_loop, X_cond, Y_box, Y_un, Y_store, Y_append, Y_makeMap, Y_buildSlice, ibin_shl, ibin_shr, ibin_and, List.set_cons_zero, List.set_cons_succ, List.getD_cons_zero, List.getD_cons_succ, List.map_cons, List.map_nil, ↓reduceIte, reduceCtorEq, List.length_cons, List.length_nil, readN, bne_iff_ne, ne_eq, Nat.reduceAdd, Nat.reduceLeDiff, List.getElem?_cons_zero, List.getElem?_cons_succ, Nat.reduceMul, Option.isSome_some, layAt, Nat.reduceLT, Option.isNone_some, Option.isNone_none, beq_self_eq_true, Nat.reduceEqDiff, setParams, Int.reduceLT, Int.reduceLE, Int.reduceGT, Int.reduceGE, Int.reduceEq, Int.reduceNe, Option.map_some, Option.map_none, Option.isSome_none]
  generalize h9.setB b9 (.cells (pc P8) 1 false) = h10 at O10 ⊢
  clear O8 O9 g9 p9 hs8 ho8 e9
  have tl : n = (C.take n).length := by rw [List.length_take]; omega
  have V10 : ∀ h, Has ro h [Sc 1 bc v C, Ob pb (.cells (pc p) 1 false)] → Vw 1 bc h (.slice (some ⟨b, off, sp3⟩) (C.take n).length c3) (C.take n) := fun h O => by
    have := O.vw 0 rfl
    rw [hv3b, hNN] at this
    exact vw_take this (by omega)
  have R10 := rd (h := h10) (cq := c3) (q := some ⟨b, off, sp3⟩) (B := C.take n) (by omega) (fun b hb => hCb b (List.mem_of_mem_take hb)) V10 O10
  rw [← tl] at R10
  refine Z_is R10 ?_
  rintro w11 h11 ⟨P11, e11, rfl, cl11, re11, O11⟩
  replace O11 : Has ro h11 [Sc 1 bc v C, Ob pb (.cells (pc p) 1 false)] := O11
  clear O10 R10 V10
  simp (disch := first | assumption | omega | (simp only [wkD, oneCell, Option.isSome_some, *]; done) | (simp only [wkE, ne_eq]; omega)) only [wk0, wk1, wk2, wk3, wk4, wk5, X_region, X_seq, X_block, X_loop, X_cond, Y_un, Y_store, Y_append, Y_makeMap, Y_buildSlice, ibin_shl, ibin_shr, ibin_and, List.set_cons_zero, List.set_cons_succ, List.getD_cons_zero, List.getD_cons_succ, List.map_cons, List.map_nil, ↓reduceIte, reduceCtorEq, oneCell, List.length_cons, List.length_nil, setAt, readN, bne_iff_ne, ne_eq, Nat.reduceAdd, Nat.reduceLeDiff, List.getElem?_cons_zero, List.getElem?_cons_succ, Nat.reduceMul, Option.isSome_some, layAt, Nat.reduceLT, Option.isNone_some, Option.isNone_none, beq_self_eq_true, Nat.reduceEqDiff, setParams, Int.reduceLT, Int.reduceLE, Int.reduceGT, Int.reduceGE, Int.reduceEq, Int.reduceNe, Option.map_some, Option.map_none, Option.isSome_none]
  refine Y_boxO O11 ?_
  intro b12 h12 O12 e12
  replace O12 : Has ro h12 [Ob b12 (.cells (pc pz) 1 false), Sc 1 bc v C, Ob pb (.cells (pc p) 1 false)] := O12
  have g12 := O12.get 0 rfl
  have p12 := O12.can 0 rfl
  have O13 := (O12.set 0 rfl (.cells (pc P11) 1 false)).drop
  have ho11 := hone cl11
  have hs11 := hset P11
  simp (disch := first | assumption | omega | (simp only [wkD, oneCell, Option.isSome_some, *]; done) | (simp only [wkE, ne_eq]; omega)) only [pv, g12, p12, hs11, ho11, pc_len, cellsOf_agg, wk0, wk1, wk2, wk3, wk4, wk5, X_region, X_seq, X_block, X_loop, X_cond, Y_box, Y_un, Y_store, Y_append, Y_makeMap, ibin_shl, ibin_shr, ibin_and, List.set_cons_zero, List.set_cons_succ, List.getD_cons_zero, List.getD_cons_succ, List.map_cons, List.map_nil, ↓reduceIte, reduceCtorEq, List.length_cons, List.length_nil, readN, bne_iff_ne, ne_eq, Nat.reduceAdd, Nat.reduceLeDiff, List.getElem?_cons_zero, List.getElem?_cons_succ, Nat.reduceMul, Option.isSome_some, layAt, Nat.reduceLT, Option.isNone_some, Option.isNone_none, beq_self_eq_true, Nat.reduceEqDiff, setParams, Int.reduceLT, Int.reduceLE, Int.reduceGT, Int.reduceGE, Int.reduceEq, Int.reduceNe, Option.map_some, Option.map_none, Option.isSome_none]
  generalize h12.setB b12 (.cells (pc P11) 1 false) = h13 at O13 ⊢
  clear O11 O12 g12 p12 hs11 ho11 e12
  refine Y_buildSliceO O13 (cs := []) rfl ?_
  intro b14 h14 O14 e14
  replace O14 : Has ro h14 [Sc 1 bc (.slice (some ⟨b14, 0, none⟩) 0 0) [], Sc 1 bc v C, Ob pb (.cells (pc p) 1 false)] := Has.scClose (b := b14) (c := 0) (rest := []) (sp := none) (t := false) (zz := 1) rfl (Nat.le_refl _) rfl (Or.inr rfl) O14
  obtain ⟨w15, h15, ap15, O15⟩ := sc_appendV (bytes := 1) (by omega) bc_len bc_one O14 (O14.vw 1 rfl) (by simp only [List.length_nil]; unfold roomMost; omega) (by omega)
  rw [hv3b] at ap15
  rw [List.nil_append] at O15
  obtain ⟨w16, h16, ap16, O16⟩ := sc_appendV (bytes := 1) (by omega) bc_len bc_one O15 (V2 _ h15 O15) (by unfold roomMost; omega) (by omega)
  obtain ⟨q16, c16, hw16, -⟩ := O16.scVal 0 rfl
  simp (disch := first | assumption | omega | (simp only [wkD, oneCell, Option.isSome_some, *]; done) | (simp only [wkE, ne_eq]; omega)) only [ap15, ap16, wk0, wk1, wk2, wk3, wk4, wk5, X_region, X_seq, X_block, X_loop, X_cond, Y_box, Y_un, Y_store, Y_append, Y_makeMap, Y_buildSlice, ibin_shl, ibin_shr, ibin_and, List.set_cons_zero, List.set_cons_succ, List.getD_cons_zero, List.getD_cons_succ, List.map_cons, List.map_nil, ↓reduceIte, reduceCtorEq, oneCell, List.length_cons, List.length_nil, setAt, readN, bne_iff_ne, ne_eq, Nat.reduceAdd, Nat.reduceLeDiff, List.getElem?_cons_zero, List.getElem?_cons_succ, Nat.reduceMul, Option.isSome_some, layAt, Nat.reduceLT, Option.isNone_some, Option.isNone_none, beq_self_eq_true, Nat.reduceEqDiff, setParams, Int.reduceLT, Int.reduceLE, Int.reduceGT, Int.reduceGE, Int.reduceEq, Int.reduceNe, Option.map_some, Option.map_none, Option.isSome_none]
  rw [hw16]
  have hlen3 : (C ++ Z).length = C.length + Z.length := List.length_append
  refine Z_is (rd (h := h16) (B := C ++ Z) (by omega) (fun b hb => (List.mem_append.1 hb).elim (hCb b) (hZ b)) (fun h O => by
    have := O.vw 0 rfl
    rw [hw16] at this
    exact this) O16) ?_
  rintro w17 h17 ⟨P17, e17, rfl, cl17, re17, O17⟩
  replace O17 : Has ro h17 [Sc 1 bc v C, Ob pb (.cells (pc p) 1 false)] := Has.drop O17
  clear O13 O14 O15 O16 ap15 ap16 e14
  simp (disch := first | assumption | omega | (simp only [wkD, oneCell, Option.isSome_some, *]; done) | (simp only [wkE, ne_eq]; omega)) only [wk0, wk1, wk2, wk3, wk4, wk5, X_region, X_seq, X_block, X_loop, X_cond, Y_un, Y_store, Y_append, Y_makeMap, Y_buildSlice, ibin_shl, ibin_shr, ibin_and, List.set_cons_zero, List.set_cons_succ, List.getD_cons_zero, List.getD_cons_succ, List.map_cons, List.map_nil, ↓reduceIte, reduceCtorEq, oneCell, List.length_cons, List.length_nil, setAt, readN, bne_iff_ne, ne_eq, Nat.reduceAdd, Nat.reduceLeDiff, List.getElem?_cons_zero, List.getElem?_cons_succ, Nat.reduceMul, Option.isSome_some, layAt, Nat.reduceLT, Option.isNone_some, Option.isNone_none, beq_self_eq_true, Nat.reduceEqDiff, setParams, Int.reduceLT, Int.reduceLE, Int.reduceGT, Int.reduceGE, Int.reduceEq, Int.reduceNe, Option.map_some, Option.map_none, Option.isSome_none]
  refine Y_boxO O17 ?_
  intro b18 h18 O18 e18
  replace O18 : Has ro h18 [Ob b18 (.cells (pc pz) 1 false), Sc 1 bc v C, Ob pb (.cells (pc p) 1 false)] := O18
  have g18 := O18.get 0 rfl
  have p18 := O18.can 0 rfl
  have O19 := (O18.set 0 rfl (.cells (pc P17) 1 false)).drop
  have ho17 := hone cl17
  have hs17 := hset P17
  simp (disch := first | assumption | omega | (simp only [wkD, oneCell, Option.isSome_some, *]; done) | (simp only [wkE, ne_eq]; omega)) only [pv, g18, p18, hs17, ho17, pc_len, cellsOf_agg, wk0, wk1, wk2, wk3, wk4, wk5, X_seq, X_block, X_loop, X_cond, Y_box, Y_un, Y_store, Y_append, Y_makeMap, Y_buildSlice, ibin_shl, ibin_shr, ibin_and, List.set_cons_zero, List.set_cons_succ, List.getD_cons_zero, List.getD_cons_succ, List.map_cons, List.map_nil, ↓reduceIte, reduceCtorEq, List.length_cons, List.length_nil, readN, bne_iff_ne, ne_eq, Nat.reduceAdd, Nat.reduceLeDiff, List.getElem?_cons_zero, List.getElem?_cons_succ, Nat.reduceMul, Option.isSome_some, layAt, Nat.reduceLT, Option.isNone_some, Option.isNone_none, beq_self_eq_true, Nat.reduceEqDiff, setParams, Int.reduceLT, Int.reduceLE, Int.reduceGT, Int.reduceGE, Int.reduceEq, Int.reduceNe, Option.map_some, Option.map_none, Option.isSome_none]
  generalize h18.setB b18 (.cells (pc P17) 1 false) = h19 at O19 ⊢
  have xn : readC (h19.get b) (off + n * 1) 1 = some [.int .u8 (C[n] : Int)] := by
    obtain ⟨b', o', s', c', hv', k⟩ := rdB (O19.vw 0 rfl) (i := n) (x := C[n]) (List.getElem?_eq_getElem hnN)
    rw [hv3b] at hv'
    cases hv'
    exact k
  have E2 : e11 = 70 := by
    rcases re11 with ⟨h, -⟩ | ⟨-, h⟩
    · exact absurd h (S2 n hnN)
    · exact h
  subst E2
  have E1 : decide (e8 = 0) = decide ((x : Int) = (C[n] : Int)) := by
    rcases re8 with ⟨h, rfl⟩ | ⟨h, rfl⟩
    · rw [decide_eq_true rfl, decide_eq_true (by have := (S1 n hnN hx).1 h; omega)]
    · rw [decide_eq_false (by omega), decide_eq_false (fun e => h ((S1 n hnN hx).2 (by omega)))]
  have E3 : decide (e17 = 0) = decide ((Z.length : Int) = 0) := by
    rcases re17 with ⟨h, rfl⟩ | ⟨h, rfl⟩
    · rw [decide_eq_true rfl, decide_eq_true (by rw [S3.1 h]; rfl)]
    · rw [decide_eq_false (by omega), decide_eq_false (fun e => h (S3.2 (List.eq_nil_of_length_eq_zero (by omega))))]
  have bb : ∀ a : Bool, ((a == a) != false) = true := fun a => by cases a <;> rfl
  simp (disch := first | assumption | omega | (simp only [wkD, oneCell, Option.isSome_some, *]; done) | (simp only [wkE, ne_eq]; omega)) only [xn, hn0, hnl, Int.toNat_natCast, E1, E3, bb, hv3b, wk0, wk1, wk2, wk3, wk4, wk5, X_region, X_seq, X_block, X_loop, X_cond, Y_box, Y_un, Y_store, Y_append, Y_makeMap, Y_buildSlice, ibin_shl, ibin_shr, ibin_and, List.set_cons_zero, List.set_cons_succ, List.getD_cons_zero, List.getD_cons_succ, List.map_cons, List.map_nil, ↓reduceIte, reduceCtorEq, oneCell, List.length_cons, List.length_nil, setAt, readN, bne_iff_ne, ne_eq, Nat.reduceAdd, Nat.reduceLeDiff, List.getElem?_cons_zero, List.getElem?_cons_succ, Nat.reduceMul, Option.isSome_some, layAt, Nat.reduceLT, Option.isNone_some, Option.isNone_none, beq_self_eq_true, Nat.reduceEqDiff, setParams, Int.reduceLT, Int.reduceLE, Int.reduceGT, Int.reduceGE, Int.reduceEq, Int.reduceNe, Option.map_some, Option.map_none, Option.isSome_none]
  exact leaf1 rfl

theorem wireSpoilt_all (ro : Nat → Option (List Value × Nat)) (vs : List Value) (ha : ArgsD Tryd.prog (pin tabs ro) 1 [.agg pKinds, .one (.flat (.int .i64)), .one (.flat (.int .u8)), .one (.slice 5)] vs) : (run env 5000 7 vs (fresh (pin tabs ro))).True := by
  match vs, ha with
  | [v0, v1, v2, v3], ha =>
    obtain ⟨⟨cs, rfl, h0⟩, h1, h2, h3, -⟩ := ha
    obtain ⟨q, l, pp, c, hq, hW, hc, hlc, hcm, hV⟩ := p_inv _ h0
    obtain ⟨s, rfl, hs1, hs2⟩ := flat_i64 h1
    obtain ⟨t, rfl, ht⟩ := flat_u8 h2
    obtain ⟨p2, Z, c2, rfl, hZ, -, -, hV2⟩ := dslice h3 by_kinds by_size (by simp) bc (fun a => a < 256) by_inv
    have := wireSpoilt_run (lay_tabs ro) hW hs1 hs2 ht hZ hc hV hV2
    unfold pv at this
    rw [← hq] at this
    exact run_true this.all
  | [], ha => exact ha.elim
  | [_], ha => exact ha.2.elim
  | [_, _], ha => exact ha.2.2.elim
  | [_, _, _], ha => exact ha.2.2.2.elim
  | _ :: _ :: _ :: _ :: _ :: _, ha => exact ha.2.2.2.2.elim
theorem wireSpoilt_kinds : Tryd.f7.params.toList.mapM (pdOf Tryd.prog) = some [.agg pKinds, .one (.flat (.int .i64)), .one (.flat (.int .u8)), .one (.slice 5)] := by kernel_rfl
theorem wireSpoilt_reads : Tryd.f7.params.toList.all (fun t => Tryd.prog.readableRec t && decide (t < Tryd.prog.types.size)) = true := by kernel_rfl
theorem wireSpoilt_size : Tryd.f7.params.size = 4 := by kernel_rfl
theorem wireSpoilt_lifted (os : Os) (started : os.Started) (H : Type) (enc : TypeId × Value → H) :
    ReturnsInHanded {} Tryd.checked os 7 .any (fun w args => (Rows.wireSpoiltSpec.pre enc Tryd.prog Tryd.f7 [] false w args ∧ laidMetH Tryd.prog [("wagonway/wire.kinds", Rows.laid_wagonway_wire_kinds)] w) ∧ sizedMet enc Tryd.prog Tryd.f7 (OpenSpec.ofChange Rows.wireSpoiltSpec) false w args) (Rows.wireSpoiltSpec.post enc Tryd.prog Tryd.f7 false true false false) :=
  deep_door_lifted (C := Tryd.checked) (n := 5000) (pks := [.agg pKinds, .one (.flat (.int .i64)), .one (.flat (.int .u8)), .one (.slice 5)]) (tabs := tabs) 1 own started (by kernel_rfl) Tryd.func7
    (ChangeSpec.witness_shaped (enc := enc) (C := Tryd.checked) (os := os) (X := fun w _ => laidMetH Tryd.prog [("wagonway/wire.kinds", Rows.laid_wagonway_wire_kinds)] w) false (World.laidAll Tryd.prog os [("wagonway/wire.kinds", Rows.laid_wagonway_wire_kinds)]) #[.agg #[.int .i64 0, .int .i64 0, .int .u32 0, .int .u32 0, .int .u32 0, .int .u32 0, .int .i64 0, .int .i64 0, .int .u32 0, .int .u64 0, .int .i64 0, .int .i64 0, .int .i64 0, .int .i64 0, .slice none 0 0], .int .i64 0, .int .u8 0, .slice none 0 0] 8 (World.laidAll_os _ _ _)
      (World.shaped_of_ZipB (by kernel_rfl) (by kernel_rfl)) (by kernel_rfl) (by kernel_rfl) (by kernel_rfl)
      (by rw [MakeChecks.laidMetH_plain _ _ _ (by kernel_rfl)]; exact laidMet_laidAll _ (by kernel_rfl) (by kernel_rfl)))
    mixed env_ok laid_out wireSpoilt_kinds wireSpoilt_reads (by rfl) Tryd.underlying4 rfl
    (fun ds hds => by rw [wireSpoilt_size] at hds; match ds, hds with | [_, _, _, _], _ => rfl) (by kernel_rfl) tabs_ro (by kernel_rfl) wireSpoilt_all
theorem wireSpoilt_row : Rows.WireSpoiltSaid :=
  OpenClaim.holds_of_wide 7 Tryd.f7 rfl rfl rfl rfl rfl rfl rfl ⟨rfl, rfl, rfl, rfl, rfl⟩ rfl rfl rfl rfl rfl (by kernel_rfl) Tryd.func7 (by kernel_rfl)
    (of_decide_eq_true (by kernel_rfl)) (by unfold Func.isWrapper; rw [if_neg (of_decide_eq_false (by kernel_rfl))]; exact ⟨rfl, rfl⟩)
    (fun os started H enc _ => wireSpoilt_lifted os started H enc)
theorem wireSpoilt_holds : Rows.WireSpoiltCardSaid :=
  Claim7.holds_tied_plain_at .later [] [.data] true (true, "6504691fb4248637c7f3bd12986ab8356ba0a8da1b68853a139464c41493caf0") false wireSpoilt_row (fun _ h => by cases h) (by kernel_rfl) (fun _ h => by cases h) wireSpoilt_row_tie rfl ⟨rfl, rfl⟩ (by kernel_rfl) rfl
    (fun f fn hf hfn => by
      obtain rfl : f = 7 := Option.some.inj ((show Tryd.prog.funcNamed _ = some 7 by kernel_rfl).symm.trans hf) |>.symm
      obtain rfl : fn = Tryd.f7 := (Option.some.inj (Tryd.func7.symm.trans hfn)).symm
      exact ⟨by kernel_rfl, fun j t ht => by
        have hall : Tryd.f7.params.toList.all (fun t => !Tryd.prog.wantsStandIn t) = true := by kernel_rfl
        have := List.all_eq_true.1 hall t (List.mem_of_getElem? (i := j) (by simpa using ht))
        have h2 : Tryd.prog.wantsStandIn t = false := by simpa using this
        exact h2⟩)
    (by kernel_rfl)

end Go.Proofs.YtpodmgbnldmlcaaDoor
