/-
  How many bytes a packet has; the chapter's first example; what packets are as arguments.
-/
import Derived.Test.YtpodmgbnldmlcaaDoorFk
import Derived.Test.YtpodmgbnldmlcaaDoorByt
namespace Go.Proofs.YtpodmgbnldmlcaaDoor
open Go Go.Ideal Go.ChangeShapes Go.RowKit
set_option maxHeartbeats 0
set_option linter.unusedSimpArgs false
set_option linter.unusedVariables false
set_option maxRecDepth 100000
attribute [local irreducible] callV T.All T.Is run
theorem env16 : env 16 = some ir16 := rfl
theorem env24 : env 24 = some ir24 := rfl
theorem code_wrap {x : Int} (h0 : 0 ≤ x) (h1 : x ≤ 9223372036854775807) : IntKind.i64.wrap x = x := wrap_i64 (by omega) h1
section
variable {ro : Nat → Option (List Value × Nat)} {h : Heap} {R : List Rs} {m : Msg} {l : List Cl}
theorem size_h {n : Nat} (hL : Lay ro) (hn : 2000 < n) (hl : l.length ≤ 200) (hW : WfM m l) (V : ∀ h, Has ro h R → Vw 2 cc h m.cl l) (O : Has ro h R) :
    (callV env (n + 7) (.func (.func 15) #[] #[]) [mv m] h).Is fun q => q.1 = .int .i64 (sizeM m l) ∧ Has ro q.2 R := by
  refine call_is env15 ?_
  simp (disch := first | assumption | omega | (simp only [wkD, oneCell, Option.isSome_some, *]; done) | (simp only [wkE, ne_eq]; omega)) only [ir15, List.append_nil, List.nil_append, List.cons_append, List.length_cons, List.length_nil, Nat.reduceAdd, Nat.reduceSub, List.replicate_succ, List.replicate_zero, mv, wk0, wk1, wk2, wk3, wk4, wk5, X_region, X_seq, X_block, X_loop, X_cond, Y_un, Y_store, Y_append, Y_makeMap, Y_buildSlice, ibin_shl, ibin_shr, ibin_and, List.set_cons_zero, List.set_cons_succ, List.getD_cons_zero, List.getD_cons_succ, List.map_cons, List.map_nil, ↓reduceIte, reduceCtorEq, oneCell, List.length_cons, List.length_nil, setAt, readN, bne_iff_ne, ne_eq, Nat.reduceAdd, Nat.reduceLeDiff, List.getElem?_cons_zero, List.getElem?_cons_succ, Nat.reduceMul, Option.isSome_some, layAt, Nat.reduceLT, Option.isNone_some, Option.isNone_none, beq_self_eq_true, Nat.reduceEqDiff, setParams, Int.reduceLT, Int.reduceLE, Int.reduceGT, Int.reduceGE, Int.reduceEq, Int.reduceNe, Option.map_some, Option.map_none, Option.isSome_none]
  refine Y_boxO O ?_
  intro mb h1 O1 e1
  replace O1 : Has ro h1 (Ob mb (.cells (mc m) 1 false) :: R) := O1
  obtain ⟨r0, r1, r2, r3, r4, r5, r6, r7, r8, r9⟩ := rdm (O1.get 0 rfl)
  simp (disch := first | assumption | omega | (simp only [wkD, oneCell, Option.isSome_some, *]; done) | (simp only [wkE, ne_eq]; omega)) only [r9, agg_mv, wk0, wk1, wk2, wk3, wk4, wk5, X_region, X_seq, X_block, X_loop, X_cond, Y_box, Y_un, Y_store, Y_append, Y_makeMap, Y_buildSlice, ibin_shl, ibin_shr, ibin_and, List.set_cons_zero, List.set_cons_succ, List.getD_cons_zero, List.getD_cons_succ, List.map_cons, List.map_nil, ↓reduceIte, reduceCtorEq, oneCell, List.length_cons, List.length_nil, setAt, readN, bne_iff_ne, ne_eq, Nat.reduceAdd, Nat.reduceLeDiff, List.getElem?_cons_zero, List.getElem?_cons_succ, Nat.reduceMul, Option.isSome_some, layAt, Nat.reduceLT, Option.isNone_some, Option.isNone_none, beq_self_eq_true, Nat.reduceEqDiff, setParams, Int.reduceLT, Int.reduceLE, Int.reduceGT, Int.reduceGE, Int.reduceEq, Int.reduceNe, Option.map_some, Option.map_none, Option.isSome_none]
  refine Z_is (check_h (n := n) hL (by omega) (by omega) (fun h O => V h O.drop) O1) ?_
  rintro v2 h2 ⟨rfl, O2⟩
  by_cases hok : OkM m l
  case neg =>
    rw [code_f hok]
    simp (disch := first | assumption | omega | (simp only [wkD, oneCell, Option.isSome_some, *]; done) | (simp only [wkE, ne_eq]; omega)) only [wk0, wk1, wk2, wk3, wk4, wk5, X_region, X_seq, X_block, X_loop, X_cond, Y_box, Y_un, Y_store, Y_append, Y_makeMap, Y_buildSlice, ibin_shl, ibin_shr, ibin_and, List.set_cons_zero, List.set_cons_succ, List.getD_cons_zero, List.getD_cons_succ, List.map_cons, List.map_nil, ↓reduceIte, reduceCtorEq, oneCell, List.length_cons, List.length_nil, setAt, readN, bne_iff_ne, ne_eq, Nat.reduceAdd, Nat.reduceLeDiff, List.getElem?_cons_zero, List.getElem?_cons_succ, Nat.reduceMul, Option.isSome_some, layAt, Nat.reduceLT, Option.isNone_some, Option.isNone_none, beq_self_eq_true, Nat.reduceEqDiff, setParams, Int.reduceLT, Int.reduceLE, Int.reduceGT, Int.reduceGE, Int.reduceEq, Int.reduceNe, Option.map_some, Option.map_none, Option.isSome_none]
    exact leaf1 ⟨by rw [sizeM_f hok]; rfl, O2.drop⟩
  rw [code_t hok]
  have hN := nums_of hW hok
  have hl16 : l.length ≤ 16 := hN.2.2.2.2.1
  have hpl := plainB_len (m := m) hl16
  clear O1 r0 r1 r2 r3 r4 r5 r6 r7 r8 r9 e1 O
  obtain ⟨r0, r1, r2, r3, r4, r5, r6, r7, r8, r9⟩ := rdm (O2.get 0 rfl)
  have lm : mb < 2 * h2.next := (O2.info (i := 0) rfl).2.2.2.1
  simp (disch := first | assumption | omega | (simp only [wkD, oneCell, Option.isSome_some, *]; done) | (simp only [wkE, ne_eq]; omega)) only [wk0, wk1, wk2, wk3, wk4, wk5, X_region, X_seq, X_block, X_loop, X_cond, Y_box, Y_un, Y_store, Y_append, Y_makeMap, Y_buildSlice, ibin_shl, ibin_shr, ibin_and, List.set_cons_zero, List.set_cons_succ, List.getD_cons_zero, List.getD_cons_succ, List.map_cons, List.map_nil, ↓reduceIte, reduceCtorEq, oneCell, List.length_cons, List.length_nil, setAt, readN, bne_iff_ne, ne_eq, Nat.reduceAdd, Nat.reduceLeDiff, List.getElem?_cons_zero, List.getElem?_cons_succ, Nat.reduceMul, Option.isSome_some, layAt, Nat.reduceLT, Option.isNone_some, Option.isNone_none, beq_self_eq_true, Nat.reduceEqDiff, setParams, Int.reduceLT, Int.reduceLE, Int.reduceGT, Int.reduceGE, Int.reduceEq, Int.reduceNe, Option.map_some, Option.map_none, Option.isSome_none]
  refine X_plan [] O2.fine ?_
  refine Dp.makeFree O2 (m := 18) rfl rfl (by unfold roomMost; omega) (by unfold roomMost; omega) ?_
  intro zb h3 O3 hn3 e3
  have gm3 : h3.get mb = some (.cells (mc m) 1 false) := O3.get 1 rfl
  refine Dp.loadFN rfl (rdm gm3).2.2.2.2.2.2.2.2.2 (fun k _ => by rw [plan_none]; simp) (fun x hx => by
    rw [List.mem_singleton] at hx
    subst hx
    exact Or.inl (by show mb / 2 < h2.next; omega)) ?_
  have O4 : Has ro h3 (Sc 1 bc (.slice (some ⟨zb, 0, none⟩) 18 18) (List.replicate 18 0) :: Ob mb (.cells (mc m) 1 false) :: R) := Has.scClose (b := zb) (c := 18) (rest := []) (sp := none) (t := false) (zz := 1) rfl (Nat.le_refl _) rfl (Or.inr rfl) O3
  refine Dp.callFixed (plain_h (n := n + 3) (t := List.replicate 18 0) hL (by omega) hok.1.1 hok.1.2 (by rw [List.length_replicate]; omega) hN (fun h O => V h O.drop) O4) ?_
  rintro v5 h5 O5
  replace O5 : Has ro h5 (Sc 1 bc v5 (List.replicate 18 0 ++ plainB m l) :: Ob mb (.cells (mc m) 1 false) :: R) := O5
  obtain ⟨q5, c5, hv5, -⟩ := O5.scVal 0 rfl
  subst hv5
  refine Dp.pure rfl rfl ?_
  have hlen : (List.replicate 18 0 ++ plainB m l).length = 18 + (plainB m l).length := by rw [List.length_append, List.length_replicate]
  refine Dp.bin (a := .int .i64 2) (b := .int .i64 ((List.replicate 18 0 ++ plainB m l).length : Int)) rfl rfl (ibin_mul _ _ _) ?_
  refine Dp.move ?_
  refine Dp.nil ?_
  simp (disch := first | assumption | omega | (simp only [wkD, oneCell, Option.isSome_some, *]; done) | (simp only [wkE, ne_eq]; omega)) only [wk0, wk1, wk2, wk3, wk4, wk5, X_region, X_seq, X_block, X_loop, X_cond, Y_box, Y_un, Y_store, Y_append, Y_makeMap, Y_buildSlice, ibin_shl, ibin_shr, ibin_and, List.set_cons_zero, List.set_cons_succ, List.getD_cons_zero, List.getD_cons_succ, List.map_cons, List.map_nil, ↓reduceIte, reduceCtorEq, oneCell, List.length_cons, List.length_nil, setAt, readN, bne_iff_ne, ne_eq, Nat.reduceAdd, Nat.reduceLeDiff, List.getElem?_cons_zero, List.getElem?_cons_succ, Nat.reduceMul, Option.isSome_some, layAt, Nat.reduceLT, Option.isNone_some, Option.isNone_none, beq_self_eq_true, Nat.reduceEqDiff, setParams, Int.reduceLT, Int.reduceLE, Int.reduceGT, Int.reduceGE, Int.reduceEq, Int.reduceNe, Option.map_some, Option.map_none, Option.isSome_none]
  refine leaf1 ⟨?_, O5.drop.drop⟩
  rw [sizeM_t hok]
  show Value.int .i64 (IntKind.i64.wrap (2 * ((List.replicate 18 0 ++ plainB m l).length : Int))) = _
  rw [hlen, wrap_i64 (by omega) (by omega)]
  congr 1

def hello : Pkt := ⟨1, 2, 1, 0, 0, 0, ⟨9, 0, 0, 0, 0, 0, 0, 0, nilS⟩⟩
theorem hello_ok : OkP hello [] := by
  refine ⟨by decide, by decide, by decide, by decide, ?_, by decide, fun j hj => by cases hj⟩
  decide
theorem hello_bytes : comp (allB hello []) = [1, 254, 2, 253, 0, 255, 0, 255, 0, 255, 1, 254, 0, 255, 0, 255, 0, 255, 0, 255, 0, 255, 0, 255, 0, 255, 0, 255, 0, 255, 0, 255, 0, 255, 0, 255, 9, 246] := by decide
theorem hello_h {n : Nat} (O : Has ro h R) : (callV env (n + 1) (.func (.func 24) #[] #[]) [] h).Is fun q => q.1 = pv hello ∧ Has ro q.2 R := by
  refine call_is env24 ?_
  simp (disch := first | assumption | omega | (simp only [wkD, oneCell, Option.isSome_some, *]; done) | (simp only [wkE, ne_eq]; omega)) only [ir24, List.append_nil, List.nil_append, List.cons_append, List.length_cons, List.length_nil, Nat.reduceAdd, Nat.reduceSub, List.replicate_succ, List.replicate_zero, wk0, wk1, wk2, wk3, wk4, wk5, X_region, X_seq, X_block, X_loop, X_cond, Y_un, Y_store, Y_append, Y_makeMap, Y_buildSlice, ibin_shl, ibin_shr, ibin_and, List.set_cons_zero, List.set_cons_succ, List.getD_cons_zero, List.getD_cons_succ, List.map_cons, List.map_nil, ↓reduceIte, reduceCtorEq, oneCell, List.length_cons, List.length_nil, setAt, readN, bne_iff_ne, ne_eq, Nat.reduceAdd, Nat.reduceLeDiff, List.getElem?_cons_zero, List.getElem?_cons_succ, Nat.reduceMul, Option.isSome_some, layAt, Nat.reduceLT, Option.isNone_some, Option.isNone_none, beq_self_eq_true, Nat.reduceEqDiff, setParams, Int.reduceLT, Int.reduceLE, Int.reduceGT, Int.reduceGE, Int.reduceEq, Int.reduceNe, Option.map_some, Option.map_none, Option.isSome_none]
  refine Y_boxO O ?_
  intro b h1 O1 e1
  have g1 := O1.get 0 rfl
  have p1 := O1.can 0 rfl
  have O2 := O1.set 0 rfl (.cells (pc hello) 1 false)
  simp (disch := first | assumption | omega | (simp only [wkD, oneCell, Option.isSome_some, *]; done) | (simp only [wkE, ne_eq]; omega)) only [g1, p1, cellsOf_agg, wk0, wk1, wk2, wk3, wk4, wk5, X_region, X_seq, X_block, X_loop, X_cond, Y_box, Y_un, Y_store, Y_append, Y_makeMap, Y_buildSlice, ibin_shl, ibin_shr, ibin_and, List.set_cons_zero, List.set_cons_succ, List.getD_cons_zero, List.getD_cons_succ, List.map_cons, List.map_nil, ↓reduceIte, reduceCtorEq, oneCell, List.length_cons, List.length_nil, setAt, readN, bne_iff_ne, ne_eq, Nat.reduceAdd, Nat.reduceLeDiff, List.getElem?_cons_zero, List.getElem?_cons_succ, Nat.reduceMul, Option.isSome_some, layAt, Nat.reduceLT, Option.isNone_some, Option.isNone_none, beq_self_eq_true, Nat.reduceEqDiff, setParams, Int.reduceLT, Int.reduceLE, Int.reduceGT, Int.reduceGE, Int.reduceEq, Int.reduceNe, Option.map_some, Option.map_none, Option.isSome_none]
  exact leafO _ (answerC (cellN O2 0 rfl rfl rfl)) ⟨rfl, O2.drop⟩
theorem alive_h {n : Nat} (hL : Lay ro) (hn : 3000 < n) (O : Has ro h R) : (callV env (n + 9) (.func (.func 16) #[] #[]) [] h).Is fun q => q.1 = .bool true ∧ Has ro q.2 R := by
  refine call_is env16 ?_
  simp (disch := first | assumption | omega | (simp only [wkD, oneCell, Option.isSome_some, *]; done) | (simp only [wkE, ne_eq]; omega)) only [ir16, List.append_nil, List.nil_append, List.cons_append, List.length_cons, List.length_nil, Nat.reduceAdd, Nat.reduceSub, List.replicate_succ, List.replicate_zero, wk0, wk1, wk2, wk3, wk4, wk5, X_region, X_seq, X_block, X_loop, X_cond, Y_box, Y_un, Y_store, Y_append, Y_makeMap, Y_buildSlice, ibin_shl, ibin_shr, ibin_and, List.set_cons_zero, List.set_cons_succ, List.getD_cons_zero, List.getD_cons_succ, List.map_cons, List.map_nil, ↓reduceIte, reduceCtorEq, oneCell, List.length_cons, List.length_nil, setAt, readN, bne_iff_ne, ne_eq, Nat.reduceAdd, Nat.reduceLeDiff, List.getElem?_cons_zero, List.getElem?_cons_succ, Nat.reduceMul, Option.isSome_some, layAt, Nat.reduceLT, Option.isNone_some, Option.isNone_none, beq_self_eq_true, Nat.reduceEqDiff, setParams, Int.reduceLT, Int.reduceLE, Int.reduceGT, Int.reduceGE, Int.reduceEq, Int.reduceNe, Option.map_some, Option.map_none, Option.isSome_none]
  refine Z_is (hello_h O) ?_
  rintro v1 h1 ⟨rfl, O1⟩
  simp (disch := first | assumption | omega | (simp only [wkD, oneCell, Option.isSome_some, *]; done) | (simp only [wkE, ne_eq]; omega)) only [wk0, wk1, wk2, wk3, wk4, wk5, X_region, X_seq, X_block, X_loop, X_cond, Y_box, Y_un, Y_store, Y_append, Y_makeMap, Y_buildSlice, ibin_shl, ibin_shr, ibin_and, List.set_cons_zero, List.set_cons_succ, List.getD_cons_zero, List.getD_cons_succ, List.map_cons, List.map_nil, ↓reduceIte, reduceCtorEq, oneCell, List.length_cons, List.length_nil, setAt, readN, bne_iff_ne, ne_eq, Nat.reduceAdd, Nat.reduceLeDiff, List.getElem?_cons_zero, List.getElem?_cons_succ, Nat.reduceMul, Option.isSome_some, layAt, Nat.reduceLT, Option.isNone_some, Option.isNone_none, beq_self_eq_true, Nat.reduceEqDiff, setParams, Int.reduceLT, Int.reduceLE, Int.reduceGT, Int.reduceGE, Int.reduceEq, Int.reduceNe, Option.map_some, Option.map_none, Option.isSome_none]
  refine Z_is (bytes_h (n := n) (l := []) hL (by omega) (by simp) ⟨by decide, by decide, by decide, by decide, by decide, by decide, fun j hj => by cases hj⟩ (fun h O => Vw.nil h none 0) O1) ?_
  rintro v2 h2 ⟨v, rfl, O2⟩
  rw [code_t hello_ok]
  rw [bytesP_t hello_ok, hello_bytes] at O2
  obtain ⟨b, off, sp, c, hv, k0, -⟩ := (O2.vw 0 rfl).rd bc_len (i := 0) rfl
  subst hv
  have rdx : ∀ {i : Nat} {x : Nat}, ([1, 254, 2, 253, 0, 255, 0, 255, 0, 255, 1, 254, 0, 255, 0, 255, 0, 255, 0, 255, 0, 255, 0, 255, 0, 255, 0, 255, 0, 255, 0, 255, 0, 255, 0, 255, 9, 246] : List Nat)[i]? = some x → readC (h2.get b) (off + i * 1) 1 = some (bc x) := by
    intro i x hx
    obtain ⟨b', off', sp', c', hv', -, k1⟩ := (O2.vw 0 rfl).rd bc_len hx
    cases hv'
    exact k1
  have x0 := rdx (i := 0) rfl
  have x1 := rdx (i := 1) rfl
  have x2 := rdx (i := 2) rfl
  have x3 := rdx (i := 3) rfl
  have x4 := rdx (i := 36) rfl
  have x5 := rdx (i := 37) rfl
  simp only [Nat.reduceMul, bc, Int.cast_ofNat_Int, Nat.zero_mul, Nat.add_zero] at x0 x1 x2 x3 x4 x5
  simp (disch := first | assumption | omega | (simp only [wkD, oneCell, Option.isSome_some, *]; done) | (simp only [wkE, ne_eq]; omega)) only [x0, x1, x2, x3, x4, x5, Int.reduceToNat, Nat.add_zero, wk0, wk1, wk2, wk3, wk4, wk5, X_region, X_seq, X_block, X_loop, X_cond, Y_box, Y_un, Y_store, Y_append, Y_makeMap, Y_buildSlice, ibin_shl, ibin_shr, ibin_and, List.set_cons_zero, List.set_cons_succ, List.getD_cons_zero, List.getD_cons_succ, List.map_cons, List.map_nil, ↓reduceIte, reduceCtorEq, oneCell, List.length_cons, List.length_nil, setAt, readN, bne_iff_ne, ne_eq, Nat.reduceAdd, Nat.reduceLeDiff, List.getElem?_cons_zero, List.getElem?_cons_succ, Nat.reduceMul, Option.isSome_some, layAt, Nat.reduceLT, Option.isNone_some, Option.isNone_none, beq_self_eq_true, Nat.reduceEqDiff, setParams, Int.reduceLT, Int.reduceLE, Int.reduceGT, Int.reduceGE, Int.reduceEq, Int.reduceNe, Option.map_some, Option.map_none, Option.isSome_none]
  exact leaf1 ⟨rfl, O2.drop⟩
end

/-! What packets are as arguments. -/
theorem cl_kinds : dkOf Tryd.prog 8 54 = some [.flat (.int .i64), .flat (.int .u32)] := by kernel_rfl
theorem cl_size : Tryd.prog.cellsOf 54 = 2 := by kernel_rfl
theorem flat_i64 {d : Nat} {ro : Nat → Option (List Value × Nat)} {v : Value} (h : DFit Tryd.prog ro d (.flat (.int .i64)) v) : ∃ x : Int, v = .int .i64 x ∧ -9223372036854775808 ≤ x ∧ x ≤ 9223372036854775807 := by
  cases d <;> exact h
theorem flat_u32 {d : Nat} {ro : Nat → Option (List Value × Nat)} {v : Value} (h : DFit Tryd.prog ro d (.flat (.int .u32)) v) : ∃ x : Nat, v = .int .u32 (x : Int) ∧ x < 4294967296 := by
  have h' : ∃ x : Int, v = .int .u32 x ∧ 0 ≤ x ∧ x ≤ 4294967295 := by cases d <;> exact h
  obtain ⟨x, rfl, h1, h2⟩ := h'
  exact ⟨x.toNat, by rw [Int.toNat_of_nonneg h1], by omega⟩
theorem flat_u64 {d : Nat} {ro : Nat → Option (List Value × Nat)} {v : Value} (h : DFit Tryd.prog ro d (.flat (.int .u64)) v) : ∃ x : Nat, v = .int .u64 (x : Int) ∧ x < 18446744073709551616 := by
  have h' : ∃ x : Int, v = .int .u64 x ∧ 0 ≤ x ∧ x ≤ 18446744073709551615 := by cases d <;> exact h
  obtain ⟨x, rfl, h1, h2⟩ := h'
  exact ⟨x.toNat, by rw [Int.toNat_of_nonneg h1], by omega⟩
def mKinds : List DK := [.flat (.int .i64), .flat (.int .i64), .flat (.int .u32), .flat (.int .u64), .flat (.int .i64), .flat (.int .i64), .flat (.int .i64), .flat (.int .i64), .slice 54]
def pKinds : List DK := [.flat (.int .i64), .flat (.int .i64), .flat (.int .u32), .flat (.int .u32), .flat (.int .u32), .flat (.int .u32), .flat (.int .i64), .flat (.int .i64), .flat (.int .u32), .flat (.int .u64), .flat (.int .i64), .flat (.int .i64), .flat (.int .i64), .flat (.int .i64), .slice 54]
theorem cl_inv {ro : Nat → Option (List Value × Nat)} (vs : List Value) (h : Fits2 (DFit Tryd.prog ro 0) [.flat (.int .i64), .flat (.int .u32)] vs) : ∃ a : Cl, vs = cc a ∧ a.g < 4294967296 := by
  match vs, h with
  | [x, y], h =>
    obtain ⟨a, rfl, _⟩ := flat_i64 h.1
    obtain ⟨b, rfl, hb⟩ := flat_u32 h.2.1
    exact ⟨⟨a, b⟩, rfl, hb⟩
  | [], h => exact h.elim
  | [_], h => exact h.2.elim
  | _ :: _ :: _ :: _, h => exact h.2.2.elim
theorem f2_cons {p : DK → Value → Prop} {k : DK} {ks : List DK} {vs : List Value} (h : Fits2 p (k :: ks) vs) : ∃ v vs', vs = v :: vs' ∧ p k v ∧ Fits2 p ks vs' := by
  cases vs with
  | nil => exact h.elim
  | cons v vs => exact ⟨v, vs, rfl, h.1, h.2⟩
theorem f2_nil {p : DK → Value → Prop} {vs : List Value} (h : Fits2 p [] vs) : vs = [] := by
  cases vs with
  | nil => rfl
  | cons v vs => exact h.elim
theorem m_inv {ro : Nat → Option (List Value × Nat)} (vs : List Value) (h : Fits2 (DFit Tryd.prog ro 1) mKinds vs) : ∃ (m : Msg) (l : List Cl) (p : Option Addr) (c : Nat), vs = mc m ∧ WfM m l ∧ m.cl = .slice p l.length c ∧ l.length ≤ c ∧ c ≤ maxLen ∧ ∀ (L : List Rs) (h : Heap), Has ro h L → Vw 2 cc h m.cl l := by
  obtain ⟨v0, w0, e0, f0, t0⟩ := f2_cons h
  obtain ⟨v1, w1, e1, f1, t1⟩ := f2_cons t0
  obtain ⟨v2, w2, e2, f2, t2⟩ := f2_cons t1
  obtain ⟨v3, w3, e3, f3, t3⟩ := f2_cons t2
  obtain ⟨v4, w4, e4, f4, t4⟩ := f2_cons t3
  obtain ⟨v5, w5, e5, f5, t5⟩ := f2_cons t4
  obtain ⟨v6, w6, e6, f6, t6⟩ := f2_cons t5
  obtain ⟨v7, w7, e7, f7, t7⟩ := f2_cons t6
  obtain ⟨v8, w8, e8, f8, t8⟩ := f2_cons t7
  have e9 := f2_nil t8
  subst e9 e8 e7 e6 e5 e4 e3 e2 e1 e0
  obtain ⟨x0, rfl, _⟩ := flat_i64 f0
  obtain ⟨x1, rfl, _⟩ := flat_i64 f1
  obtain ⟨x2, rfl, u2⟩ := flat_u32 f2
  obtain ⟨x3, rfl, u3⟩ := flat_u64 f3
  obtain ⟨x4, rfl, _⟩ := flat_i64 f4
  obtain ⟨x5, rfl, _⟩ := flat_i64 f5
  obtain ⟨x6, rfl, _⟩ := flat_i64 f6
  obtain ⟨x7, rfl, _⟩ := flat_i64 f7
  obtain ⟨p, l, c, rfl, hok, h1, h2, hV⟩ := dslice f8 cl_kinds cl_size (by simp) cc (fun a => a.g < 4294967296) cl_inv
  refine ⟨⟨x0, x1, x2, x3, x4, x5, x6, x7, .slice p l.length c⟩, l, p, c, rfl, ⟨u2, u3, fun j hj => ?_⟩, rfl, h1, h2, hV⟩
  rw [List.getD_eq_getElem?_getD, List.getElem?_eq_getElem hj]
  exact hok _ (List.getElem_mem hj)
theorem p_inv {ro : Nat → Option (List Value × Nat)} (vs : List Value) (h : Fits2 (DFit Tryd.prog ro 1) pKinds vs) : ∃ (q : Pkt) (l : List Cl) (p : Option Addr) (c : Nat), vs = pc q ∧ WfP q l ∧ q.m.cl = .slice p l.length c ∧ l.length ≤ c ∧ c ≤ maxLen ∧ ∀ (L : List Rs) (h : Heap), Has ro h L → Vw 2 cc h q.m.cl l := by
  obtain ⟨v0, w0, e0, f0, t0⟩ := f2_cons h
  obtain ⟨v1, w1, e1, f1, t1⟩ := f2_cons t0
  obtain ⟨v2, w2, e2, f2, t2⟩ := f2_cons t1
  obtain ⟨v3, w3, e3, f3, t3⟩ := f2_cons t2
  obtain ⟨v4, w4, e4, f4, t4⟩ := f2_cons t3
  obtain ⟨v5, w5, e5, f5, t5⟩ := f2_cons t4
  subst e5 e4 e3 e2 e1 e0
  obtain ⟨x0, rfl, _⟩ := flat_i64 f0
  obtain ⟨x1, rfl, _⟩ := flat_i64 f1
  obtain ⟨x2, rfl, u2⟩ := flat_u32 f2
  obtain ⟨x3, rfl, u3⟩ := flat_u32 f3
  obtain ⟨x4, rfl, u4⟩ := flat_u32 f4
  obtain ⟨x5, rfl, u5⟩ := flat_u32 f5
  obtain ⟨m, l, p, c, rfl, hw, h1⟩ := m_inv _ t5
  exact ⟨⟨x0, x1, x2, x3, x4, x5, m⟩, l, p, c, rfl, ⟨u2, u3, u4, u5, hw⟩, h1⟩
end Go.Proofs.YtpodmgbnldmlcaaDoor
