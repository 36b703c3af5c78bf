import Derived.Test.YtmpnldmdchchjaaFk
import Derived.Test.YtmpnldmdchchjaaJoi
import Derived.Test.YtmpnldmdchchjaaRows
namespace Go.Proofs.Ytmpnldmdchchjaa
open Go Go.Ideal Go.ChangeShapes Go.RowKit
set_option maxHeartbeats 0
set_option linter.unusedSimpArgs false
set_option linter.unusedVariables false
set_option maxRecDepth 100000
attribute [local irreducible] callV T.All T.Is run
theorem env3 : env 3 = some ir3 := rfl
theorem sub_lt' {a i q : Nat} (hk : q = a - i) (h : i < a) : a - (i + 1) < q := by omega
theorem ledgerLoads_run {ro : Nat → Option (List Value × Nat)} {a b c : Int} {l : List Cq} {pl : Option Addr} {cl : Nat} (ok : ∀ a ∈ l, OkQ ro a) (hl : l.length ≤ cl) (hcl : cl ≤ maxLen)
    (V : ∀ (M : List Rs) (h : Heap), Has ro h M → Vw 7 cq h (.slice pl l.length cl) l) :
    (callV env 5000 (.func (.func 3) #[] #[]) [.agg #[.int .i64 a, .int .i64 b, .int .i64 c], .slice pl l.length cl] (fresh ro)).Is fun p => p.1 = .bool true := by
  refine call_is (n := 4999) env3 ?_
  simp (disch := first | assumption | omega | (simp only [wkD, oneCell, Option.isSome_some, *]; done) | (simp only [wkE, ne_eq]; omega)) only [ir3, List.append_nil, List.nil_append, List.cons_append, List.length_cons, List.length_nil, Nat.reduceAdd, Nat.reduceSub, List.replicate_succ, List.replicate_zero, show (fresh ro).next = 0 from rfl, wkF, X_region, X_seq, X_block, X_loop, X_cond, Y_box, Y_un, Y_store, Y_append, Y_makeMap, Y_buildSlice, ibin_shl, ibin_shr, ibin_and, ↓reduceIte, reduceCtorEq, oneCell, setAt, readN, Nat.reduceAdd, Nat.reduceLeDiff, Nat.reduceMul, layAt, Nat.reduceLT, Nat.reduceEqDiff, setParams, Int.reduceLT, Int.reduceLE, Int.reduceGT, Int.reduceGE, Int.reduceEq, Int.reduceNe]
  refine Z_is (alive2_h ro a b c) ?_
  rintro v h1 ⟨rfl, O1⟩
  simp only at O1
  simp (disch := first | assumption | omega | (simp only [wkD, oneCell, Option.isSome_some, *]; done) | (simp only [wkE, ne_eq]; omega)) only [wkF, X_region, X_seq, X_block, X_loop, X_cond, Y_box, Y_un, Y_store, Y_append, Y_makeMap, Y_buildSlice, ibin_shl, ibin_shr, ibin_and, ↓reduceIte, reduceCtorEq, oneCell, setAt, readN, Nat.reduceAdd, Nat.reduceLeDiff, Nat.reduceMul, layAt, Nat.reduceLT, Nat.reduceEqDiff, setParams, Int.reduceLT, Int.reduceLE, Int.reduceGT, Int.reduceGE, Int.reduceEq, Int.reduceNe]
  refine Z_is (great_h (n := 4998) (by omega) ok (V _ _ O1)) ?_
  rintro v h2 (hv | ⟨hv, hl120, hcl40⟩)
  · cases hv
    simp (disch := first | assumption | omega | (simp only [wkD, oneCell, Option.isSome_some, *]; done) | (simp only [wkE, ne_eq]; omega)) only [wkF, X_region, X_seq, X_block, X_loop, X_cond, Y_box, Y_un, Y_store, Y_append, Y_makeMap, Y_buildSlice, ibin_shl, ibin_shr, ibin_and, ↓reduceIte, reduceCtorEq, oneCell, setAt, readN, Nat.reduceAdd, Nat.reduceLeDiff, Nat.reduceMul, layAt, Nat.reduceLT, Nat.reduceEqDiff, setParams, Int.reduceLT, Int.reduceLE, Int.reduceGT, Int.reduceGE, Int.reduceEq, Int.reduceNe]
    exact leaf1 rfl
  cases hv
  have gz := O1.get 0 rfl
  simp (disch := first | assumption | omega | (simp only [wkD, oneCell, Option.isSome_some, *]; done) | (simp only [wkE, ne_eq]; omega)) only [gz, wkF, X_region, X_seq, X_block, X_loop, X_cond, Y_box, Y_un, Y_store, Y_append, Y_makeMap, Y_buildSlice, ibin_shl, ibin_shr, ibin_and, ↓reduceIte, reduceCtorEq, oneCell, setAt, readN, Nat.reduceAdd, Nat.reduceLeDiff, Nat.reduceMul, layAt, Nat.reduceLT, Nat.reduceEqDiff, setParams, Int.reduceLT, Int.reduceLE, Int.reduceGT, Int.reduceGE, Int.reduceEq, Int.reduceNe]
  refine Z_is (new_h (n := 4998) a b c O1) ?_
  rintro v h3 hv
  rcases hv with ⟨hsz, rfl, O3⟩ | ⟨hsz, lb, rfl, O3⟩
  · simp (disch := first | assumption | omega | (simp only [wkD, oneCell, Option.isSome_some, *]; done) | (simp only [wkE, ne_eq]; omega)) only [vEqPtr_none, Bool.not_false, wkF, X_region, X_seq, X_block, X_loop, X_cond, Y_box, Y_un, Y_store, Y_append, Y_makeMap, Y_buildSlice, ibin_shl, ibin_shr, ibin_and, ↓reduceIte, reduceCtorEq, oneCell, setAt, readN, Nat.reduceAdd, Nat.reduceLeDiff, Nat.reduceMul, layAt, Nat.reduceLT, Nat.reduceEqDiff, setParams, Int.reduceLT, Int.reduceLE, Int.reduceGT, Int.reduceGE, Int.reduceEq, Int.reduceNe]
    exact leaf1 rfl
  simp only at O3
  have nv0 := nv_lz hsz
  have hc1 : 1 ≤ c := hsz.2.2.2.2.1
  have hc2 : c ≤ 1024 := hsz.2.2.2.2.2
  obtain ⟨C, rfl⟩ : ∃ C : Nat, c = (C : Int) := ⟨c.toNat, by omega⟩
  clear gz O1
  have gz := O3.get 1 rfl
  simp (disch := first | assumption | omega | (simp only [wkD, oneCell, Option.isSome_some, *]; done) | (simp only [wkE, ne_eq]; omega)) only [gz, wkF, X_region, X_seq, X_block, X_loop, X_cond, Y_box, Y_un, Y_store, Y_append, Y_makeMap, Y_buildSlice, ibin_shl, ibin_shr, ibin_and, ↓reduceIte, reduceCtorEq, oneCell, setAt, readN, Nat.reduceAdd, Nat.reduceLeDiff, Nat.reduceMul, layAt, Nat.reduceLT, Nat.reduceEqDiff, setParams, Int.reduceLT, Int.reduceLE, Int.reduceGT, Int.reduceGE, Int.reduceEq, Int.reduceNe]
  refine Y_makeSliceO O3 (n := C) rfl rfl (by unfold roomMost; omega) (by unfold roomMost; omega) ?_
  intro b8 h4 O4 _
  rw [sl_zero C] at O4
  simp (disch := first | assumption | omega | (simp only [wkD, oneCell, Option.isSome_some, *]; done) | (simp only [wkE, ne_eq]; omega)) only [wkF, X_region, X_seq, X_block, X_loop, X_cond, Y_box, Y_un, Y_store, Y_append, Y_makeMap, Y_buildSlice, ibin_shl, ibin_shr, ibin_and, ↓reduceIte, reduceCtorEq, oneCell, setAt, readN, Nat.reduceAdd, Nat.reduceLeDiff, Nat.reduceMul, layAt, Nat.reduceLT, Nat.reduceEqDiff, setParams, Int.reduceLT, Int.reduceLE, Int.reduceGT, Int.reduceGE, Int.reduceEq, Int.reduceNe]
  clear O3 gz
  refine L_is (fun q s => ∃ (i : Nat) (S : Ls), q = l.length - i ∧ s.defers = [] ∧ s.tmps.length = 236 ∧ s.tmps.getD 1 undefV = .slice pl l.length cl ∧ s.tmps.getD 2 undefV = .pointer (some ⟨0, 0, none⟩) ∧ s.tmps.getD 5 undefV = .bool true ∧ s.tmps.getD 6 undefV = .pointer (some ⟨lb, 0, none⟩) ∧ s.tmps.getD 8 undefV = .slice (some ⟨b8, 0, none⟩) C C ∧ s.tmps.getD 9 undefV = .int .i64 (i : Int) ∧ i ≤ l.length ∧ Nv S ∧ (S.home = a ∧ S.rob = b ∧ S.cells = (C : Int)) ∧ Has ro s.h [Ob b8 (.cells (sl S.E C) 1 false), Lg lb S, Ob 0 (.cells [.int .i64 a, .int .i64 b, .int .i64 (C : Int)] 1 false)]) l.length ?_ (by omega) ?_
  · exact ⟨0, _, rfl, rfl, rfl, rfl, rfl, rfl, rfl, rfl, rfl, Nat.zero_le _, nv0, ⟨rfl, rfl, rfl⟩, O4⟩
  clear O4 nv0
  rintro q tm df h5 ⟨i, S, hk, hd, hlen_, g1, g2, g5, g6, g8, g9, hil, nv, hS, O5⟩
  simp only at hd g1 g2 g5 g6 g8 g9 O5
  subst hd
  obtain ⟨w, hg_, rfl⟩ := explode hlen_
  simp only [hg_] at g1 g2 g5 g6 g8 g9
  clear hlen_ hg_
  have hki := hk
  by_cases h0 : i < l.length
  · have h0' : (i : Int) < (l.length : Int) := by omega
    have hi0 : (0 : Int) ≤ (i : Int) := by omega
    have hq7 : l[i]? = some l[i] := List.getElem?_eq_getElem h0
    have okq := ok _ (List.getElem_mem h0)
    generalize l[i] = x at hq7 okq
    simp (disch := first | assumption | omega | (simp only [wkD, oneCell, Option.isSome_some, *]; done) | (simp only [wkE, ne_eq]; omega)) only [g1, g2, g5, g6, g8, g9, h0', wkF, X_region, X_seq, X_block, X_loop, X_cond, Y_un, Y_store, Y_append, Y_makeMap, Y_buildSlice, ibin_shl, ibin_shr, ibin_and, ↓reduceIte, reduceCtorEq, oneCell, setAt, readN, Nat.reduceAdd, Nat.reduceLeDiff, Nat.reduceMul, layAt, Nat.reduceLT, Nat.reduceEqDiff, setParams, Int.reduceLT, Int.reduceLE, Int.reduceGT, Int.reduceGE, Int.reduceEq, Int.reduceNe]
    refine Y_boxO O5 ?_
    intro b10 h6 O6 _
    replace O6 : Has ro h6 (Ob b10 (.cells [.slice none 0 0, .slice none 0 0, .slice none 0 0] 1 false) :: Ob b8 (.cells (sl S.E C) 1 false) :: Lg lb S :: Ob 0 (.cells [.int .i64 a, .int .i64 b, .int .i64 (C : Int)] 1 false) :: []) := O6
    obtain ⟨b1, off1, sp1, c1, hv1, _, rd1⟩ := (V _ _ O6).rd cq_len hq7
    have e1 : pl = some ⟨b1, off1, sp1⟩ := by injection hv1
    subst e1
    obtain ⟨xp, xc, hxv⟩ := okq.s
    have xone : (cq x).all oneCell = true := by unfold cq; rw [hxv]; rfl
    have xcell : cellsOf (.agg (cq x).toArray) = cq x := rfl
    have xset : setAt [Value.int .i64 0, .int .i64 0, .int .i64 0, .int .u32 0, .int .u64 0, .int .i64 0, .slice none 0 0] 0 (cq x) = cq x := rfl
    simp (disch := first | assumption | omega | (simp only [wkD, oneCell, Option.isSome_some, *]; done) | (simp only [wkE, ne_eq]; omega)) only [wkF, X_region, X_block, X_loop, X_cond, Y_un, Y_store, Y_append, Y_makeMap, Y_buildSlice, ibin_shl, ibin_shr, ibin_and, ↓reduceIte, reduceCtorEq, oneCell, setAt, readN, Nat.reduceAdd, Nat.reduceLeDiff, Nat.reduceMul, layAt, Nat.reduceLT, Nat.reduceEqDiff, setParams, Int.reduceLT, Int.reduceLE, Int.reduceGT, Int.reduceGE, Int.reduceEq, Int.reduceNe]
    rw [X_seq]
    simp (disch := first | assumption | omega | (simp only [wkD, oneCell, Option.isSome_some, *]; done) | (simp only [wkE, ne_eq]; omega)) only [h0', hi0, Int.toNat_natCast, rd1, wkF, X_region, X_block, X_loop, X_cond, Y_un, Y_store, Y_append, Y_makeMap, Y_buildSlice, ibin_shl, ibin_shr, ibin_and, ↓reduceIte, reduceCtorEq, oneCell, setAt, readN, Nat.reduceAdd, Nat.reduceLeDiff, Nat.reduceMul, layAt, Nat.reduceLT, Nat.reduceEqDiff, setParams, Int.reduceLT, Int.reduceLE, Int.reduceGT, Int.reduceGE, Int.reduceEq, Int.reduceNe]
    refine Y_boxO O6 ?_
    intro b11 h7 O7 _
    replace O7 : Has ro h7 (Ob b11 (.cells [.int .i64 0, .int .i64 0, .int .i64 0, .int .u32 0, .int .u64 0, .int .i64 0, .slice none 0 0] 1 false) :: Ob b10 (.cells [.slice none 0 0, .slice none 0 0, .slice none 0 0] 1 false) :: Ob b8 (.cells (sl S.E C) 1 false) :: Lg lb S :: Ob 0 (.cells [.int .i64 a, .int .i64 b, .int .i64 (C : Int)] 1 false) :: []) := O7
    have g7 := O7.get 0 rfl
    have p7 := O7.can 0 rfl
    have O8 := O7.set 0 rfl (.cells (cq x) 1 false)
    simp only [List.set_cons_zero] at O8
    simp (disch := first | assumption | omega | (simp only [wkD, oneCell, Option.isSome_some, *]; done) | (simp only [wkE, ne_eq]; omega)) only [g7, p7, xcell, xset, xone, cq_len, wkF, X_region, X_block, X_loop, X_cond, Y_un, Y_store, Y_append, Y_makeMap, Y_buildSlice, ibin_shl, ibin_shr, ibin_and, ↓reduceIte, reduceCtorEq, oneCell, setAt, readN, Nat.reduceAdd, Nat.reduceLeDiff, Nat.reduceMul, layAt, Nat.reduceLT, Nat.reduceEqDiff, setParams, Int.reduceLT, Int.reduceLE, Int.reduceGT, Int.reduceGE, Int.reduceEq, Int.reduceNe]
    clear g7 p7
    replace O8 : Has ro (h7.setB b11 (.cells (cq x) 1 false)) (Lg lb S :: Ob b11 (.cells [.int .i64 x.kd, .int .i64 x.rb, .int .i64 x.cell, .int .u32 x.gen, .int .u64 x.st, .int .i64 x.pr, x.cv] 1 false) :: Ob b10 (.cells [.slice none 0 0, .slice none 0 0, .slice none 0 0] 1 false) :: Ob b8 (.cells (sl S.E C) 1 false) :: Ob 0 (.cells [.int .i64 a, .int .i64 b, .int .i64 (C : Int)] 1 false) :: []) := O8.at 3 rfl
    generalize h7.setB b11 _ = h8 at O8 ⊢
    rw [X_seq]
    clear rd1 O6 O7
    refine X_cut0 (fun s => ∃ S' ws wv pv bv, s.tmps.length = 236 ∧ s.tmps.getD 1 undefV = .slice (some ⟨b1, off1, sp1⟩) l.length cl ∧ s.tmps.getD 2 undefV = .pointer (some ⟨0, 0, none⟩) ∧ s.tmps.getD 5 undefV = .bool true ∧ s.tmps.getD 6 undefV = .pointer (some ⟨lb, 0, none⟩) ∧ s.tmps.getD 8 undefV = .slice (some ⟨b8, 0, none⟩) C C ∧ s.tmps.getD 9 undefV = .int .i64 (i : Int) ∧ s.tmps.getD 10 undefV = .pointer (some ⟨b10, 0, none⟩) ∧ Stw S S' ws ∧ ws.length ≤ 2048 ∧ Has ro s.h [Sc 3 wc wv ws, Dts ws, Lg lb S', Ob b10 (.cells [wv, pv, bv] 1 false), Ob b8 (.cells (sl S.E C) 1 false), Ob 0 (.cells [.int .i64 a, .int .i64 b, .int .i64 (C : Int)] 1 false)]) ?_ ?_
    · have g1 := O8.get 1 rfl
      by_cases d0 : x.kd = 0
      · have d0' : (x.kd = 0) = True := eq_true d0
        simp (disch := first | assumption | omega | (simp only [wkD, oneCell, Option.isSome_some, *]; done) | (simp only [wkE, ne_eq]; omega)) only [g1, d0', wkF, X_region, X_seq, X_block, X_loop, X_cond, Y_un, Y_store, Y_append, Y_makeMap, Y_buildSlice, ibin_shl, ibin_shr, ibin_and, ↓reduceIte, reduceCtorEq, oneCell, setAt, readN, Nat.reduceAdd, Nat.reduceLeDiff, Nat.reduceMul, layAt, Nat.reduceLT, Nat.reduceEqDiff, setParams, Int.reduceLT, Int.reduceLE, Int.reduceGT, Int.reduceGE, Int.reduceEq, Int.reduceNe]
        refine Z_is (place_h' (n := 4989) x.cell x.rb nv.w O8) ?_
        rintro v h9 ⟨rv, e, S', D, rfl, hp, O9⟩
        simp only at O9
        simp (disch := first | assumption | omega | (simp only [wkD, oneCell, Option.isSome_some, *]; done) | (simp only [wkE, ne_eq]; omega)) only [wkF, X_region, X_seq, X_block, X_loop, X_cond, Y_un, Y_store, Y_append, Y_makeMap, Y_buildSlice, ibin_shl, ibin_shr, ibin_and, ↓reduceIte, reduceCtorEq, oneCell, setAt, readN, Nat.reduceAdd, Nat.reduceLeDiff, Nat.reduceMul, layAt, Nat.reduceLT, Nat.reduceEqDiff, setParams, Int.reduceLT, Int.reduceLE, Int.reduceGT, Int.reduceGE, Int.reduceEq, Int.reduceNe]
        refine Y_boxO O9 ?_
        intro b12 h10 O10 _
        replace O10 : Has ro h10 (Ob b12 (.cells [.int .i64 0, .int .i64 0, .slice none 0 0] 1 false) :: Lg lb S' :: D :: Ob b11 (.cells [.int .i64 x.kd, .int .i64 x.rb, .int .i64 x.cell, .int .u32 x.gen, .int .u64 x.st, .int .i64 x.pr, x.cv] 1 false) :: Ob b10 (.cells [.slice none 0 0, .slice none 0 0, .slice none 0 0] 1 false) :: Ob b8 (.cells (sl S.E C) 1 false) :: Ob 0 (.cells [.int .i64 a, .int .i64 b, .int .i64 (C : Int)] 1 false) :: []) := O10
        have g10 := O10.get 0 rfl
        have p10 := O10.can 0 rfl
        rcases stw_pla nv hp with ⟨he, rfl, hst⟩ | ⟨rfl, d, rfl, rfl, hst⟩
        · obtain ⟨cs, rfl, hcs3, hcs1⟩ := pla_rv hp
          have hcs : cellsOf (.agg cs) = cs.toList := rfl
          simp (disch := first | assumption | omega | (simp only [wkD, oneCell, Option.isSome_some, *]; done) | (simp only [wkE, ne_eq]; omega)) only [g10, p10, hcs, hcs3, hcs1, he, wkF, X_region, X_seq, X_block, X_loop, X_cond, Y_box, Y_un, Y_store, Y_append, Y_makeMap, Y_buildSlice, ibin_shl, ibin_shr, ibin_and, ↓reduceIte, reduceCtorEq, oneCell, setAt, readN, Nat.reduceAdd, Nat.reduceLeDiff, Nat.reduceMul, layAt, Nat.reduceLT, Nat.reduceEqDiff, setParams, Int.reduceLT, Int.reduceLE, Int.reduceGT, Int.reduceGE, Int.reduceEq, Int.reduceNe]
          have O11 := O10.set 0 rfl (.cells (setAt [.int .i64 0, .int .i64 0, .slice none 0 0] 0 cs.toList) 1 false)
          simp only [List.set_cons_zero] at O11
          refine mid_in ⟨S', [], .slice none 0 0, .slice none 0 0, .slice none 0 0, rfl, rfl, rfl, rfl, rfl, rfl, rfl, rfl, hst, by decide, ?_⟩
          exact jr0 ((O11.drop.rid 1 rfl).rid 1 rfl)
        · have hcs : cellsOf (.agg (wc ⟨x.cell, ⟨x.rb, 1⟩, d⟩).toArray) = wc ⟨x.cell, ⟨x.rb, 1⟩, d⟩ := rfl
          have hset : setAt [Value.int .i64 0, .int .i64 0, .slice none 0 0] 0 (wc ⟨x.cell, ⟨x.rb, 1⟩, d⟩) = wc ⟨x.cell, ⟨x.rb, 1⟩, d⟩ := rfl
          have O11 := O10.set 0 rfl (.cells (wc ⟨x.cell, ⟨x.rb, 1⟩, d⟩) 1 false)
          simp only [List.set_cons_zero] at O11
          have g11 := O11.get 0 rfl
          have hrd : readC (some (.cells (wc ⟨x.cell, ⟨x.rb, 1⟩, d⟩) 1 false)) 0 3 = some (wc ⟨x.cell, ⟨x.rb, 1⟩, d⟩) := rfl
          simp (disch := first | assumption | omega | (simp only [wkD, oneCell, Option.isSome_some, *]; done) | (simp only [wkE, ne_eq]; omega)) only [g10, p10, hcs, hset, wc_one, wc_len, g11, hrd, wkF, X_region, X_seq, X_block, X_loop, X_cond, Y_box, Y_un, Y_store, Y_append, Y_makeMap, ibin_shl, ibin_shr, ibin_and, ↓reduceIte, reduceCtorEq, oneCell, setAt, readN, Nat.reduceAdd, Nat.reduceLeDiff, Nat.reduceMul, layAt, Nat.reduceLT, Nat.reduceEqDiff, setParams, Int.reduceLT, Int.reduceLE, Int.reduceGT, Int.reduceGE, Int.reduceEq, Int.reduceNe]
          refine Y_buildSliceO O11 (cs := wc ⟨x.cell, ⟨x.rb, 1⟩, d⟩) rfl ?_
          intro b13 h13 O13 _
          have g13 := O13.get 5 rfl
          have p13 := O13.can 5 rfl
          simp (disch := first | assumption | omega | (simp only [wkD, oneCell, Option.isSome_some, *]; done) | (simp only [wkE, ne_eq]; omega)) only [g13, p13, slI, wkF, X_region, X_seq, X_block, X_loop, X_cond, Y_box, Y_un, Y_store, Y_append, Y_makeMap, Y_buildSlice, ibin_shl, ibin_shr, ibin_and, ↓reduceIte, reduceCtorEq, oneCell, setAt, readN, Nat.reduceAdd, Nat.reduceLeDiff, Nat.reduceMul, layAt, Nat.reduceLT, Nat.reduceEqDiff, setParams, Int.reduceLT, Int.reduceLE, Int.reduceGT, Int.reduceGE, Int.reduceEq, Int.reduceNe]
          have O14 := O13.set 5 rfl (.cells [.slice (some ⟨b13, 0, none⟩) 1 1, .slice none 0 0, .slice none 0 0] 1 false)
          simp only [List.set_cons_succ, List.set_cons_zero] at O14
          refine mid_in ⟨S', [Wr.mk x.cell (En.mk x.rb 1) d], .slice (some ⟨b13, 0, none⟩) 1 1, .slice none 0 0, .slice none 0 0, rfl, rfl, rfl, rfl, rfl, rfl, rfl, rfl, hst, (by show 1 ≤ 2048; omega), ?_⟩
          exact (jr1 (w := Wr.mk x.cell (En.mk x.rb 1) d) ((O14.rid 1 rfl).at 2 rfl).swap2).rid 3 rfl
      by_cases d1 : x.kd = 1
      · have d1' : (x.kd = 1) = True := eq_true d1
        simp (disch := first | assumption | omega | (simp only [wkD, oneCell, Option.isSome_some, *]; done) | (simp only [wkE, ne_eq]; omega)) only [g1, d1', d0, wkF, X_region, X_seq, X_block, X_loop, X_cond, Y_box, Y_un, Y_store, Y_append, Y_makeMap, Y_buildSlice, ibin_shl, ibin_shr, ibin_and, ↓reduceIte, reduceCtorEq, oneCell, setAt, readN, Nat.reduceAdd, Nat.reduceLeDiff, Nat.reduceMul, layAt, Nat.reduceLT, Nat.reduceEqDiff, setParams, Int.reduceLT, Int.reduceLE, Int.reduceGT, Int.reduceGE, Int.reduceEq, Int.reduceNe]
        refine Z_is (renewed_h (n := 4989) x.rb nv.w (by omega) O8) ?_
        rintro v h9 ⟨S', hp, O9⟩
        simp only at O9
        simp (disch := first | assumption | omega | (simp only [wkD, oneCell, Option.isSome_some, *]; done) | (simp only [wkE, ne_eq]; omega)) only [wkF, X_region, X_seq, X_block, X_loop, X_cond, Y_box, Y_un, Y_store, Y_append, Y_makeMap, Y_buildSlice, ibin_shl, ibin_shr, ibin_and, ↓reduceIte, reduceCtorEq, oneCell, setAt, readN, Nat.reduceAdd, Nat.reduceLeDiff, Nat.reduceMul, layAt, Nat.reduceLT, Nat.reduceEqDiff, setParams, Int.reduceLT, Int.reduceLE, Int.reduceGT, Int.reduceGE, Int.reduceEq, Int.reduceNe]
        refine mid_in ⟨S', [], .slice none 0 0, .slice none 0 0, .slice none 0 0, rfl, rfl, rfl, rfl, rfl, rfl, rfl, rfl, stw_ren nv hp, by decide, ?_⟩
        exact jr0 (O9.rid 1 rfl)
      by_cases d2 : x.kd = 2
      · have d2' : (x.kd = 2) = True := eq_true d2
        simp (disch := first | assumption | omega | (simp only [wkD, oneCell, Option.isSome_some, *]; done) | (simp only [wkE, ne_eq]; omega)) only [g1, d2', d0, d1, wkF, X_region, X_seq, X_block, X_loop, X_cond, Y_box, Y_un, Y_store, Y_append, Y_makeMap, Y_buildSlice, ibin_shl, ibin_shr, ibin_and, ↓reduceIte, reduceCtorEq, oneCell, setAt, readN, Nat.reduceAdd, Nat.reduceLeDiff, Nat.reduceMul, layAt, Nat.reduceLT, Nat.reduceEqDiff, setParams, Int.reduceLT, Int.reduceLE, Int.reduceGT, Int.reduceGE, Int.reduceEq, Int.reduceNe]
        refine Z_is (status_h (n := 4979) (L := x.L) x.rb nv.w (by omega) (by have := hcl40 x (List.mem_of_getElem? hq7); omega) ⟨_, _, _, hxv⟩ (fun M h O => okq.v _ h O) O8) ?_
        rintro v h9 ⟨wv, pv, bv, e, S', o', rfl, hp, O9⟩
        simp only at O9
        obtain ⟨⟨q1, c2, rfl⟩, ⟨q2, l2, c3, rfl⟩, ⟨q3, l3, c4, rfl⟩, O10⟩ := oo_open O9
        have g10 := O10.get 4 rfl
        have p10 := O10.can 4 rfl
        simp (disch := first | assumption | omega | (simp only [wkD, oneCell, Option.isSome_some, *]; done) | (simp only [wkE, ne_eq]; omega)) only [g10, p10, wkF, X_region, X_seq, X_block, X_loop, X_cond, Y_box, Y_un, Y_store, Y_append, Y_makeMap, Y_buildSlice, ibin_shl, ibin_shr, ibin_and, ↓reduceIte, reduceCtorEq, oneCell, setAt, readN, Nat.reduceAdd, Nat.reduceLeDiff, Nat.reduceMul, layAt, Nat.reduceLT, Nat.reduceEqDiff, setParams, Int.reduceLT, Int.reduceLE, Int.reduceGT, Int.reduceGE, Int.reduceEq, Int.reduceNe]
        have O11 := O10.set 4 rfl (.cells [.slice q1 o'.ws.length c2, .slice q2 l2 c3, .slice q3 l3 c4] 1 false)
        simp only [List.set_cons_succ, List.set_cons_zero] at O11
        refine mid_in ⟨S', o'.ws, .slice q1 o'.ws.length c2, .slice q2 l2 c3, .slice q3 l3 c4, rfl, rfl, rfl, rfl, rfl, rfl, rfl, rfl, stw_stat nv hp, len_stat nv.w hp, O11.rid 3 rfl⟩
      by_cases d3 : x.kd = 3
      · have d3' : (x.kd = 3) = True := eq_true d3
        simp (disch := first | assumption | omega | (simp only [wkD, oneCell, Option.isSome_some, *]; done) | (simp only [wkE, ne_eq]; omega)) only [g1, d3', d0, d1, d2, wkF, X_region, X_seq, X_block, X_loop, X_cond, Y_box, Y_un, Y_store, Y_append, Y_makeMap, Y_buildSlice, ibin_shl, ibin_shr, ibin_and, ↓reduceIte, reduceCtorEq, oneCell, setAt, readN, Nat.reduceAdd, Nat.reduceLeDiff, Nat.reduceMul, layAt, Nat.reduceLT, Nat.reduceEqDiff, setParams, Int.reduceLT, Int.reduceLE, Int.reduceGT, Int.reduceGE, Int.reduceEq, Int.reduceNe]
        refine Z_is (request_h (n := 4988) ⟨x.rb, x.st, x.pr⟩ x.cell nv.w (by omega) O8) ?_
        rintro v h9 ⟨wv, pv, bv, e, S', o', rfl, hp, O9⟩
        simp only at O9
        obtain ⟨⟨q1, c2, rfl⟩, ⟨q2, l2, c3, rfl⟩, ⟨q3, l3, c4, rfl⟩, O10⟩ := oo_open O9
        have g10 := O10.get 4 rfl
        have p10 := O10.can 4 rfl
        simp (disch := first | assumption | omega | (simp only [wkD, oneCell, Option.isSome_some, *]; done) | (simp only [wkE, ne_eq]; omega)) only [g10, p10, wkF, X_region, X_seq, X_block, X_loop, X_cond, Y_box, Y_un, Y_store, Y_append, Y_makeMap, Y_buildSlice, ibin_shl, ibin_shr, ibin_and, ↓reduceIte, reduceCtorEq, oneCell, setAt, readN, Nat.reduceAdd, Nat.reduceLeDiff, Nat.reduceMul, layAt, Nat.reduceLT, Nat.reduceEqDiff, setParams, Int.reduceLT, Int.reduceLE, Int.reduceGT, Int.reduceGE, Int.reduceEq, Int.reduceNe]
        have O11 := O10.set 4 rfl (.cells [.slice q1 o'.ws.length c2, .slice q2 l2 c3, .slice q3 l3 c4] 1 false)
        simp only [List.set_cons_succ, List.set_cons_zero] at O11
        refine mid_in ⟨S', o'.ws, .slice q1 o'.ws.length c2, .slice q2 l2 c3, .slice q3 l3 c4, rfl, rfl, rfl, rfl, rfl, rfl, rfl, rfl, stw_req nv hp, len_req hp, O11.rid 3 rfl⟩
      by_cases d4 : x.kd = 4
      · have d4' : (x.kd = 4) = True := eq_true d4
        simp (disch := first | assumption | omega | (simp only [wkD, oneCell, Option.isSome_some, *]; done) | (simp only [wkE, ne_eq]; omega)) only [g1, d4', d0, d1, d2, d3, wkF, X_region, X_seq, X_block, X_loop, X_cond, Y_box, Y_un, Y_store, Y_append, Y_makeMap, Y_buildSlice, ibin_shl, ibin_shr, ibin_and, ↓reduceIte, reduceCtorEq, oneCell, setAt, readN, Nat.reduceAdd, Nat.reduceLeDiff, Nat.reduceMul, layAt, Nat.reduceLT, Nat.reduceEqDiff, setParams, Int.reduceLT, Int.reduceLE, Int.reduceGT, Int.reduceGE, Int.reduceEq, Int.reduceNe]
        refine Z_is (release_h (n := 4992) x.rb x.cell x.gen nv.w (by omega) O8) ?_
        rintro v h9 ⟨wv, pv, bv, e, S', o', rfl, hp, O9⟩
        simp only at O9
        obtain ⟨⟨q1, c2, rfl⟩, ⟨q2, l2, c3, rfl⟩, ⟨q3, l3, c4, rfl⟩, O10⟩ := oo_open O9
        have g10 := O10.get 4 rfl
        have p10 := O10.can 4 rfl
        simp (disch := first | assumption | omega | (simp only [wkD, oneCell, Option.isSome_some, *]; done) | (simp only [wkE, ne_eq]; omega)) only [g10, p10, wkF, X_region, X_seq, X_block, X_loop, X_cond, Y_box, Y_un, Y_store, Y_append, Y_makeMap, Y_buildSlice, ibin_shl, ibin_shr, ibin_and, ↓reduceIte, reduceCtorEq, oneCell, setAt, readN, Nat.reduceAdd, Nat.reduceLeDiff, Nat.reduceMul, layAt, Nat.reduceLT, Nat.reduceEqDiff, setParams, Int.reduceLT, Int.reduceLE, Int.reduceGT, Int.reduceGE, Int.reduceEq, Int.reduceNe]
        have O11 := O10.set 4 rfl (.cells [.slice q1 o'.ws.length c2, .slice q2 l2 c3, .slice q3 l3 c4] 1 false)
        simp only [List.set_cons_succ, List.set_cons_zero] at O11
        refine mid_in ⟨S', o'.ws, .slice q1 o'.ws.length c2, .slice q2 l2 c3, .slice q3 l3 c4, rfl, rfl, rfl, rfl, rfl, rfl, rfl, rfl, stw_rel nv hp, len_rel nv.w hp, O11.rid 3 rfl⟩
      simp (disch := first | assumption | omega | (simp only [wkD, oneCell, Option.isSome_some, *]; done) | (simp only [wkE, ne_eq]; omega)) only [g1, d0, d1, d2, d3, d4, wkF, X_region, X_seq, X_block, X_loop, X_cond, Y_box, Y_un, Y_store, Y_append, Y_makeMap, Y_buildSlice, ibin_shl, ibin_shr, ibin_and, ↓reduceIte, reduceCtorEq, oneCell, setAt, readN, Nat.reduceAdd, Nat.reduceLeDiff, Nat.reduceMul, layAt, Nat.reduceLT, Nat.reduceEqDiff, setParams, Int.reduceLT, Int.reduceLE, Int.reduceGT, Int.reduceGE, Int.reduceEq, Int.reduceNe]
      refine mid_in ⟨S, [], .slice none 0 0, .slice none 0 0, .slice none 0 0, rfl, rfl, rfl, rfl, rfl, rfl, rfl, rfl, Stw.refl nv, by decide, ?_⟩
      exact jr0 (O8.rid 1 rfl)
    clear O8 g1 g2 g5 g6 g8 g9 w
    rintro tm h9 ⟨S', ws, wv, pv, bv, hlen_, g1, g2, g5, g6, g8, g9, g10, hst, hwl, O9⟩
    simp only at g1 g2 g5 g6 g8 g9 g10 O9
    obtain ⟨w, hg_, rfl⟩ := explode hlen_
    simp only [hg_] at g1 g2 g5 g6 g8 g9 g10
    clear hlen_ hg_
    obtain ⟨pw, cw, rfl, _⟩ := O9.scVal 0 rfl
    simp (disch := first | assumption | omega | (simp only [wkD, oneCell, Option.isSome_some, *]; done) | (simp only [wkE, ne_eq]; omega)) only [kont_code, wkF, X_region, X_seq, X_block, X_loop, X_cond, Y_box, Y_un, Y_store, Y_append, Y_makeMap, Y_buildSlice, ibin_shl, ibin_shr, ibin_and, ↓reduceIte, reduceCtorEq, oneCell, setAt, readN, Nat.reduceAdd, Nat.reduceLeDiff, Nat.reduceMul, layAt, Nat.reduceLT, Nat.reduceEqDiff, setParams, Int.reduceLT, Int.reduceLE, Int.reduceGT, Int.reduceGE, Int.reduceEq, Int.reduceNe]
    refine L_is (fun q s => ∃ (j : Nat), q = ws.length - j ∧ s.defers = [] ∧ s.tmps.length = 236 ∧ s.tmps.getD 1 undefV = .slice (some ⟨b1, off1, sp1⟩) l.length cl ∧ s.tmps.getD 2 undefV = .pointer (some ⟨0, 0, none⟩) ∧ s.tmps.getD 5 undefV = .bool true ∧ s.tmps.getD 6 undefV = .pointer (some ⟨lb, 0, none⟩) ∧ s.tmps.getD 8 undefV = .slice (some ⟨b8, 0, none⟩) C C ∧ s.tmps.getD 9 undefV = .int .i64 (i : Int) ∧ s.tmps.getD 10 undefV = .pointer (some ⟨b10, 0, none⟩) ∧ s.tmps.getD 14 undefV = .int .i64 (j : Int) ∧ j ≤ ws.length ∧ Has ro s.h [Ob b8 (.cells (sl (apw S.E (ws.take j)) C) 1 false), Sc 3 wc (.slice pw ws.length cw) ws, Dts ws, Lg lb S', Ob b10 (.cells [.slice pw ws.length cw, pv, bv] 1 false), Ob 0 (.cells [.int .i64 a, .int .i64 b, .int .i64 (C : Int)] 1 false)]) ws.length ?_ (by omega) ?_
    · exact ⟨0, rfl, rfl, rfl, g1, g2, g5, g6, g8, g9, g10, rfl, Nat.zero_le _, (O9.at 4 rfl)⟩
    clear O9 g1 g2 g5 g6 g8 g9 g10 w
    rintro q tm df h10 ⟨j, hk, hd, hlen_, g1, g2, g5, g6, g8, g9, g10, g14, hjl, O10⟩
    simp only at hd g1 g2 g5 g6 g8 g9 g10 g14 O10
    subst hd
    obtain ⟨w, hg_, rfl⟩ := explode hlen_
    simp only [hg_] at g1 g2 g5 g6 g8 g9 g10 g14
    clear hlen_ hg_
    have hkj := hk
    have gt := O10.get 4 rfl
    by_cases hj : j < ws.length
    · have hj' : (j : Int) < (ws.length : Int) := by omega
      have hj0 : (0 : Int) ≤ (j : Int) := by omega
      have hqj : ws[j]? = some ws[j] := List.getElem?_eq_getElem hj
      have hm : ws[j] ∈ ws := List.getElem_mem hj
      have hbs := vBS_vw (Has.dtsVw (O10.at 2 rfl) _ hm)
      have his := hst.2.2.2 _ hm
      generalize ws[j] = u at hqj hbs his
      obtain ⟨N, hN⟩ : ∃ N : Nat, u.c = (N : Int) := ⟨u.c.toNat, by have := his.2.1; omega⟩
      have hNC : N < C := by have := his.2.2.1; have := hS.2.2; omega
      obtain ⟨b2, off2, sp2, c2, hv2, k2, _⟩ := (O10.vw 1 rfl).rd wc_len hqj
      have e2 : pw = some ⟨b2, off2, sp2⟩ := by injection hv2
      subst e2
      have r21 := k2 1 1 (by decide)
      have r22 := k2 2 1 (by decide)
      have q1 : ∀ w : Wr, readN (wc w) 1 1 = some [.int .i64 w.c] := fun _ => rfl
      have q2 : ∀ w : Wr, readN (wc w) 2 1 = some [dvv w.d] := fun _ => rfl
      rw [q1, hN] at r21
      rw [q2] at r22
      have gz := O10.get 5 rfl
      have gs := O10.get 0 rfl
      have ps := O10.can 0 rfl
      have n0 : ¬ (N : Int) < 0 := by omega
      have n1 : ¬ (N : Int) ≥ (C : Int) := by omega
      have n2 : (0 : Int) ≤ (N : Int) := by omega
      have n3 : (N : Int) < (C : Int) := by omega
      have yj : IntKind.i64.wrap ((j : Int) + 1) = ((j + 1 : Nat) : Int) := by rw [wrap_i64 (by omega) (by omega)]; omega
      have hset : (sl (apw S.E (ws.take j)) C).set N (.string (strB (bE u.e))) = sl (apw S.E (ws.take (j + 1))) C := (sl_set _ hNC u.e).trans (apw_take _ hqj hN C)
      have hcs : cellsOf (.string (strB (bE u.e))) = [.string (strB (bE u.e))] := rfl
      have hl1 : ([.string (strB (bE u.e))] : List Value).length = 1 := rfl
      have hal : ([.string (strB (bE u.e))] : List Value).all oneCell = true := rfl
      have hN1 : (N + 1 ≤ C) = True := eq_true hNC
      have O11 := O10.set 0 rfl (.cells (sl (apw S.E (ws.take (j + 1))) C) 1 false)
      simp only [List.set_cons_zero] at O11
      simp (disch := first | assumption | omega | (simp only [wkD, oneCell, Option.isSome_some, *]; done) | (simp only [wkE, ne_eq]; omega)) only [g1, g2, g5, g6, g8, g9, g10, g14, gt, hj', hj0, Int.toNat_natCast, r21, r22, n0, n1, n2, n3, gz, Y_bytesStr, hbs, gs, ps, sl_len, hcs, hl1, hal, hN1, Nat.mul_one, hset, yj, wkF, X_region, X_seq, X_block, X_loop, X_cond, Y_box, Y_un, Y_store, Y_append, Y_makeMap, Y_buildSlice, ibin_shl, ibin_shr, ibin_and, ↓reduceIte, reduceCtorEq, oneCell, setAt, readN, Nat.reduceAdd, Nat.reduceLeDiff, Nat.reduceMul, layAt, Nat.reduceLT, Nat.reduceEqDiff, setParams, Int.reduceLT, Int.reduceLE, Int.reduceGT, Int.reduceGE, Int.reduceEq, Int.reduceNe]
      exact Is_in ⟨ws.length - (j + 1), sub_lt' hkj hj, j + 1, rfl, rfl, rfl, rfl, rfl, rfl, rfl, rfl, rfl, rfl, rfl, hj, O11⟩
    have hj' : ¬ (j : Int) < (ws.length : Int) := by omega
    have yi : IntKind.i64.wrap ((i : Int) + 1) = ((i + 1 : Nat) : Int) := by rw [wrap_i64 (by omega) (by omega)]; omega
    simp (disch := first | assumption | omega | (simp only [wkD, oneCell, Option.isSome_some, *]; done) | (simp only [wkE, ne_eq]; omega)) only [g1, g2, g5, g6, g8, g9, g10, g14, gt, hj', wkF, X_region, X_seq, X_block, X_loop, X_cond, Y_box, Y_un, Y_store, Y_append, Y_makeMap, Y_buildSlice, ibin_shl, ibin_shr, ibin_and, ↓reduceIte, reduceCtorEq, oneCell, setAt, readN, Nat.reduceAdd, Nat.reduceLeDiff, Nat.reduceMul, layAt, Nat.reduceLT, Nat.reduceEqDiff, setParams, Int.reduceLT, Int.reduceLE, Int.reduceGT, Int.reduceGE, Int.reduceEq, Int.reduceNe]
    refine Is_in ?_
    simp (disch := first | assumption | omega | (simp only [wkD, oneCell, Option.isSome_some, *]; done) | (simp only [wkE, ne_eq]; omega)) only [g1, g2, g5, g6, g8, g9, g10, g14, yi, wkF, X_region, X_seq, X_block, X_loop, X_cond, Y_box, Y_un, Y_store, Y_append, Y_makeMap, Y_buildSlice, ibin_shl, ibin_shr, ibin_and, ↓reduceIte, reduceCtorEq, oneCell, setAt, readN, Nat.reduceAdd, Nat.reduceLeDiff, Nat.reduceMul, layAt, Nat.reduceLT, Nat.reduceEqDiff, setParams, Int.reduceLT, Int.reduceLE, Int.reduceGT, Int.reduceGE, Int.reduceEq, Int.reduceNe]
    refine Is_in ⟨l.length - (i + 1), sub_lt' hki h0, i + 1, S', rfl, rfl, rfl, rfl, rfl, rfl, rfl, rfl, rfl, h0, hst.1, ⟨hst.2.1.1.trans hS.1, hst.2.1.2.1.trans hS.2.1, hst.2.1.2.2.trans hS.2.2⟩, ?_⟩
    have hjw : j = ws.length := by omega
    have O11 := ((O10.rid 4 rfl).rid 2 rfl).rid 1 rfl
    rw [hjw, List.take_length, sl_congr (fun y => (hst.2.2.1 y).symm) C] at O11
    exact O11
  have h0' : ¬ (i : Int) < (l.length : Int) := by omega
  simp (disch := first | assumption | omega | (simp only [wkD, oneCell, Option.isSome_some, *]; done) | (simp only [wkE, ne_eq]; omega)) only [g1, g2, g5, g6, g8, g9, h0', wkF, X_region, X_seq, X_block, X_loop, X_cond, Y_box, Y_un, Y_store, Y_append, Y_makeMap, Y_buildSlice, ibin_shl, ibin_shr, ibin_and, ↓reduceIte, reduceCtorEq, oneCell, setAt, readN, Nat.reduceAdd, Nat.reduceLeDiff, Nat.reduceMul, layAt, Nat.reduceLT, Nat.reduceEqDiff, setParams, Int.reduceLT, Int.reduceLE, Int.reduceGT, Int.reduceGE, Int.reduceEq, Int.reduceNe]
  refine Is_in ?_
  simp (disch := first | assumption | omega | (simp only [wkD, oneCell, Option.isSome_some, *]; done) | (simp only [wkE, ne_eq]; omega)) only [g1, g2, g5, g6, g8, g9, wkF, X_region, X_seq, X_block, X_loop, X_cond, Y_box, Y_un, Y_store, Y_append, Y_makeMap, Y_buildSlice, ibin_shl, ibin_shr, ibin_and, ↓reduceIte, reduceCtorEq, oneCell, setAt, readN, Nat.reduceAdd, Nat.reduceLeDiff, Nat.reduceMul, layAt, Nat.reduceLT, Nat.reduceEqDiff, setParams, Int.reduceLT, Int.reduceLE, Int.reduceGT, Int.reduceGE, Int.reduceEq, Int.reduceNe]
  refine Z_is (records_h (n := 4979) nv.w (by omega) (O5.at 1 rfl)) ?_
  rintro v16 h6 O6
  simp only at O6
  obtain ⟨ws, hws, O6⟩ := Has.rvOpen O6
  obtain ⟨pw, cw, rfl, _⟩ := O6.scVal 0 rfl
  have hwl : ws.length ≤ 1024 := by
    have h1 := recl_cnt nv hws hS.2.2
    have h2 := cntE_le S C
    omega
  replace O6 : Has ro h6 (Sc 3 wc (.slice pw ws.length cw) ws :: Dts ws :: Lg lb S :: Ob b8 (.cells (sl S.E C) 1 false) :: Ob 0 (.cells [.int .i64 a, .int .i64 b, .int .i64 (C : Int)] 1 false) :: []) := O6
  have gz := O6.get 4 rfl
  simp (disch := first | assumption | omega | (simp only [wkD, oneCell, Option.isSome_some, *]; done) | (simp only [wkE, ne_eq]; omega)) only [gz, wkF, X_region, X_seq, X_block, X_loop, X_cond, Y_box, Y_un, Y_store, Y_append, Y_makeMap, Y_buildSlice, ibin_shl, ibin_shr, ibin_and, ↓reduceIte, reduceCtorEq, oneCell, setAt, readN, Nat.reduceAdd, Nat.reduceLeDiff, Nat.reduceMul, layAt, Nat.reduceLT, Nat.reduceEqDiff, setParams, Int.reduceLT, Int.reduceLE, Int.reduceGT, Int.reduceGE, Int.reduceEq, Int.reduceNe]
  have hLl : (ws.map toR).length ≤ 1024 := by rw [List.length_map]; exact hwl
  refine Z_is (load_h (n := 4990) (L := ws.map toR) (by omega) (by omega) scVw (okR_of O6) O6) ?_
  rintro v17 h7 hv
  have hrk := recl_rk nv hws
  have hlds := lds_recl nv S.N (ws.map toR) (Nat.le_refl _) hrk
  rw [hS.1, hS.2.1, hS.2.2] at hlds
  rcases hv with ⟨hno, _⟩ | ⟨_, hno, _⟩ | ⟨_, S2, lb2, hS2, rfl, O7⟩
  · exact absurd hsz hno
  · rw [hlds] at hno
    cases hno
  rw [hlds] at hS2
  have hS2' := Option.some.inj hS2
  subst hS2'
  simp only at O7
  simp (disch := first | assumption | omega | (simp only [wkD, oneCell, Option.isSome_some, *]; done) | (simp only [wkE, ne_eq]; omega)) only [wkF, X_region, X_seq, X_block, X_loop, X_cond, Y_box, Y_un, Y_store, Y_append, Y_makeMap, Y_buildSlice, ibin_shl, ibin_shr, ibin_and, ↓reduceIte, reduceCtorEq, oneCell, setAt, readN, Nat.reduceAdd, Nat.reduceLeDiff, Nat.reduceMul, layAt, Nat.reduceLT, Nat.reduceEqDiff, setParams, Int.reduceLT, Int.reduceLE, Int.reduceGT, Int.reduceGE, Int.reduceEq, Int.reduceNe]
  refine Z_is (records_h (n := 4979) (lw_wf nv) (by omega) O7) ?_
  rintro v172 h8 O8
  simp only at O8
  rw [recl_lw' nv] at O8
  obtain ⟨ws1, hws1, O8⟩ := Has.rvOpen O8
  obtain ⟨pw1, cw1, rfl, _⟩ := O8.scVal 0 rfl
  have hrk1 := recl_rk nv hws1
  have hl1 : ws1.length = ws.length := by
    have := congrArg List.length (hws1.trans hws.symm)
    simpa using this
  replace O8 : Has ro h8 (Sc 3 wc (.slice pw1 ws1.length cw1) ws1 :: Dts ws1 :: Lg lb2 (lw S (recl S S.N)) :: Sc 3 wc (.slice pw ws.length cw) ws :: Dts ws :: Lg lb S :: Ob b8 (.cells (sl S.E C) 1 false) :: Ob 0 (.cells [.int .i64 a, .int .i64 b, .int .i64 (C : Int)] 1 false) :: []) := O8
  have va := Vw.mapV toR (O8.vw 0 rfl) wc_rq
  have vb := Vw.mapV toR (O8.vw 3 rfl) wc_rq
  have da := Has.dtsVw (O8.at 1 rfl)
  have db := Has.dtsVw (O8.at 4 rfl)
  simp (disch := first | assumption | omega | (simp only [wkD, oneCell, Option.isSome_some, *]; done) | (simp only [wkE, ne_eq]; omega)) only [wkF, X_region, X_seq, X_block, X_loop, X_cond, Y_box, Y_un, Y_store, Y_append, Y_makeMap, Y_buildSlice, ibin_shl, ibin_shr, ibin_and, ↓reduceIte, reduceCtorEq, oneCell, setAt, readN, Nat.reduceAdd, Nat.reduceLeDiff, Nat.reduceMul, layAt, Nat.reduceLT, Nat.reduceEqDiff, setParams, Int.reduceLT, Int.reduceLE, Int.reduceGT, Int.reduceGE, Int.reduceEq, Int.reduceNe]
  refine Z_is (samerec_h (n := 4998) (A := ws1.map toR) (B := ws.map toR) (by rw [List.length_map]; omega) (by rw [List.length_map]; omega) (hrk1.trans hrk.symm) va vb (fun x hx => by
    obtain ⟨w, hw, rfl⟩ := List.mem_map.1 hx
    exact da w hw) (fun x hx => by
    obtain ⟨w, hw, rfl⟩ := List.mem_map.1 hx
    exact db w hw)) ?_
  rintro _ _ hh
  cases hh
  clear va vb da O7 O6 gz O5
  simp (disch := first | assumption | omega | (simp only [wkD, oneCell, Option.isSome_some, *]; done) | (simp only [wkE, ne_eq]; omega)) only [wkF, X_region, X_seq, X_block, X_loop, X_cond, Y_box, Y_un, Y_store, Y_append, Y_makeMap, Y_buildSlice, ibin_shl, ibin_shr, ibin_and, ↓reduceIte, reduceCtorEq, oneCell, setAt, readN, Nat.reduceAdd, Nat.reduceLeDiff, Nat.reduceMul, layAt, Nat.reduceLT, Nat.reduceEqDiff, setParams, Int.reduceLT, Int.reduceLE, Int.reduceGT, Int.reduceGE, Int.reduceEq, Int.reduceNe]
  refine L_is (fun q s => ∃ (j : Nat), q = ws.length - j ∧ s.defers = [] ∧ s.tmps.length = 236 ∧ s.tmps.getD 2 undefV = .pointer (some ⟨0, 0, none⟩) ∧ s.tmps.getD 5 undefV = .bool true ∧ s.tmps.getD 8 undefV = .slice (some ⟨b8, 0, none⟩) C C ∧ s.tmps.getD 16 undefV = .slice pw ws.length cw ∧ s.tmps.getD 19 undefV = .int .i64 0 ∧ s.tmps.getD 20 undefV = .int .i64 (j : Int) ∧ j ≤ ws.length ∧ s.h = h8) ws.length ?_ (by omega) ?_
  · exact ⟨0, rfl, rfl, rfl, rfl, rfl, rfl, rfl, rfl, rfl, Nat.zero_le _, rfl⟩
  clear g1 g2 g5 g6 g8 g9 w
  rintro q tm df h9 ⟨j, hk, hd, hlen_, g2, g5, g8, g16, g19, g20, hjl, hh⟩
  simp only at hd g2 g5 g8 g16 g19 g20 hh
  subst hd
  obtain ⟨w, hg_, rfl⟩ := explode hlen_
  simp only [hg_] at g2 g5 g8 g16 g19 g20
  clear hlen_ hg_
  subst hh
  have gz := O8.get 7 rfl
  have gs := O8.get 6 rfl
  by_cases hj : j < ws.length
  · have hj' : (j : Int) < (ws.length : Int) := by omega
    have hj0 : (0 : Int) ≤ (j : Int) := by omega
    have hqj : ws[j]? = some ws[j] := List.getElem?_eq_getElem hj
    have hm : ws[j] ∈ ws := List.getElem_mem hj
    have hbs := vBS_vw (db _ hm)
    obtain ⟨w0, w1, w2⟩ := recl_w nv hws hm
    generalize ws[j] = u at hqj hbs w0 w1 w2
    obtain ⟨N, hN⟩ : ∃ N : Nat, u.c = (N : Int) := ⟨u.c.toNat, by omega⟩
    have hNC : N < C := by have := hS.2.2; omega
    obtain ⟨b2, off2, sp2, c2, hv2, k2, _⟩ := (O8.vw 3 rfl).rd wc_len hqj
    have e2 : pw = some ⟨b2, off2, sp2⟩ := by injection hv2
    subst e2
    have r21 := k2 1 1 (by decide)
    have r22 := k2 2 1 (by decide)
    have q1 : ∀ w : Wr, readN (wc w) 1 1 = some [.int .i64 w.c] := fun _ => rfl
    have q2 : ∀ w : Wr, readN (wc w) 2 1 = some [dvv w.d] := fun _ => rfl
    rw [q1, hN] at r21
    rw [q2] at r22
    have rs := sl_rd S.E (z := 1) (t := false) hNC
    rw [← gs, ← hN, w2] at rs
    unfold sE at rs
    have n0 : ¬ (N : Int) < 0 := by omega
    have n1 : ¬ (N : Int) ≥ (C : Int) := by omega
    have n2 : (0 : Int) ≤ (N : Int) := by omega
    have n3 : (N : Int) < (C : Int) := by omega
    have yj : IntKind.i64.wrap ((j : Int) + 1) = ((j + 1 : Nat) : Int) := by rw [wrap_i64 (by omega) (by omega)]; omega
    simp (disch := first | assumption | omega | (simp only [wkD, oneCell, Option.isSome_some, *]; done) | (simp only [wkE, ne_eq]; omega)) only [g2, g5, g8, g16, g19, g20, hj', wkF, X_region, X_seq, X_block, X_loop, X_cond, Y_box, Y_un, Y_store, Y_append, Y_makeMap, Y_buildSlice, ibin_shl, ibin_shr, ibin_and, ↓reduceIte, reduceCtorEq, oneCell, setAt, readN, Nat.reduceAdd, Nat.reduceLeDiff, Nat.reduceMul, layAt, Nat.reduceLT, Nat.reduceEqDiff, setParams, Int.reduceLT, Int.reduceLE, Int.reduceGT, Int.reduceGE, Int.reduceEq, Int.reduceNe]
    refine X_drawn _ fun an => ?_
    simp (maxSteps := 4000000) (disch := first | assumption | omega | (simp only [wkD, oneCell, Option.isSome_some, *]; done) | (simp only [wkE, ne_eq]; omega)) only [g2, g5, g8, g16, g19, g20, hj', hj0, Int.toNat_natCast, r21, r22, n0, n1, n2, n3, gz, rs, D_bytesStrF, vBS_seen, hbs, str_ne, yj, Nat.mul_one, Nat.zero_add, hNC, wkF, X_region, X_seq, X_block, X_loop, X_cond, Y_box, Y_un, Y_store, Y_append, Y_makeMap, Y_buildSlice, ibin_shl, ibin_shr, ibin_and, ↓reduceIte, reduceCtorEq, oneCell, setAt, readN, Nat.reduceAdd, Nat.reduceLeDiff, Nat.reduceMul, layAt, Nat.reduceLT, Nat.reduceEqDiff, setParams, Int.reduceLT, Int.reduceLE, Int.reduceGT, Int.reduceGE, Int.reduceEq, Int.reduceNe]
    exact Is_in ⟨ws.length - (j + 1), sub_lt' hk hj, j + 1, rfl, rfl, rfl, rfl, rfl, rfl, rfl, rfl, rfl, hj, rfl⟩
  have hj' : ¬ (j : Int) < (ws.length : Int) := by omega
  simp (disch := first | assumption | omega | (simp only [wkD, oneCell, Option.isSome_some, *]; done) | (simp only [wkE, ne_eq]; omega)) only [g2, g5, g8, g16, g19, g20, hj', wkF, X_region, X_seq, X_block, X_loop, X_cond, Y_box, Y_un, Y_store, Y_append, Y_makeMap, Y_buildSlice, ibin_shl, ibin_shr, ibin_and, ↓reduceIte, reduceCtorEq, oneCell, setAt, readN, Nat.reduceAdd, Nat.reduceLeDiff, Nat.reduceMul, layAt, Nat.reduceLT, Nat.reduceEqDiff, setParams, Int.reduceLT, Int.reduceLE, Int.reduceGT, Int.reduceGE, Int.reduceEq, Int.reduceNe]
  refine Is_in ?_
  simp (disch := first | assumption | omega | (simp only [wkD, oneCell, Option.isSome_some, *]; done) | (simp only [wkE, ne_eq]; omega)) only [g2, g5, g8, g16, g19, g20, wkF, X_region, X_seq, X_block, X_loop, X_cond, Y_box, Y_un, Y_store, Y_append, Y_makeMap, Y_buildSlice, ibin_shl, ibin_shr, ibin_and, ↓reduceIte, reduceCtorEq, oneCell, setAt, readN, Nat.reduceAdd, Nat.reduceLeDiff, Nat.reduceMul, layAt, Nat.reduceLT, Nat.reduceEqDiff, setParams, Int.reduceLT, Int.reduceLE, Int.reduceGT, Int.reduceGE, Int.reduceEq, Int.reduceNe]
  refine L_is (fun q s => ∃ (m : Nat), q = C - m ∧ s.defers = [] ∧ s.tmps.length = 236 ∧ s.tmps.getD 2 undefV = .pointer (some ⟨0, 0, none⟩) ∧ s.tmps.getD 5 undefV = .bool true ∧ s.tmps.getD 8 undefV = .slice (some ⟨b8, 0, none⟩) C C ∧ s.tmps.getD 16 undefV = .slice pw ws.length cw ∧ s.tmps.getD 19 undefV = .int .i64 (cntE S m : Int) ∧ s.tmps.getD 21 undefV = .int .i64 (m : Int) ∧ m ≤ C ∧ s.h = h9) C ?_ (by omega) ?_
  · exact ⟨0, rfl, rfl, rfl, rfl, rfl, rfl, rfl, rfl, rfl, Nat.zero_le _, rfl⟩
  clear g2 g5 g8 g16 g19 g20 w
  rintro q tm df h10 ⟨m, hk, hd, hlen_, g2, g5, g8, g16, g19, g21, hml, hh⟩
  simp only at hd g2 g5 g8 g16 g19 g21 hh
  subst hd
  obtain ⟨w, hg_, rfl⟩ := explode hlen_
  simp only [hg_] at g2 g5 g8 g16 g19 g21
  clear hlen_ hg_
  subst hh
  by_cases hm : m < C
  · have hm' : (m : Int) < (C : Int) := by omega
    have hm0 : (0 : Int) ≤ (m : Int) := by omega
    have rs := sl_rd S.E (z := 1) (t := false) hm
    rw [← gs] at rs
    have ym : IntKind.i64.wrap ((m : Int) + 1) = ((m + 1 : Nat) : Int) := by rw [wrap_i64 (by omega) (by omega)]; omega
    have hs1 := cntE_succ S m
    have hs2 := cntE_le S m
    have hne := sE_ne (S.E (m : Int))
    by_cases hE : S.E (m : Int) = e0
    · rw [if_pos hE] at hs1
      rw [decide_eq_false (fun h => h hE)] at hne
      simp (disch := first | assumption | omega | (simp only [wkD, oneCell, Option.isSome_some, *]; done) | (simp only [wkE, ne_eq]; omega)) only [g2, g5, g8, g16, g19, g21, hm', hm0, Int.toNat_natCast, gz, rs, hne, ym, Nat.mul_one, Nat.zero_add, wkF, X_region, X_seq, X_block, X_loop, X_cond, Y_box, Y_un, Y_store, Y_append, Y_makeMap, Y_buildSlice, ibin_shl, ibin_shr, ibin_and, ↓reduceIte, reduceCtorEq, oneCell, setAt, readN, Nat.reduceAdd, Nat.reduceLeDiff, Nat.reduceMul, layAt, Nat.reduceLT, Nat.reduceEqDiff, setParams, Int.reduceLT, Int.reduceLE, Int.reduceGT, Int.reduceGE, Int.reduceEq, Int.reduceNe]
      have hs3 : cntE S (m + 1) = cntE S m := by omega
      refine Is_in ⟨C - (m + 1), sub_lt' hk hm, m + 1, rfl, rfl, ?_⟩
      rw [hs3]
      exact ⟨rfl, rfl, rfl, rfl, rfl, rfl, rfl, hm, rfl⟩
    · rw [if_neg hE] at hs1
      rw [decide_eq_true hE] at hne
      have yc : IntKind.i64.wrap ((cntE S m : Int) + 1) = ((cntE S (m + 1) : Nat) : Int) := by rw [wrap_i64 (by omega) (by omega)]; omega
      simp (disch := first | assumption | omega | (simp only [wkD, oneCell, Option.isSome_some, *]; done) | (simp only [wkE, ne_eq]; omega)) only [g2, g5, g8, g16, g19, g21, hm', hm0, Int.toNat_natCast, gz, rs, hne, ym, yc, Nat.mul_one, Nat.zero_add, wkF, X_region, X_seq, X_block, X_loop, X_cond, Y_box, Y_un, Y_store, Y_append, Y_makeMap, Y_buildSlice, ibin_shl, ibin_shr, ibin_and, ↓reduceIte, reduceCtorEq, oneCell, setAt, readN, Nat.reduceAdd, Nat.reduceLeDiff, Nat.reduceMul, layAt, Nat.reduceLT, Nat.reduceEqDiff, setParams, Int.reduceLT, Int.reduceLE, Int.reduceGT, Int.reduceGE, Int.reduceEq, Int.reduceNe]
      exact Is_in ⟨C - (m + 1), sub_lt' hk hm, m + 1, rfl, rfl, rfl, rfl, rfl, rfl, rfl, rfl, rfl, hm, rfl⟩
  have hm' : ¬ (m : Int) < (C : Int) := by omega
  have hmC : m = C := by omega
  have hcc : ((cntE S m : Int) = (ws.length : Int)) = True := eq_true (by rw [hmC]; exact congrArg Int.ofNat (recl_cnt nv hws hS.2.2))
  simp (disch := first | assumption | omega | (simp only [wkD, oneCell, Option.isSome_some, *]; done) | (simp only [wkE, ne_eq]; omega)) only [g2, g5, g8, g16, g19, g21, gz, hm', wkF, X_region, X_seq, X_block, X_loop, X_cond, Y_box, Y_un, Y_store, Y_append, Y_makeMap, Y_buildSlice, ibin_shl, ibin_shr, ibin_and, ↓reduceIte, reduceCtorEq, oneCell, setAt, readN, Nat.reduceAdd, Nat.reduceLeDiff, Nat.reduceMul, layAt, Nat.reduceLT, Nat.reduceEqDiff, setParams, Int.reduceLT, Int.reduceLE, Int.reduceGT, Int.reduceGE, Int.reduceEq, Int.reduceNe]
  refine Is_in ?_
  simp (disch := first | assumption | omega | (simp only [wkD, oneCell, Option.isSome_some, *]; done) | (simp only [wkE, ne_eq]; omega)) only [g2, g5, g8, g16, g19, g21, hcc, wkF, X_region, X_seq, X_block, X_loop, X_cond, Y_box, Y_un, Y_store, Y_append, Y_makeMap, Y_buildSlice, ibin_shl, ibin_shr, ibin_and, ↓reduceIte, reduceCtorEq, oneCell, setAt, readN, Nat.reduceAdd, Nat.reduceLeDiff, Nat.reduceMul, layAt, Nat.reduceLT, Nat.reduceEqDiff, setParams, Int.reduceLT, Int.reduceLE, Int.reduceGT, Int.reduceGE, Int.reduceEq, Int.reduceNe]
  exact leaf1 rfl
theorem sz_inv {d : Nat} {ro : Nat → Option (List Value × Nat)} {cs : Array Value} (h : Fits2 (DFit Try.prog ro d) [.flat (.int .i64), .flat (.int .i64), .flat (.int .i64)] cs.toList) : ∃ a b c : Int, Value.agg cs = .agg #[.int .i64 a, .int .i64 b, .int .i64 c] := by
  obtain ⟨v, w, e1, h1, h⟩ := f2_cons h
  obtain ⟨v2, w2, e2, h2, h⟩ := f2_cons h
  obtain ⟨v3, w3, e3, h3, h⟩ := f2_cons h
  have e4 := f2_nil h
  obtain ⟨x1, rfl, _⟩ := flat_i64 h1
  obtain ⟨x2, rfl, _⟩ := flat_i64 h2
  obtain ⟨x3, rfl, _⟩ := flat_i64 h3
  subst e4 e3 e2
  refine ⟨x1, x2, x3, ?_⟩
  congr 1
  exact Array.toList_inj.1 e1
theorem ledgerLoads_all (ro : Nat → Option (List Value × Nat)) (vs : List Value) (ha : ArgsD Try.prog ro 2 [.agg [.flat (.int .i64), .flat (.int .i64), .flat (.int .i64)], .one (.slice 41)] vs) : (run env 5000 3 vs (fresh ro)).True := by
  match vs, ha with
  | [v0, v1], ha =>
    obtain ⟨⟨cs, rfl, h0⟩, h1, -⟩ := ha
    obtain ⟨a, b, c, e⟩ := sz_inv h0
    obtain ⟨p, l, cl, rfl, hok, h2, h3, hV⟩ := dslice h1 cq_kinds cq_size (by simp) cq (OkQ ro) cq_inv
    rw [e]
    exact run_true (ledgerLoads_run hok h2 h3 hV).all
  | [], ha => exact ha.elim
  | [_], ha => exact ha.2.elim
  | _ :: _ :: _ :: _, ha => exact ha.2.2.elim
theorem own : ownKnob Try.prog.godebug = none := by kernel_rfl
theorem mixed : Try.prog.follows .mixedOrders = true := by kernel_rfl
theorem laid_out : laidOutB Try.prog = true := by kernel_rfl
theorem ledgerLoads_kinds : Try.f3.params.toList.mapM (pdOf Try.prog) = some [.agg [.flat (.int .i64), .flat (.int .i64), .flat (.int .i64)], .one (.slice 41)] := by kernel_rfl
theorem ledgerLoads_reads : Try.f3.params.toList.all (fun t => Try.prog.readableRec t && decide (t < Try.prog.types.size)) = true := by kernel_rfl
theorem ledgerLoads_size : Try.f3.params.size = 2 := by kernel_rfl
theorem ledgerLoads_lifted (os : Os) (started : os.Started) (H : Type) (enc : TypeId × Value → H) :
    ReturnsInHanded {} Try.checked os 3 .any (Rows.ledgerLoadsSpec.pre6 enc Try.prog Try.f3 [] false) (Rows.ledgerLoadsSpec.post enc Try.prog Try.f3 false true false false) :=
 deep_open_lifted (C := Try.checked) (n := 5000) 2 own started (by kernel_rfl) Try.func3 (ChangeSpec.witness6 false ⟨#[], #[.agg #[.int .i64 0, .int .i64 0, .int .i64 0], .slice none 0 0], []⟩ 8 (by kernel_rfl) (by kernel_rfl) (by kernel_rfl) (by kernel_rfl)) mixed env_ok laid_out ledgerLoads_kinds ledgerLoads_reads (by rfl) Try.underlying4 rfl
    (fun ds hds => by rw [ledgerLoads_size] at hds; match ds, hds with | [_, _], _ => rfl) ledgerLoads_all
theorem ledgerLoads_holds : Rows.LedgerLoadsSaid :=
  OpenClaim.holds_of_wide 3 Try.f3 rfl rfl rfl rfl rfl rfl rfl ⟨rfl, rfl, rfl, rfl, rfl⟩ rfl rfl rfl rfl rfl (by kernel_rfl) Try.func3 (by kernel_rfl)
    (of_decide_eq_true (by kernel_rfl)) (by unfold Func.isWrapper; rw [if_neg (of_decide_eq_false (by kernel_rfl))]; exact ⟨rfl, rfl⟩)
    (fun os started H enc _ => by rw [OpenClaim.pre_of_none rfl]; exact ledgerLoads_lifted os started H enc)
end Go.Proofs.Ytmpnldmdchchjaa
