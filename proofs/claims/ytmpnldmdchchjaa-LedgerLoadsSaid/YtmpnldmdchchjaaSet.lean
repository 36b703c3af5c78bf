import Derived.Test.YtmpnldmdchchjaaFk
import Derived.Test.YtmpnldmdchchjaaOut
namespace Go.Proofs.Ytmpnldmdchchjaa
open Go Go.Ideal Go.ChangeShapes Go.RowKit
set_option maxHeartbeats 0
set_option linter.unusedSimpArgs false
set_option linter.unusedVariables false
set_option maxRecDepth 100000
attribute [local irreducible] callV T.All T.Is run
theorem mc_len (m : Po) : (mc m).length = 9 := rfl
theorem tk_mc (m : Po) : List.take 9 (mc m) = mc m := rfl
theorem pc_len (m : Po) : (pc m).length = 10 := rfl
theorem pc_one (m : Po) : (pc m).all oneCell = true := rfl
theorem zc_len (x : Int) : (zc x).length = 1 := rfl
theorem zc_one (x : Int) : (zc x).all oneCell = true := rfl
def Ou.post (o : Ou) (m : Po) : Ou := { o with ps := o.ps ++ [m], bs := o.bs ++ [(o.ws.length : Int)] }
section
variable {ro : Nat → Option (List Value × Nat)} {h : Heap} {R : List Rs} {lb ob : Nat} {S : Ls} {o : Ou} {n : Nat}
theorem post_h (m : Po) (hp : o.ps.length < 1000000) (hb : o.bs.length < 1000000) (O : Has ro h (Og ob o :: R)) :
    (callV env (n + 1) (.func (.func 39) #[] #[]) [.pointer (some ⟨ob, 0, none⟩), .int .i64 m.to, .agg (mc m).toArray] h).Is fun p => Has ro p.2 (Og ob (o.post m) :: R) := by
  refine call_is env39 ?_
  simp (disch := first | assumption | omega | (simp only [wkD, oneCell, Option.isSome_some, *]; done) | (simp only [wkE, ne_eq]; omega)) only [ir39, List.append_nil, List.nil_append, List.cons_append, List.length_cons, List.length_nil, Nat.reduceAdd, Nat.reduceSub, List.replicate_succ, List.replicate_zero, wkF, X_region, X_seq, X_block, X_loop, X_cond, Y_un, Y_store, Y_append, Y_makeMap, Y_buildSlice, ibin_shl, ibin_shr, ibin_and, ↓reduceIte, reduceCtorEq, oneCell, setAt, readN, Nat.reduceAdd, Nat.reduceLeDiff, Nat.reduceMul, layAt, Nat.reduceLT, Nat.reduceEqDiff, setParams, Int.reduceLT, Int.reduceLE, Int.reduceGT, Int.reduceGE, Int.reduceEq, Int.reduceNe]
  refine Y_boxO O ?_
  intro b1 h1 O1 e1
  replace O1 : Has ro h1 (Og ob o :: Ob b1 (.cells (mc m) 1 false) :: R) := O1.swap2
  obtain ⟨wv, pv, bv, O2⟩ := Has.ogOpen O1
  have g1 := O2.get 0 rfl
  have gm := O2.get 5 rfl
  simp (disch := first | assumption | omega | (simp only [wkD, oneCell, Option.isSome_some, *]; done) | (simp only [wkE, ne_eq]; omega)) only [wkF, X_region, X_seq, X_block, X_loop, X_cond, Y_box, Y_un, Y_store, Y_append, Y_makeMap, Y_buildSlice, ibin_shl, ibin_shr, ibin_and, ↓reduceIte, reduceCtorEq, oneCell, setAt, readN, Nat.reduceAdd, Nat.reduceLeDiff, Nat.reduceMul, layAt, Nat.reduceLT, Nat.reduceEqDiff, setParams, Int.reduceLT, Int.reduceLE, Int.reduceGT, Int.reduceGE, Int.reduceEq, Int.reduceNe]
  refine X_drawn _ fun an => ?_
  have bs : pBuildSlice h1 10 1 [.int .i64 0, .int .i64 0, .int .i64 0, .int .u32 0, .int .u64 0, .int .i64 0, .int .i64 0, .int .i64 0, .int .i64 0, .slice none 0 0] [(0, 10, .agg (setAt [.int .i64 m.to, .int .i64 0, .int .i64 0, .int .u32 0, .int .u64 0, .int .i64 0, .int .i64 0, .int .i64 0, .int .i64 0, .slice none 0 0] 1 (mc m)).toArray)] = some (.slice (some ⟨2 * h1.next, 0, none⟩) 1 1, h1.alloc (.cells (pc m) 10 false)) := rfl
  have O3 := O2.alloc (.cells (pc m) 10 false)
  obtain ⟨pv2, h3, ap, O4⟩ := sc_appendV (bytes := 96) (by decide) pc_len pc_one (O3.at 3 rfl) (Has.one (O3.at 3 rfl) 1 rfl) (by show (o.ps.length + 1) * 96 ≤ roomMost; unfold roomMost; omega) (by decide)
  simp only [List.eraseIdx_cons_succ, List.eraseIdx_cons_zero] at O4
  obtain ⟨pp, pcap, hpv, _⟩ := O4.scVal 0 rfl
  subst hpv
  have g4 := O4.get 2 rfl
  have p4 := O4.can 2 rfl
  have O5 := O4.set 2 rfl (.cells [wv, .slice pp (o.ps ++ [m]).length pcap, bv] 1 false)
  simp only [List.set_cons_zero, List.set_cons_succ] at O5
  simp (disch := first | assumption | omega | (simp only [wkD, oneCell, Option.isSome_some, *]; done) | (simp only [wkE, ne_eq]; omega)) only [g1, gm, tk_mc, mc_len, bs, ap, g4, p4, slI, wkF, X_region, X_seq, X_block, X_loop, X_cond, Y_box, Y_un, Y_store, Y_append, Y_makeMap, Y_buildSlice, ibin_shl, ibin_shr, ibin_and, ↓reduceIte, reduceCtorEq, oneCell, setAt, readN, Nat.reduceAdd, Nat.reduceLeDiff, Nat.reduceMul, layAt, Nat.reduceLT, Nat.reduceEqDiff, setParams, Int.reduceLT, Int.reduceLE, Int.reduceGT, Int.reduceGE, Int.reduceEq, Int.reduceNe]
  clear ap bs g1 gm g4 p4 O O1 O2 O3 O4 e1
  generalize h3.setB ob _ = h5 at O5 ⊢
  refine X_drawn _ fun an => ?_
  have g5 := O5.get 2 rfl
  obtain ⟨wp, wcap, hwv, _⟩ := O5.scVal 3 rfl
  subst hwv
  have bs : pBuildSlice h5 1 1 [.int .i64 0] [(0, 1, .int .i64 (o.ws.length : Int))] = some (.slice (some ⟨2 * h5.next, 0, none⟩) 1 1, h5.alloc (.cells (zc (o.ws.length : Int)) 1 false)) := rfl
  have O6 := O5.alloc (.cells (zc (o.ws.length : Int)) 1 false)
  obtain ⟨bv2, h7, ap, O7⟩ := sc_appendV (bytes := 8) (by decide) zc_len zc_one (O6.at 5 rfl) (Has.one (O6.at 5 rfl) 1 rfl) (by show (o.bs.length + 1) * 8 ≤ roomMost; unfold roomMost; omega) (by decide)
  simp only [List.eraseIdx_cons_succ, List.eraseIdx_cons_zero] at O7
  obtain ⟨bp, bcap, hbv, _⟩ := O7.scVal 0 rfl
  subst hbv
  have g7 := O7.get 4 rfl
  have p7 := O7.can 4 rfl
  have O8 := O7.set 4 rfl (.cells [.slice wp o.ws.length wcap, .slice pp (o.ps ++ [m]).length pcap, .slice bp (o.bs ++ [(o.ws.length : Int)]).length bcap] 1 false)
  simp only [List.set_cons_zero, List.set_cons_succ] at O8
  simp (disch := first | assumption | omega | (simp only [wkD, oneCell, Option.isSome_some, *]; done) | (simp only [wkE, ne_eq]; omega)) only [g5, bs, ap, g7, p7, slI, wkF, X_region, X_seq, X_block, X_loop, X_cond, Y_box, Y_un, Y_store, Y_append, Y_makeMap, Y_buildSlice, ibin_shl, ibin_shr, ibin_and, ↓reduceIte, reduceCtorEq, oneCell, setAt, readN, Nat.reduceAdd, Nat.reduceLeDiff, Nat.reduceMul, layAt, Nat.reduceLT, Nat.reduceEqDiff, setParams, Int.reduceLT, Int.reduceLE, Int.reduceGT, Int.reduceGE, Int.reduceEq, Int.reduceNe]
  refine leaf0n ?_
  have O9 := ((((((((O8.rid 7 rfl).rid 3 rfl).rid 1 rfl).at 4 rfl).at 1 rfl).at 2 rfl).at 4 rfl).at 4 rfl)
  exact Has.ogClose (o := o.post m) O9
def setE (l : List (Int × En)) (c : Int) (e : En) : List (Int × En) := if e = e0 then del1 (upd1 l c e) c else upd1 l c e
def Ls.set (S : Ls) (c : Int) (e : En) : Ls := { S with ents := setE S.ents c e }
def Ou.wr (o : Ou) (c : Int) (e : En) (d : Option Nat) : Ou := { o with ws := o.ws ++ [⟨c, e, d⟩] }
theorem wc_len (x : Wr) : (wc x).length = 3 := rfl
theorem wc_one (x : Wr) : (wc x).all oneCell = true := by obtain ⟨c, e, d⟩ := x; cases d <;> rfl
theorem set_h (c : Int) (e : En) (hw : o.ws.length < 1000000) (O : Has ro h (Lg lb S :: Og ob o :: R)) :
    (callV env (n + 3) (.func (.func 34) #[] #[]) [.pointer (some ⟨lb, 0, none⟩), .int .i64 c, ev e, .pointer (some ⟨ob, 0, none⟩)] h).Is fun p => ∃ d, Has ro p.2 (Lg lb (S.set c e) :: Og ob (o.wr c e d) :: R) := by
  refine call_is env34 ?_
  simp (disch := first | assumption | omega | (simp only [wkD, oneCell, Option.isSome_some, *]; done) | (simp only [wkE, ne_eq]; omega)) only [ir34, List.append_nil, List.nil_append, List.cons_append, List.length_cons, List.length_nil, Nat.reduceAdd, Nat.reduceSub, List.replicate_succ, List.replicate_zero, wkF, X_region, X_seq, X_block, X_loop, X_cond, Y_un, Y_store, Y_append, Y_makeMap, Y_buildSlice, ibin_shl, ibin_shr, ibin_and, ↓reduceIte, reduceCtorEq, oneCell, setAt, readN, Nat.reduceAdd, Nat.reduceLeDiff, Nat.reduceMul, layAt, Nat.reduceLT, Nat.reduceEqDiff, setParams, Int.reduceLT, Int.reduceLE, Int.reduceGT, Int.reduceGE, Int.reduceEq, Int.reduceNe]
  refine Y_boxO O ?_
  intro b1 h1 O1 e1
  replace O1 : Has ro h1 (Ob b1 (.cells (ec e) 1 false) :: Lg lb S :: Og ob o :: R) := O1
  obtain ⟨eb, qb, tb, O2⟩ := Has.lgOpen (O1.at 1 rfl)
  replace O2 : Has ro h1 (Ob lb (.cells (lc S eb qb tb) 1 false) :: Mp K64 ev eb S.ents :: Mp K64 pq qb S.qs :: Mp K64 tv tb S.told :: Qall S.qs S.W :: Ob b1 (.cells (ec e) 1 false) :: Og ob o :: R) := O2
  have g1 := O2.get 0 rfl
  unfold lc at g1
  have g2 := O2.get 5 rfl
  obtain ⟨h3, u3, O3⟩ := O2.mpUpd 1 rfl c e
  simp only [List.set_cons_zero, List.set_cons_succ] at O3
  have u3' : vMapUpdate h1 none (.map (some eb)) (.int .i64 c) (ev e) = some h3 := u3
  have g3 := O3.get 5 rfl
  simp (disch := first | assumption | omega | (simp only [wkD, oneCell, Option.isSome_some, *]; done) | (simp only [wkE, ne_eq]; omega)) only [wkF, X_region, X_seq, X_block, X_loop, X_cond, Y_box, Y_un, Y_store, Y_append, Y_makeMap, Y_buildSlice, ibin_shl, ibin_shr, ibin_and, ↓reduceIte, reduceCtorEq, oneCell, setAt, readN, Nat.reduceAdd, Nat.reduceLeDiff, Nat.reduceMul, layAt, Nat.reduceLT, Nat.reduceEqDiff, setParams, Int.reduceLT, Int.reduceLE, Int.reduceGT, Int.reduceGE, Int.reduceEq, Int.reduceNe]
  refine X_drawn _ fun an => ?_
  simp (disch := first | assumption | omega | (simp only [wkD, oneCell, Option.isSome_some, *]; done) | (simp only [wkE, ne_eq]; omega)) only [g1, g2, ec_len, tk_ec, tk_ec1, dr_ec1, agg_ec, ev_cells, set_ec, ec_one, D_mapUpdateB, u3', DHB_some, wkF, X_region, X_block, X_loop, X_cond, Y_box, Y_un, Y_store, Y_append, Y_makeMap, Y_buildSlice, ibin_shl, ibin_shr, ibin_and, ↓reduceIte, reduceCtorEq, oneCell, setAt, readN, Nat.reduceAdd, Nat.reduceLeDiff, Nat.reduceMul, layAt, Nat.reduceLT, Nat.reduceEqDiff, setParams, Int.reduceLT, Int.reduceLE, Int.reduceGT, Int.reduceGE, Int.reduceEq, Int.reduceNe]
  rw [X_seq]
  clear u3 u3' g1 g2 O2 O1 O e1
  refine X_cut0 (fun s => s.tmps.length = 34 ∧ s.tmps.getD 0 undefV = .pointer (some ⟨lb, 0, none⟩) ∧ s.tmps.getD 1 undefV = .int .i64 c ∧ s.tmps.getD 3 undefV = .pointer (some ⟨ob, 0, none⟩) ∧ s.tmps.getD 6 undefV = .pointer (some ⟨b1, 0, none⟩) ∧ Has ro s.h (Ob lb (.cells (lc (S.set c e) eb qb tb) 1 false) :: Mp K64 ev eb (S.set c e).ents :: Mp K64 pq qb S.qs :: Mp K64 tv tb S.told :: Qall S.qs S.W :: Ob b1 (.cells (ec e) 1 false) :: Og ob o :: R)) ?_ ?_
  · simp (disch := first | assumption | omega | (simp only [wkD, oneCell, Option.isSome_some, *]; done) | (simp only [wkE, ne_eq]; omega)) only [wkF, X_region, X_seq, X_block, X_loop, X_cond, Y_box, Y_un, Y_store, Y_append, Y_makeMap, Y_buildSlice, ibin_shl, ibin_shr, ibin_and, ↓reduceIte, reduceCtorEq, oneCell, setAt, readN, Nat.reduceAdd, Nat.reduceLeDiff, Nat.reduceMul, layAt, Nat.reduceLT, Nat.reduceEqDiff, setParams, Int.reduceLT, Int.reduceLE, Int.reduceGT, Int.reduceGE, Int.reduceEq, Int.reduceNe]
    refine X_drawn _ fun an => ?_
    simp (disch := first | assumption | omega | (simp only [wkD, oneCell, Option.isSome_some, *]; done) | (simp only [wkE, ne_eq]; omega)) only [g3, ec_len, tk_ec, tk_ec1, dr_ec1, agg_ec, ev_cells, set_ec, ec_one, wkF, X_region, X_seq, X_block, X_loop, X_cond, Y_box, Y_un, Y_store, Y_append, Y_makeMap, Y_buildSlice, ibin_shl, ibin_shr, ibin_and, ↓reduceIte, reduceCtorEq, oneCell, setAt, readN, Nat.reduceAdd, Nat.reduceLeDiff, Nat.reduceMul, layAt, Nat.reduceLT, Nat.reduceEqDiff, setParams, Int.reduceLT, Int.reduceLE, Int.reduceGT, Int.reduceGE, Int.reduceEq, Int.reduceNe]
    refine DF_newO (R := fun v => v = ev e0) (p := fun _ => Rs.emp) O3 (first_f (seen0_fine (fr := []) O3.fine (by intro x hx; cases hx))) ?_
    rintro v h4 f rfl O4 e4 hf4
    replace O4 := Has.emp.1 O4
    have g4 := O4.get 0 rfl
    unfold lc at g4
    by_cases he : e = e0
    · have hd : decide (e = e0) = true := decide_eq_true he
      obtain ⟨h5, u5, O5⟩ := O4.mpDel 1 rfl c
      have u5' : vDelete h4 none (.map (some eb)) (.int .i64 c) = some h5 := u5
      simp (disch := first | assumption | omega | (simp only [wkD, oneCell, Option.isSome_some, *]; done) | (simp only [wkE, ne_eq]; omega)) only [g4, eq_ev, hd, u5', wkF, X_region, X_seq, X_block, X_loop, X_cond, Y_box, Y_un, Y_store, Y_append, Y_makeMap, Y_buildSlice, ibin_shl, ibin_shr, ibin_and, ↓reduceIte, reduceCtorEq, oneCell, setAt, readN, Nat.reduceAdd, Nat.reduceLeDiff, Nat.reduceMul, layAt, Nat.reduceLT, Nat.reduceEqDiff, setParams, Int.reduceLT, Int.reduceLE, Int.reduceGT, Int.reduceGE, Int.reduceEq, Int.reduceNe]
      refine mid_in ⟨rfl, rfl, rfl, rfl, rfl, ?_⟩
      have : (S.set c e).ents = del1 (upd1 S.ents c e) c := by unfold Ls.set setE; rw [if_pos he]
      rw [this]
      exact O5
    · have hd : decide (e = e0) = false := decide_eq_false he
      simp (disch := first | assumption | omega | (simp only [wkD, oneCell, Option.isSome_some, *]; done) | (simp only [wkE, ne_eq]; omega)) only [eq_ev, hd, wkF, X_region, X_seq, X_block, X_loop, X_cond, Y_box, Y_un, Y_store, Y_append, Y_makeMap, Y_buildSlice, ibin_shl, ibin_shr, ibin_and, ↓reduceIte, reduceCtorEq, oneCell, setAt, readN, Nat.reduceAdd, Nat.reduceLeDiff, Nat.reduceMul, layAt, Nat.reduceLT, Nat.reduceEqDiff, setParams, Int.reduceLT, Int.reduceLE, Int.reduceGT, Int.reduceGE, Int.reduceEq, Int.reduceNe]
      refine mid_in ⟨rfl, rfl, rfl, rfl, rfl, ?_⟩
      have : (S.set c e).ents = upd1 S.ents c e := by unfold Ls.set setE; rw [if_neg he]
      rw [this]
      exact O4
  clear g3 O3 h3 an
  rintro tm h5 ⟨hlen_, g0, g1, g3, g6, O5⟩
  simp only at g0 g1 g3 g6 O5
  obtain ⟨w, hg_, rfl⟩ := explode hlen_
  simp only [hg_] at g0 g1 g3 g6
  clear hlen_ hg_
  obtain ⟨wv, pv, bv, O6⟩ := Has.ogOpen (O5.at 6 rfl)
  replace O6 : Has ro h5 (Ob ob (.cells [wv, pv, bv] 1 false) :: Sc 3 wc wv o.ws :: Sc 10 pc pv o.ps :: Sc 1 zc bv o.bs :: Dts o.ws :: Ob lb (.cells (lc (S.set c e) eb qb tb) 1 false) :: Mp K64 ev eb (S.set c e).ents :: Mp K64 pq qb S.qs :: Mp K64 tv tb S.told :: Qall S.qs S.W :: Ob b1 (.cells (ec e) 1 false) :: R) := O6
  have q1 := O6.get 0 rfl
  have q2 := O6.get 10 rfl
  simp (disch := first | assumption | omega | (simp only [wkD, oneCell, Option.isSome_some, *]; done) | (simp only [wkE, ne_eq]; omega)) only [kont_code, wkF, X_region, X_seq, X_block, X_loop, X_cond, Y_box, Y_un, Y_store, Y_append, Y_makeMap, Y_buildSlice, ibin_shl, ibin_shr, ibin_and, ↓reduceIte, reduceCtorEq, oneCell, setAt, readN, Nat.reduceAdd, Nat.reduceLeDiff, Nat.reduceMul, layAt, Nat.reduceLT, Nat.reduceEqDiff, setParams, Int.reduceLT, Int.reduceLE, Int.reduceGT, Int.reduceGE, Int.reduceEq, Int.reduceNe]
  refine X_drawn _ fun an => ?_
  simp (disch := first | assumption | omega | (simp only [wkD, oneCell, Option.isSome_some, *]; done) | (simp only [wkE, ne_eq]; omega)) only [g0, g1, g3, g6, q1, q2, ec_len, tk_ec, tk_ec1, dr_ec1, agg_ec, ev_cells, set_ec, ec_one, wkF, X_region, X_seq, X_block, X_loop, X_cond, Y_box, Y_un, Y_store, Y_append, Y_makeMap, Y_buildSlice, ibin_shl, ibin_shr, ibin_and, ↓reduceIte, reduceCtorEq, oneCell, setAt, readN, Nat.reduceAdd, Nat.reduceLeDiff, Nat.reduceMul, layAt, Nat.reduceLT, Nat.reduceEqDiff, setParams, Int.reduceLT, Int.reduceLE, Int.reduceGT, Int.reduceGE, Int.reduceEq, Int.reduceNe]
  refine DF_newO (R := fun _ => True) (p := fun v => Rs.ex fun d => Rs.and (v = .agg #[.int .i64 3, .int .i64 c, dvv d]) (Dt d e)) O6 (record_e (n := n) c e (seen0_fine (fr := []) O6.fine (by intro x hx; cases hx))) ?_
  rintro v h6 f _ O7 e7 hf7
  obtain ⟨d, O7⟩ := Has.ex.1 O7
  obtain ⟨hv, O8⟩ := Has.and.1 O7
  subst hv
  clear O7 O6 O5 q1 q2 e7
  have bs : pBuildSlice h6 3 1 [.int .i64 0, .int .i64 0, .slice none 0 0] [(0, 3, .agg #[.int .i64 3, .int .i64 c, dvv d])] = some (.slice (some ⟨2 * h6.next, 0, none⟩) 1 1, h6.alloc (.cells (wc ⟨c, e, d⟩) 3 false)) := by cases d <;> rfl
  have O9 := O8.alloc (.cells (wc ⟨c, e, d⟩) 3 false)
  obtain ⟨wv2, h10, ap, O10⟩ := sc_appendV (bytes := 40) (by decide) wc_len wc_one (O9.at 3 rfl) (Has.one (O9.at 3 rfl) 1 rfl) (by show (o.ws.length + 1) * 40 ≤ roomMost; unfold roomMost; omega) (by decide)
  simp only [List.eraseIdx_cons_succ, List.eraseIdx_cons_zero] at O10
  obtain ⟨wp, wcap, hwv, _⟩ := O10.scVal 0 rfl
  subst hwv
  have g10 := O10.get 3 rfl
  have p10 := O10.can 3 rfl
  have O11 := O10.set 3 rfl (.cells [.slice wp (o.ws ++ [(⟨c, e, d⟩ : Wr)]).length wcap, pv, bv] 1 false)
  simp only [List.set_cons_zero, List.set_cons_succ] at O11
  simp (disch := first | assumption | omega | (simp only [wkD, oneCell, Option.isSome_some, *]; done) | (simp only [wkE, ne_eq]; omega)) only [bs, ap, g10, p10, slI, wkF, X_region, X_seq, X_block, X_loop, X_cond, Y_box, Y_un, Y_store, Y_append, Y_makeMap, Y_buildSlice, ibin_shl, ibin_shr, ibin_and, ↓reduceIte, reduceCtorEq, oneCell, setAt, readN, Nat.reduceAdd, Nat.reduceLeDiff, Nat.reduceMul, layAt, Nat.reduceLT, Nat.reduceEqDiff, setParams, Int.reduceLT, Int.reduceLE, Int.reduceGT, Int.reduceGE, Int.reduceEq, Int.reduceNe]
  refine leaf0n ⟨d, ?_⟩
  clear ap bs g10 p10 O8 O9 O10
  have O12 := Has.dtsAdd (w := ⟨c, e, d⟩) ((((O11.rid 12 rfl).rid 1 rfl).at 5 rfl).at 2 rfl)
  have O13 := Has.ogClose (o := o.wr c e d) ((((O12.at 4 rfl).at 4 rfl).at 3 rfl).at 4 rfl)
  exact Has.lgClose (S := S.set c e) (((((O13.at 5 rfl).at 5 rfl).at 5 rfl).at 5 rfl).at 5 rfl)
end
end Go.Proofs.Ytmpnldmdchchjaa
