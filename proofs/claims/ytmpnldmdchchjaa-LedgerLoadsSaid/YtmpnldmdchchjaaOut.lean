import Derived.Test.YtmpnldmdchchjaaFk
import Derived.Test.YtmpnldmdchchjaaLed
namespace Go.Proofs.Ytmpnldmdchchjaa
open Go Go.Ideal Go.ChangeShapes Go.RowKit
set_option maxHeartbeats 0
set_option linter.unusedSimpArgs false
set_option linter.unusedVariables false
set_option maxRecDepth 100000
attribute [local irreducible] callV T.All T.Is run
theorem env42 : env 42 = some ir42 := rfl
theorem env34 : env 34 = some ir34 := rfl
theorem env39 : env 39 = some ir39 := rfl
def u8v (x : Int) : Value := .int .u8 (IntKind.u8.wrap x)
def e5 (e : En) : List Value := [u8v e.o, u8v (e.g.fdiv (2 ^ min (Int.toNat 24) IntKind.u32.bits)), u8v (e.g.fdiv (2 ^ min (Int.toNat 16) IntKind.u32.bits)), u8v (e.g.fdiv (2 ^ min (Int.toNat 8) IntKind.u32.bits)), u8v e.g]
def dvv : Option Nat → Value
  | none => .slice none 0 0
  | some b => .slice (some ⟨b, 0, none⟩) 5 5
def Dt : Option Nat → En → Rs
  | none, e => Rs.and (e = e0) Rs.emp
  | some b, e => Rs.and (e ≠ e0) (Ob b (.cells (e5 e) 1 false))
section
variable {ro : Nat → Option (List Value × Nat)} {h : Heap} {R : List Rs} {lb : Nat} {S : Ls} {n : Nat}
theorem first_f (hf : h.Fine) : (callV env (n + 1) (.func (.func 33) #[] #[]) [] h).Is fun p => Ext h p.2 ∧ New h p.2 Rs.emp ∧ p.1 = ev e0 :=
  T.Is.mono (fun p hp => ⟨hp.2, New.emp, hp.1⟩) (first_e hf)
theorem record_e (c : Int) (e : En) (hf : h.Fine) : (callV env (n + 2) (.func (.func 42) #[] #[]) [.int .i64 c, ev e] h).Is fun p => Ext h p.2 ∧ New h p.2 (Rs.ex fun d => Rs.and (p.1 = .agg #[.int .i64 3, .int .i64 c, dvv d]) (Dt d e)) ∧ True := by
  have O : Has h.ro h [] := Has.zero hf rfl
  refine call_is env42 ?_
  simp (disch := first | assumption | omega | (simp only [wkD, oneCell, Option.isSome_some, *]; done) | (simp only [wkE, ne_eq]; omega)) only [ir42, List.append_nil, List.nil_append, List.cons_append, List.length_cons, List.length_nil, Nat.reduceAdd, Nat.reduceSub, List.replicate_succ, List.replicate_zero, wkF, X_region, X_seq, X_block, X_loop, X_cond, Y_un, Y_store, Y_append, Y_makeMap, Y_buildSlice, ibin_shl, ibin_shr, ibin_and, ↓reduceIte, reduceCtorEq, oneCell, setAt, readN, Nat.reduceAdd, Nat.reduceLeDiff, Nat.reduceMul, layAt, Nat.reduceLT, Nat.reduceEqDiff, setParams, Int.reduceLT, Int.reduceLE, Int.reduceGT, Int.reduceGE, Int.reduceEq, Int.reduceNe]
  refine Y_boxE O ?_
  intro b1 h1 be1 nb1 O1 e1
  replace O1 : Has h.ro h1 [Ob b1 (.cells (ec e) 1 false)] := O1
  simp (disch := first | assumption | omega | (simp only [wkD, oneCell, Option.isSome_some, *]; done) | (simp only [wkE, ne_eq]; omega)) only [wkF, X_region, X_seq, X_block, X_loop, X_cond, Y_un, Y_store, Y_append, Y_makeMap, Y_buildSlice, ibin_shl, ibin_shr, ibin_and, ↓reduceIte, reduceCtorEq, oneCell, setAt, readN, Nat.reduceAdd, Nat.reduceLeDiff, Nat.reduceMul, layAt, Nat.reduceLT, Nat.reduceEqDiff, setParams, Int.reduceLT, Int.reduceLE, Int.reduceGT, Int.reduceGE, Int.reduceEq, Int.reduceNe]
  refine Y_boxE O1 ?_
  intro b2 h2 be2 nb2 O2 e2
  replace O2 : Has h.ro h2 [Ob b2 (.cells [.int .i64 0, .int .i64 0, .slice none 0 0] 1 false), Ob b1 (.cells (ec e) 1 false)] := O2
  replace nb2 : 2 * h.next ≤ b2 := by have := e1.next; omega
  have e12 := e1.trans e2
  simp (disch := first | assumption | omega | (simp only [wkD, oneCell, Option.isSome_some, *]; done) | (simp only [wkE, ne_eq]; omega)) only [wkF, X_region, X_seq, X_block, X_loop, X_cond, Y_un, Y_store, Y_append, Y_makeMap, Y_buildSlice, ibin_shl, ibin_shr, ibin_and, ↓reduceIte, reduceCtorEq, oneCell, setAt, readN, Nat.reduceAdd, Nat.reduceLeDiff, Nat.reduceMul, layAt, Nat.reduceLT, Nat.reduceEqDiff, setParams, Int.reduceLT, Int.reduceLE, Int.reduceGT, Int.reduceGE, Int.reduceEq, Int.reduceNe]
  refine Y_boxE O2 ?_
  intro b3 h3 be3 nb3 O3 e3
  replace O3 : Has h.ro h3 [Ob b3 (.cells [.int .i64 0, .int .i64 0, .slice none 0 0] 1 false), Ob b2 (.cells [.int .i64 0, .int .i64 0, .slice none 0 0] 1 false), Ob b1 (.cells (ec e) 1 false)] := O3
  replace nb3 : 2 * h.next ≤ b3 := by have := e12.next; omega
  have e13 := e12.trans e3
  clear e1 e2 e3 e12 O O1 O2
  have g3 := O3.get 0 rfl
  have p3 := O3.can 0 rfl
  have O4 := O3.set 0 rfl (.cells [.int .i64 3, .int .i64 c, .slice none 0 0] 1 false)
  simp only [List.set_cons_zero] at O4
  have e14 := e13.setB b3 (.cells [.int .i64 3, .int .i64 c, .slice none 0 0] 1 false) be3 nb3
  simp (disch := first | assumption | omega | (simp only [wkD, oneCell, Option.isSome_some, *]; done) | (simp only [wkE, ne_eq]; omega)) only [g3, p3, wkF, X_region, X_seq, X_block, X_loop, X_cond, Y_box, Y_un, Y_store, Y_append, Y_makeMap, Y_buildSlice, ibin_shl, ibin_shr, ibin_and, ↓reduceIte, reduceCtorEq, oneCell, setAt, readN, Nat.reduceAdd, Nat.reduceLeDiff, Nat.reduceMul, layAt, Nat.reduceLT, Nat.reduceEqDiff, setParams, Int.reduceLT, Int.reduceLE, Int.reduceGT, Int.reduceGE, Int.reduceEq, Int.reduceNe]
  refine X_drawn _ fun an => ?_
  have q1 := O4.get 2 rfl
  simp (disch := first | assumption | omega | (simp only [wkD, oneCell, Option.isSome_some, *]; done) | (simp only [wkE, ne_eq]; omega)) only [q1, ec_len, tk_ec, tk_ec1, dr_ec1, agg_ec, ev_cells, set_ec, ec_one, wkF, X_region, X_seq, X_block, X_loop, X_cond, Y_box, Y_un, Y_store, Y_append, Y_makeMap, Y_buildSlice, ibin_shl, ibin_shr, ibin_and, ↓reduceIte, reduceCtorEq, oneCell, setAt, readN, Nat.reduceAdd, Nat.reduceLeDiff, Nat.reduceMul, layAt, Nat.reduceLT, Nat.reduceEqDiff, setParams, Int.reduceLT, Int.reduceLE, Int.reduceGT, Int.reduceGE, Int.reduceEq, Int.reduceNe]
  refine DF_newO (R := fun v => v = ev e0) (p := fun _ => Rs.emp) O4 (first_f (seen0_fine (fr := []) O4.fine (by intro x hx; cases hx))) ?_
  rintro v h5 f rfl O5 e5' hf5
  replace O5 := Has.emp.1 O5
  have e15 := e14.trans e5'
  clear e14 e5' e13 g3 p3 O3 O4 q1
  have g1 := O5.get 2 rfl
  have g2 := O5.get 1 rfl
  have p2 := O5.can 1 rfl
  have g3 := O5.get 0 rfl
  have p3 := O5.can 0 rfl
  by_cases he : e = e0
  · have hd : decide (e = e0) = true := decide_eq_true he
    simp (disch := first | assumption | omega | (simp only [wkD, oneCell, Option.isSome_some, *]; done) | (simp only [wkE, ne_eq]; omega)) only [eq_ev, hd, ec_len, tk_ec, tk_ec1, dr_ec1, agg_ec, ev_cells, set_ec, ec_one, g3, g2, p2, wkF, X_region, X_seq, X_block, X_loop, X_cond, Y_box, Y_un, Y_store, Y_append, Y_makeMap, Y_buildSlice, ibin_shl, ibin_shr, ibin_and, ↓reduceIte, reduceCtorEq, oneCell, setAt, readN, Nat.reduceAdd, Nat.reduceLeDiff, Nat.reduceMul, layAt, Nat.reduceLT, Nat.reduceEqDiff, setParams, Int.reduceLT, Int.reduceLE, Int.reduceGT, Int.reduceGE, Int.reduceEq, Int.reduceNe]
    have g6 : (h5.setB b2 (.cells [.int .i64 3, .int .i64 c, .slice none 0 0] 1 false)).get b2 = some (.cells [.int .i64 3, .int .i64 c, .slice none 0 0] 1 false) := get_setB_same be2 (by rw [g2]; rfl)
    refine leafC (cs := [.int .i64 3, .int .i64 c, .slice none 0 0]) rfl (by rw [g6]; rfl) ⟨e15.setB b2 _ be2 nb2, New.ex none (New.and rfl (New.and he New.emp))⟩
  · have hd : decide (e = e0) = false := decide_eq_false he
    simp (disch := first | assumption | omega | (simp only [wkD, oneCell, Option.isSome_some, *]; done) | (simp only [wkE, ne_eq]; omega)) only [eq_ev, hd, ec_len, tk_ec, tk_ec1, dr_ec1, agg_ec, ev_cells, set_ec, ec_one, g1, wkF, X_region, X_seq, X_block, X_loop, X_cond, Y_box, Y_un, Y_store, Y_append, Y_makeMap, ibin_shl, ibin_shr, ibin_and, ↓reduceIte, reduceCtorEq, oneCell, setAt, readN, Nat.reduceAdd, Nat.reduceLeDiff, Nat.reduceMul, layAt, Nat.reduceLT, Nat.reduceEqDiff, setParams, Int.reduceLT, Int.reduceLE, Int.reduceGT, Int.reduceGE, Int.reduceEq, Int.reduceNe]
    refine Y_buildSliceE O5 (cs := e5 e) rfl ?_
    intro b6 h6 be6 nb6 O6 e6
    have e16 := e15.trans e6
    replace nb6 : 2 * h.next ≤ b6 := by have := e15.next; omega
    have g3 := O6.get 1 rfl
    have p3 := O6.can 1 rfl
    have O7 := O6.set 1 rfl (.cells [.int .i64 3, .int .i64 c, .slice (some ⟨b6, 0, none⟩) 5 5] 1 false)
    simp only [List.set_cons_zero, List.set_cons_succ] at O7
    have e17 := e16.setB b3 (.cells [.int .i64 3, .int .i64 c, .slice (some ⟨b6, 0, none⟩) 5 5] 1 false) be3 nb3
    have g4 := O7.get 1 rfl
    have g5 := O7.get 2 rfl
    have p5 := O7.can 2 rfl
    have O8 := O7.set 2 rfl (.cells [.int .i64 3, .int .i64 c, .slice (some ⟨b6, 0, none⟩) 5 5] 1 false)
    simp only [List.set_cons_zero, List.set_cons_succ] at O8
    have e18 := e17.setB b2 (.cells [.int .i64 3, .int .i64 c, .slice (some ⟨b6, 0, none⟩) 5 5] 1 false) be2 nb2
    simp (disch := first | assumption | omega | (simp only [wkD, oneCell, Option.isSome_some, *]; done) | (simp only [wkE, ne_eq]; omega)) only [g3, p3, g4, g5, p5, slI, wkF, X_region, X_seq, X_block, X_loop, X_cond, Y_box, Y_un, Y_store, Y_append, Y_makeMap, Y_buildSlice, ibin_shl, ibin_shr, ibin_and, ↓reduceIte, reduceCtorEq, oneCell, setAt, readN, Nat.reduceAdd, Nat.reduceLeDiff, Nat.reduceMul, layAt, Nat.reduceLT, Nat.reduceEqDiff, setParams, Int.reduceLT, Int.reduceLE, Int.reduceGT, Int.reduceGE, Int.reduceEq, Int.reduceNe]
    have g8 := O8.get 2 rfl
    refine leafC (cs := [.int .i64 3, .int .i64 c, .slice (some ⟨b6, 0, none⟩) 5 5]) rfl (by rw [g8]; rfl) ⟨e18, New.ex (some b6) (New.and rfl (New.and he (New.ob (O8.get 0 rfl) be6 nb6 (O8.info (i := 0) rfl).2.2.2.1)))⟩
end
structure Wr where
  c : Int
  e : En
  d : Option Nat
def wc (w : Wr) : List Value := [.int .i64 3, .int .i64 w.c, dvv w.d]
structure Po where
  to : Int
  kd : Int
  cell : Int
  gen : Int
  stamp : Int
  prio : Int
  hops : Int
  orig : Int
  oth : Int
def mc (m : Po) : List Value := [.int .i64 m.kd, .int .i64 m.cell, .int .u32 m.gen, .int .u64 m.stamp, .int .i64 m.prio, .int .i64 m.hops, .int .i64 m.orig, .int .i64 m.oth, .slice none 0 0]
def pc (m : Po) : List Value := .int .i64 m.to :: mc m
def zc (x : Int) : List Value := [.int .i64 x]
structure Ou where
  ws : List Wr
  ps : List Po
  bs : List Int
def Dts (l : List Wr) : Rs := Rs.all (l.map fun w => Dt w.d w.e)
def Oo (wv pv bv : Value) (o : Ou) : Rs := Rs.all [Sc 3 wc wv o.ws, Sc 10 pc pv o.ps, Sc 1 zc bv o.bs, Dts o.ws]
def Og (ob : Nat) (o : Ou) : Rs := Rs.ex fun x : Value × Value × Value => Rs.all [Ob ob (.cells [x.1, x.2.1, x.2.2] 1 false), Oo x.1 x.2.1 x.2.2 o]
section
variable {ro : Nat → Option (List Value × Nat)} {h : Heap} {R : List Rs} {ob : Nat} {o : Ou} {n : Nat}
theorem Has.ogOpen (O : Has ro h (Og ob o :: R)) : ∃ wv pv bv, Has ro h (Ob ob (.cells [wv, pv, bv] 1 false) :: Sc 3 wc wv o.ws :: Sc 10 pc pv o.ps :: Sc 1 zc bv o.bs :: Dts o.ws :: R) := by
  obtain ⟨⟨wv, pv, bv⟩, O⟩ := Has.ex.1 O
  have O1 := Has.all.1 O
  simp only [List.cons_append, List.nil_append] at O1
  have O2 := Has.all.1 O1.swap2
  simp only [List.cons_append, List.nil_append] at O2
  exact ⟨wv, pv, bv, (O2.at 4 rfl)⟩
theorem Has.ogClose {wv pv bv : Value} (O : Has ro h (Ob ob (.cells [wv, pv, bv] 1 false) :: Sc 3 wc wv o.ws :: Sc 10 pc pv o.ps :: Sc 1 zc bv o.bs :: Dts o.ws :: R)) : Has ro h (Og ob o :: R) := by
  refine Has.ex.2 ⟨(wv, pv, bv), Has.all.2 ?_⟩
  simp only [List.cons_append, List.nil_append]
  refine Has.swap2 (Has.all.2 ?_)
  simp only [List.cons_append, List.nil_append]
  exact O.perm (by
    refine List.Perm.trans (List.Perm.swap _ _ _) (List.Perm.cons _ ?_)
    refine List.Perm.trans (List.Perm.swap _ _ _) (List.Perm.cons _ ?_)
    refine List.Perm.trans (List.Perm.swap _ _ _) (List.Perm.cons _ ?_)
    exact List.Perm.swap _ _ _)
theorem Has.dtsAdd {l : List Wr} {w : Wr} (O : Has ro h (Dt w.d w.e :: Dts l :: R)) : Has ro h (Dts (l ++ [w]) :: R) := by
  refine Has.all.2 ?_
  have O1 := Has.all.1 O.swap2
  rw [List.map_append, List.append_assoc]
  exact O1
end
end Go.Proofs.Ytmpnldmdchchjaa
