import Derived.Test.YtmpnldmdchchjaaFk
import Derived.Test.YtmpnldmdchchjaaLed
namespace Go.Proofs.Ytmpnldmdchchjaa
open Go Go.Ideal Go.ChangeShapes Go.RowKit
set_option maxHeartbeats 0
set_option linter.unusedSimpArgs false
set_option linter.unusedVariables false
set_option maxRecDepth 100000
attribute [local irreducible] callV T.All T.Is run
theorem env42 : env 42 = some ir42 := rfl
theorem env34 : env 34 = some ir34 := rfl
theorem env39 : env 39 = some ir39 := rfl
def u8v (x : Int) : Value := .int .u8 (IntKind.u8.wrap x)
def e5 (e : En) : List Value := [u8v e.o, u8v (e.g.fdiv (2 ^ min (Int.toNat 24) IntKind.u32.bits)), u8v (e.g.fdiv (2 ^ min (Int.toNat 16) IntKind.u32.bits)), u8v (e.g.fdiv (2 ^ min (Int.toNat 8) IntKind.u32.bits)), u8v e.g]
def dvv : Option Nat → Value
  | none => .slice none 0 0
  | some b => .slice (some ⟨b, 0, none⟩) 5 5
def Dt : Option Nat → En → Rs
  | none, e => Rs.and (e = e0) Rs.emp
  | some b, e => Rs.and (e ≠ e0) (Ob b (.cells (e5 e) 1 false))
section
variable {ro : Nat → Option (List Value × Nat)} {h : Heap} {R : List Rs} {lb : Nat} {S : Ls} {n : Nat}
theorem first_f (hf : h.Fine) : (callV env (n + 1) (.func (.func 33) #[] #[]) [] h).Is fun p => Ext h p.2 ∧ New h p.2 Rs.emp ∧ p.1 = ev e0 :=
  T.Is.mono (fun p hp => ⟨hp.2, New.emp, hp.1⟩) (first_e hf)
theorem record_e (c : Int) (e : En) (hf : h.Fine) : (callV env (n + 2) (.func (.func 42) #[] #[]) [.int .i64 c, ev e] h).Is fun p => Ext h p.2 ∧ New h p.2 (Rs.ex fun d => Rs.and (p.1 = .agg #[.int .i64 3, .int .i64 c, dvv d]) (Dt d e)) ∧ True := by
  have O : Has h.ro h [] := Has.zero hf rfl
  refine call_is env42 ?_
  simp only [ir42, Nat.reduceAdd, Nat.reduceSub, wkF, X_seq, Y_store, Y_makeMap, Y_buildSlice, ↓reduceIte, reduceCtorEq, wkO, wkS, Nat.reduceLeDiff, Nat.reduceMul, Nat.reduceLT, Nat.reduceEqDiff, wkN, wkG]
  refine Y_boxE O ?_
  intro b1 h1 be1 nb1 O1 e1
  replace O1 : Has h.ro h1 [Ob b1 (.cells (ec e) 1 false)] := O1
  simp only [wkF, X_seq, Y_store, Y_makeMap, Y_buildSlice, ↓reduceIte, reduceCtorEq, wkO, wkS, Nat.reduceAdd, Nat.reduceLeDiff, Nat.reduceMul, Nat.reduceLT, Nat.reduceEqDiff, wkG]
  refine Y_boxE O1 ?_
  intro b2 h2 be2 nb2 O2 e2
  replace O2 : Has h.ro h2 [Ob b2 (.cells [.int .i64 0, .int .i64 0, .slice none 0 0] 1 false), Ob b1 (.cells (ec e) 1 false)] := O2
  replace nb2 : 2 * h.next ≤ b2 := by have := e1.next; omega
  have e12 := e1.trans e2
  simp only [wkF, X_seq, Y_store, Y_makeMap, Y_buildSlice, ↓reduceIte, reduceCtorEq, wkO, wkS, Nat.reduceAdd, Nat.reduceLeDiff, Nat.reduceMul, Nat.reduceLT, Nat.reduceEqDiff, wkG]
  refine Y_boxE O2 ?_
  intro b3 h3 be3 nb3 O3 e3
  replace O3 : Has h.ro h3 [Ob b3 (.cells [.int .i64 0, .int .i64 0, .slice none 0 0] 1 false), Ob b2 (.cells [.int .i64 0, .int .i64 0, .slice none 0 0] 1 false), Ob b1 (.cells (ec e) 1 false)] := O3
  replace nb3 : 2 * h.next ≤ b3 := by have := e12.next; omega
  have e13 := e12.trans e3
  clear e1 e2 e3 e12 O O1 O2
  have g3 := O3.get 0 rfl
  have p3 := O3.can 0 rfl
  have O4 := O3.set 0 rfl (.cells [.int .i64 3, .int .i64 c, .slice none 0 0] 1 false)
  simp only [List.set_cons_zero] at O4
  have e14 := e13.setB b3 (.cells [.int .i64 3, .int .i64 c, .slice none 0 0] 1 false) be3 nb3
  simp only [g3, p3, wkF, ↓reduceIte, reduceCtorEq, Nat.reduceAdd, Nat.reduceLeDiff, Nat.reduceMul, Nat.reduceLT, Nat.reduceEqDiff, wkG, wkH]
  refine X_drawn _ fun an => ?_
  have q1 := O4.get 2 rfl
  simp only [q1, ec_len, tk_ec, tk_ec1, dr_ec1, agg_ec, ev_cells, set_ec, ec_one, wkF, ↓reduceIte, reduceCtorEq, Nat.reduceAdd, Nat.reduceLeDiff, Nat.reduceMul, Nat.reduceLT, Nat.reduceEqDiff, wkG, wkH]
  refine DF_newO (R := fun v => v = ev e0) (p := fun _ => Rs.emp) O4 (first_f (seen0_fine (fr := []) O4.fine (by intro x hx; cases hx))) ?_
  rintro v h5 f rfl O5 e5' hf5
  replace O5 := Has.emp.1 O5
  have e15 := e14.trans e5'
  clear e14 e5' e13 g3 p3 O3 O4 q1
  have g1 := O5.get 2 rfl
  have g2 := O5.get 1 rfl
  have p2 := O5.can 1 rfl
  have g3 := O5.get 0 rfl
  have p3 := O5.can 0 rfl
  by_cases he : e = e0
  · have hd : decide (e = e0) = true := decide_eq_true he
    simp only [eq_ev, hd, ec_len, tk_ec, tk_ec1, dr_ec1, agg_ec, ev_cells, set_ec, ec_one, g3, g2, p2, wkF, ↓reduceIte, reduceCtorEq, Nat.reduceAdd, Nat.reduceLeDiff, Nat.reduceMul, Nat.reduceLT, Nat.reduceEqDiff, wkG, wkH]
    have g6 : (h5.setB b2 (.cells [.int .i64 3, .int .i64 c, .slice none 0 0] 1 false)).get b2 = some (.cells [.int .i64 3, .int .i64 c, .slice none 0 0] 1 false) := get_setB_same be2 (by rw [g2]; rfl)
    refine leafC (cs := [.int .i64 3, .int .i64 c, .slice none 0 0]) rfl (by rw [g6]; rfl) ⟨e15.setB b2 _ be2 nb2, New.ex none (New.and rfl (New.and he New.emp))⟩
  · have hd : decide (e = e0) = false := decide_eq_false he
    simp (disch := first | assumption | omega | (simp only [wkX, *]; done) | (simp only [wkY]; omega)) only [eq_ev, hd, ec_len, tk_ec, tk_ec1, dr_ec1, agg_ec, ev_cells, set_ec, ec_one, g1, wkF, X_seq, Y_box, Y_store, Y_makeMap, ↓reduceIte, reduceCtorEq, wkO, wkS, Nat.reduceAdd, Nat.reduceLeDiff, Nat.reduceMul, Nat.reduceLT, Nat.reduceEqDiff, wkG]
    refine Y_buildSliceE O5 (cs := e5 e) rfl ?_
    intro b6 h6 be6 nb6 O6 e6
    have e16 := e15.trans e6
    replace nb6 : 2 * h.next ≤ b6 := by have := e15.next; omega
    have g3 := O6.get 1 rfl
    have p3 := O6.can 1 rfl
    have O7 := O6.set 1 rfl (.cells [.int .i64 3, .int .i64 c, .slice (some ⟨b6, 0, none⟩) 5 5] 1 false)
    simp only [List.set_cons_zero, List.set_cons_succ] at O7
    have e17 := e16.setB b3 (.cells [.int .i64 3, .int .i64 c, .slice (some ⟨b6, 0, none⟩) 5 5] 1 false) be3 nb3
    have g4 := O7.get 1 rfl
    have g5 := O7.get 2 rfl
    have p5 := O7.can 2 rfl
    have O8 := O7.set 2 rfl (.cells [.int .i64 3, .int .i64 c, .slice (some ⟨b6, 0, none⟩) 5 5] 1 false)
    simp only [List.set_cons_zero, List.set_cons_succ] at O8
    have e18 := e17.setB b2 (.cells [.int .i64 3, .int .i64 c, .slice (some ⟨b6, 0, none⟩) 5 5] 1 false) be2 nb2
    simp only [g3, p3, g4, g5, p5, slI, wkF, ↓reduceIte, reduceCtorEq, Nat.reduceAdd, Nat.reduceLeDiff, Nat.reduceMul, Nat.reduceLT, Nat.reduceEqDiff, wkG, wkH]
    have g8 := O8.get 2 rfl
    refine leafC (cs := [.int .i64 3, .int .i64 c, .slice (some ⟨b6, 0, none⟩) 5 5]) rfl (by rw [g8]; rfl) ⟨e18, New.ex (some b6) (New.and rfl (New.and he (New.ob (O8.get 0 rfl) be6 nb6 (O8.info (i := 0) rfl).2.2.2.1)))⟩
end
structure Wr where
  c : Int
  e : En
  d : Option Nat
def wc (w : Wr) : List Value := [.int .i64 3, .int .i64 w.c, dvv w.d]
structure Po where
  to : Int
  kd : Int
  cell : Int
  gen : Int
  stamp : Int
  prio : Int
  hops : Int
  orig : Int
  oth : Int
def mc (m : Po) : List Value := [.int .i64 m.kd, .int .i64 m.cell, .int .u32 m.gen, .int .u64 m.stamp, .int .i64 m.prio, .int .i64 m.hops, .int .i64 m.orig, .int .i64 m.oth, .slice none 0 0]
def pc (m : Po) : List Value := .int .i64 m.to :: mc m
def zc (x : Int) : List Value := [.int .i64 x]
structure Ou where
  ws : List Wr
  ps : List Po
  bs : List Int
def Dts (l : List Wr) : Rs := Rs.all (l.map fun w => Dt w.d w.e)
def Oo (wv pv bv : Value) (o : Ou) : Rs := Rs.all [Sc 3 wc wv o.ws, Sc 10 pc pv o.ps, Sc 1 zc bv o.bs, Dts o.ws]
def Og (ob : Nat) (o : Ou) : Rs := Rs.ex fun x : Value × Value × Value => Rs.all [Ob ob (.cells [x.1, x.2.1, x.2.2] 1 false), Oo x.1 x.2.1 x.2.2 o]
section
variable {ro : Nat → Option (List Value × Nat)} {h : Heap} {R : List Rs} {ob : Nat} {o : Ou} {n : Nat}
theorem Has.ogOpen (O : Has ro h (Og ob o :: R)) : ∃ wv pv bv, Has ro h (Ob ob (.cells [wv, pv, bv] 1 false) :: Sc 3 wc wv o.ws :: Sc 10 pc pv o.ps :: Sc 1 zc bv o.bs :: Dts o.ws :: R) := by
  obtain ⟨⟨wv, pv, bv⟩, O⟩ := Has.ex.1 O
  have O1 := Has.all.1 O
  simp only [List.cons_append, List.nil_append] at O1
  have O2 := Has.all.1 O1.swap2
  simp only [List.cons_append, List.nil_append] at O2
  exact ⟨wv, pv, bv, (O2.at 4 rfl)⟩
theorem Has.ogClose {wv pv bv : Value} (O : Has ro h (Ob ob (.cells [wv, pv, bv] 1 false) :: Sc 3 wc wv o.ws :: Sc 10 pc pv o.ps :: Sc 1 zc bv o.bs :: Dts o.ws :: R)) : Has ro h (Og ob o :: R) := by
  refine Has.ex.2 ⟨(wv, pv, bv), Has.all.2 ?_⟩
  simp only [List.cons_append, List.nil_append]
  refine Has.swap2 (Has.all.2 ?_)
  simp only [List.cons_append, List.nil_append]
  exact O.perm (by
    refine List.Perm.trans (List.Perm.swap _ _ _) (List.Perm.cons _ ?_)
    refine List.Perm.trans (List.Perm.swap _ _ _) (List.Perm.cons _ ?_)
    refine List.Perm.trans (List.Perm.swap _ _ _) (List.Perm.cons _ ?_)
    exact List.Perm.swap _ _ _)
theorem Has.dtsAdd {l : List Wr} {w : Wr} (O : Has ro h (Dt w.d w.e :: Dts l :: R)) : Has ro h (Dts (l ++ [w]) :: R) := by
  refine Has.all.2 ?_
  have O1 := Has.all.1 O.swap2
  rw [List.map_append, List.append_assoc]
  exact O1
end
theorem mc_len (m : Po) : (mc m).length = 9 := rfl
theorem tk_mc (m : Po) : List.take 9 (mc m) = mc m := rfl
theorem pc_len (m : Po) : (pc m).length = 10 := rfl
theorem pc_one (m : Po) : (pc m).all oneCell = true := rfl
theorem zc_len (x : Int) : (zc x).length = 1 := rfl
theorem zc_one (x : Int) : (zc x).all oneCell = true := rfl
def Ou.post (o : Ou) (m : Po) : Ou := { o with ps := o.ps ++ [m], bs := o.bs ++ [(o.ws.length : Int)] }
section
variable {ro : Nat → Option (List Value × Nat)} {h : Heap} {R : List Rs} {lb ob : Nat} {S : Ls} {o : Ou} {n : Nat}
theorem post_h (m : Po) (hp : o.ps.length < 1000000) (hb : o.bs.length < 1000000) (O : Has ro h (Og ob o :: R)) :
    (callV env (n + 1) (.func (.func 39) #[] #[]) [.pointer (some ⟨ob, 0, none⟩), .int .i64 m.to, .agg (mc m).toArray] h).Is fun p => Has ro p.2 (Og ob (o.post m) :: R) := by
  refine call_is env39 ?_
  simp only [ir39, Nat.reduceAdd, Nat.reduceSub, wkF, X_seq, Y_store, Y_makeMap, Y_buildSlice, ↓reduceIte, reduceCtorEq, wkO, wkS, wkN, wkG]
  refine Y_boxO O ?_
  intro b1 h1 O1 e1
  replace O1 : Has ro h1 (Og ob o :: Ob b1 (.cells (mc m) 1 false) :: R) := O1.swap2
  obtain ⟨wv, pv, bv, O2⟩ := Has.ogOpen O1
  have g1 := O2.get 0 rfl
  have gm := O2.get 5 rfl
  simp only [wkF, ↓reduceIte, reduceCtorEq, Nat.reduceAdd, wkG, wkH]
  refine X_drawn _ fun an => ?_
  have bs : pBuildSlice h1 10 1 [.int .i64 0, .int .i64 0, .int .i64 0, .int .u32 0, .int .u64 0, .int .i64 0, .int .i64 0, .int .i64 0, .int .i64 0, .slice none 0 0] [(0, 10, .agg (setAt [.int .i64 m.to, .int .i64 0, .int .i64 0, .int .u32 0, .int .u64 0, .int .i64 0, .int .i64 0, .int .i64 0, .int .i64 0, .slice none 0 0] 1 (mc m)).toArray)] = some (.slice (some ⟨2 * h1.next, 0, none⟩) 1 1, h1.alloc (.cells (pc m) 10 false)) := rfl
  have O3 := O2.alloc (.cells (pc m) 10 false)
  obtain ⟨pv2, h3, ap, O4⟩ := sc_appendV (bytes := 96) (by decide) pc_len pc_one (O3.at 3 rfl) (Has.one (O3.at 3 rfl) 1 rfl) (by show (o.ps.length + 1) * 96 ≤ roomMost; unfold roomMost; omega) (by decide)
  simp only [List.eraseIdx_cons_succ, List.eraseIdx_cons_zero] at O4
  obtain ⟨pp, pcap, hpv, _⟩ := O4.scVal 0 rfl
  subst hpv
  have g4 := O4.get 2 rfl
  have p4 := O4.can 2 rfl
  have O5 := O4.set 2 rfl (.cells [wv, .slice pp (o.ps ++ [m]).length pcap, bv] 1 false)
  simp only [List.set_cons_zero, List.set_cons_succ] at O5
  simp only [g1, gm, tk_mc, mc_len, bs, ap, g4, p4, slI, wkF, ↓reduceIte, reduceCtorEq, Nat.reduceAdd, Nat.reduceLeDiff, Nat.reduceMul, Nat.reduceLT, Nat.reduceEqDiff, wkG, wkH]
  clear ap bs g1 gm g4 p4 O O1 O2 O3 O4 e1
  generalize h3.setB ob _ = h5 at O5 ⊢
  refine X_drawn _ fun an => ?_
  have g5 := O5.get 2 rfl
  obtain ⟨wp, wcap, hwv, _⟩ := O5.scVal 3 rfl
  subst hwv
  have bs : pBuildSlice h5 1 1 [.int .i64 0] [(0, 1, .int .i64 (o.ws.length : Int))] = some (.slice (some ⟨2 * h5.next, 0, none⟩) 1 1, h5.alloc (.cells (zc (o.ws.length : Int)) 1 false)) := rfl
  have O6 := O5.alloc (.cells (zc (o.ws.length : Int)) 1 false)
  obtain ⟨bv2, h7, ap, O7⟩ := sc_appendV (bytes := 8) (by decide) zc_len zc_one (O6.at 5 rfl) (Has.one (O6.at 5 rfl) 1 rfl) (by show (o.bs.length + 1) * 8 ≤ roomMost; unfold roomMost; omega) (by decide)
  simp only [List.eraseIdx_cons_succ, List.eraseIdx_cons_zero] at O7
  obtain ⟨bp, bcap, hbv, _⟩ := O7.scVal 0 rfl
  subst hbv
  have g7 := O7.get 4 rfl
  have p7 := O7.can 4 rfl
  have O8 := O7.set 4 rfl (.cells [.slice wp o.ws.length wcap, .slice pp (o.ps ++ [m]).length pcap, .slice bp (o.bs ++ [(o.ws.length : Int)]).length bcap] 1 false)
  simp only [List.set_cons_zero, List.set_cons_succ] at O8
  simp only [g5, bs, ap, g7, p7, slI, wkF, ↓reduceIte, reduceCtorEq, Nat.reduceAdd, Nat.reduceLeDiff, Nat.reduceMul, Nat.reduceLT, Nat.reduceEqDiff, wkG, wkH]
  refine leaf0n ?_
  have O9 := ((((((((O8.rid 7 rfl).rid 3 rfl).rid 1 rfl).at 4 rfl).at 1 rfl).at 2 rfl).at 4 rfl).at 4 rfl)
  exact Has.ogClose (o := o.post m) O9
def setE (l : List (Int × En)) (c : Int) (e : En) : List (Int × En) := if e = e0 then del1 (upd1 l c e) c else upd1 l c e
def Ls.set (S : Ls) (c : Int) (e : En) : Ls := { S with ents := setE S.ents c e }
def Ou.wr (o : Ou) (c : Int) (e : En) (d : Option Nat) : Ou := { o with ws := o.ws ++ [⟨c, e, d⟩] }
theorem wc_len (x : Wr) : (wc x).length = 3 := rfl
theorem wc_one (x : Wr) : (wc x).all oneCell = true := by obtain ⟨c, e, d⟩ := x; cases d <;> rfl
theorem set_h (c : Int) (e : En) (hw : o.ws.length < 1000000) (O : Has ro h (Lg lb S :: Og ob o :: R)) :
    (callV env (n + 3) (.func (.func 34) #[] #[]) [.pointer (some ⟨lb, 0, none⟩), .int .i64 c, ev e, .pointer (some ⟨ob, 0, none⟩)] h).Is fun p => ∃ d, Has ro p.2 (Lg lb (S.set c e) :: Og ob (o.wr c e d) :: R) := by
  refine call_is env34 ?_
  simp only [ir34, Nat.reduceAdd, Nat.reduceSub, wkF, X_seq, Y_store, Y_makeMap, Y_buildSlice, ↓reduceIte, reduceCtorEq, wkO, wkS, wkN, wkG]
  refine Y_boxO O ?_
  intro b1 h1 O1 e1
  replace O1 : Has ro h1 (Ob b1 (.cells (ec e) 1 false) :: Lg lb S :: Og ob o :: R) := O1
  obtain ⟨eb, qb, tb, O2⟩ := Has.lgOpen (O1.at 1 rfl)
  replace O2 : Has ro h1 (Ob lb (.cells (lc S eb qb tb) 1 false) :: Mp K64 ev eb S.ents :: Mp K64 pq qb S.qs :: Mp K64 tv tb S.told :: Qall S.qs S.W :: Ob b1 (.cells (ec e) 1 false) :: Og ob o :: R) := O2
  have g1 := O2.get 0 rfl
  unfold lc at g1
  have g2 := O2.get 5 rfl
  obtain ⟨h3, u3, O3⟩ := O2.mpUpd 1 rfl c e
  simp only [List.set_cons_zero, List.set_cons_succ] at O3
  have u3' : vMapUpdate h1 none (.map (some eb)) (.int .i64 c) (ev e) = some h3 := u3
  have g3 := O3.get 5 rfl
  simp only [wkF, ↓reduceIte, reduceCtorEq, Nat.reduceAdd, wkG, wkH]
  refine X_drawn _ fun an => ?_
  simp only [g1, g2, ec_len, tk_ec, tk_ec1, dr_ec1, agg_ec, ev_cells, set_ec, ec_one, D_mapUpdateB, u3', DHB_some, wkF, Y_box, Y_store, Y_makeMap, Y_buildSlice, ↓reduceIte, reduceCtorEq, wkO, wkS, Nat.reduceAdd, Nat.reduceLeDiff, Nat.reduceMul, Nat.reduceLT, Nat.reduceEqDiff, wkG]
  rw [X_seq]
  clear u3 u3' g1 g2 O2 O1 O e1
  refine X_cut0 (fun s => s.tmps.length = 34 ∧ s.tmps.getD 0 undefV = .pointer (some ⟨lb, 0, none⟩) ∧ s.tmps.getD 1 undefV = .int .i64 c ∧ s.tmps.getD 3 undefV = .pointer (some ⟨ob, 0, none⟩) ∧ s.tmps.getD 6 undefV = .pointer (some ⟨b1, 0, none⟩) ∧ Has ro s.h (Ob lb (.cells (lc (S.set c e) eb qb tb) 1 false) :: Mp K64 ev eb (S.set c e).ents :: Mp K64 pq qb S.qs :: Mp K64 tv tb S.told :: Qall S.qs S.W :: Ob b1 (.cells (ec e) 1 false) :: Og ob o :: R)) ?_ ?_
  · simp only [wkF, ↓reduceIte, reduceCtorEq, Nat.reduceAdd, wkG, wkH]
    refine X_drawn _ fun an => ?_
    simp only [g3, ec_len, tk_ec, tk_ec1, dr_ec1, agg_ec, ev_cells, set_ec, ec_one, wkF, ↓reduceIte, reduceCtorEq, Nat.reduceAdd, Nat.reduceLeDiff, Nat.reduceMul, Nat.reduceLT, Nat.reduceEqDiff, wkG, wkH]
    refine DF_newO (R := fun v => v = ev e0) (p := fun _ => Rs.emp) O3 (first_f (seen0_fine (fr := []) O3.fine (by intro x hx; cases hx))) ?_
    rintro v h4 f rfl O4 e4 hf4
    replace O4 := Has.emp.1 O4
    have g4 := O4.get 0 rfl
    unfold lc at g4
    by_cases he : e = e0
    · have hd : decide (e = e0) = true := decide_eq_true he
      obtain ⟨h5, u5, O5⟩ := O4.mpDel 1 rfl c
      have u5' : vDelete h4 none (.map (some eb)) (.int .i64 c) = some h5 := u5
      simp only [g4, eq_ev, hd, u5', wkF, ↓reduceIte, reduceCtorEq, Nat.reduceAdd, Nat.reduceLeDiff, Nat.reduceMul, Nat.reduceLT, Nat.reduceEqDiff, wkG, wkH]
      refine mid_in ⟨rfl, rfl, rfl, rfl, rfl, ?_⟩
      have : (S.set c e).ents = del1 (upd1 S.ents c e) c := by unfold Ls.set setE; rw [if_pos he]
      rw [this]
      exact O5
    · have hd : decide (e = e0) = false := decide_eq_false he
      simp only [eq_ev, hd, wkF, ↓reduceIte, reduceCtorEq, Nat.reduceAdd, wkG, wkH]
      refine mid_in ⟨rfl, rfl, rfl, rfl, rfl, ?_⟩
      have : (S.set c e).ents = upd1 S.ents c e := by unfold Ls.set setE; rw [if_neg he]
      rw [this]
      exact O4
  clear g3 O3 h3 an
  rintro tm h5 ⟨hlen_, g0, g1, g3, g6, O5⟩
  simp only at g0 g1 g3 g6 O5
  obtain ⟨w, hg_, rfl⟩ := explode hlen_
  simp only [hg_] at g0 g1 g3 g6
  clear hlen_ hg_
  obtain ⟨wv, pv, bv, O6⟩ := Has.ogOpen (O5.at 6 rfl)
  replace O6 : Has ro h5 (Ob ob (.cells [wv, pv, bv] 1 false) :: Sc 3 wc wv o.ws :: Sc 10 pc pv o.ps :: Sc 1 zc bv o.bs :: Dts o.ws :: Ob lb (.cells (lc (S.set c e) eb qb tb) 1 false) :: Mp K64 ev eb (S.set c e).ents :: Mp K64 pq qb S.qs :: Mp K64 tv tb S.told :: Qall S.qs S.W :: Ob b1 (.cells (ec e) 1 false) :: R) := O6
  have q1 := O6.get 0 rfl
  have q2 := O6.get 10 rfl
  simp only [kont_code, wkF, ↓reduceIte, reduceCtorEq, Nat.reduceAdd, wkG, wkH]
  refine X_drawn _ fun an => ?_
  simp only [g0, g1, g3, g6, q1, q2, ec_len, tk_ec, tk_ec1, dr_ec1, agg_ec, ev_cells, set_ec, ec_one, wkF, ↓reduceIte, reduceCtorEq, Nat.reduceAdd, Nat.reduceLeDiff, Nat.reduceMul, Nat.reduceLT, Nat.reduceEqDiff, wkG, wkH]
  refine DF_newO (R := fun _ => True) (p := fun v => Rs.ex fun d => Rs.and (v = .agg #[.int .i64 3, .int .i64 c, dvv d]) (Dt d e)) O6 (record_e (n := n) c e (seen0_fine (fr := []) O6.fine (by intro x hx; cases hx))) ?_
  rintro v h6 f _ O7 e7 hf7
  obtain ⟨d, O7⟩ := Has.ex.1 O7
  obtain ⟨hv, O8⟩ := Has.and.1 O7
  subst hv
  clear O7 O6 O5 q1 q2 e7
  have bs : pBuildSlice h6 3 1 [.int .i64 0, .int .i64 0, .slice none 0 0] [(0, 3, .agg #[.int .i64 3, .int .i64 c, dvv d])] = some (.slice (some ⟨2 * h6.next, 0, none⟩) 1 1, h6.alloc (.cells (wc ⟨c, e, d⟩) 3 false)) := by cases d <;> rfl
  have O9 := O8.alloc (.cells (wc ⟨c, e, d⟩) 3 false)
  obtain ⟨wv2, h10, ap, O10⟩ := sc_appendV (bytes := 40) (by decide) wc_len wc_one (O9.at 3 rfl) (Has.one (O9.at 3 rfl) 1 rfl) (by show (o.ws.length + 1) * 40 ≤ roomMost; unfold roomMost; omega) (by decide)
  simp only [List.eraseIdx_cons_succ, List.eraseIdx_cons_zero] at O10
  obtain ⟨wp, wcap, hwv, _⟩ := O10.scVal 0 rfl
  subst hwv
  have g10 := O10.get 3 rfl
  have p10 := O10.can 3 rfl
  have O11 := O10.set 3 rfl (.cells [.slice wp (o.ws ++ [(⟨c, e, d⟩ : Wr)]).length wcap, pv, bv] 1 false)
  simp only [List.set_cons_zero, List.set_cons_succ] at O11
  simp only [bs, ap, g10, p10, slI, wkF, ↓reduceIte, reduceCtorEq, Nat.reduceAdd, Nat.reduceLeDiff, Nat.reduceMul, Nat.reduceLT, Nat.reduceEqDiff, wkG, wkH]
  refine leaf0n ⟨d, ?_⟩
  clear ap bs g10 p10 O8 O9 O10
  have O12 := Has.dtsAdd (w := ⟨c, e, d⟩) ((((O11.rid 12 rfl).rid 1 rfl).at 5 rfl).at 2 rfl)
  have O13 := Has.ogClose (o := o.wr c e d) ((((O12.at 4 rfl).at 4 rfl).at 3 rfl).at 4 rfl)
  exact Has.lgClose (S := S.set c e) (((((O13.at 5 rfl).at 5 rfl).at 5 rfl).at 5 rfl).at 5 rfl)
end
theorem env40 : env 40 = some ir40 := rfl
theorem env38 : env 38 = some ir38 := rfl
def dny (w : It) (c oth : Int) : Po := ⟨w.r, 5, c, 0, w.s, 0, 0, 0, oth⟩
def grt (w : It) (c g : Int) : Po := ⟨w.r, 2, c, g, w.s, 0, 0, 0, 0⟩
def Ls.grant (S : Ls) (w : It) (c : Int) : Ls := if (S.E c).g = 4294967295 then S else S.set c ⟨w.r, (S.E c).g + 1⟩
def Ou.grant (o : Ou) (S : Ls) (w : It) (c : Int) (d : Option Nat) : Ou := if (S.E c).g = 4294967295 then o.post (dny w c (-1)) else (o.wr c ⟨w.r, (S.E c).g + 1⟩ d).post (grt w c ((S.E c).g + 1))
theorem tk_ic1 (x : It) : List.take 1 (ic x) = [.int .i64 x.r] := rfl
theorem dr_ic1 (x : It) : List.drop 1 (ic x) = [.int .u64 x.s, .int .i64 x.p] := rfl
theorem dr_ic2 (x : It) : List.drop 2 (ic x) = [.int .i64 x.p] := rfl
theorem set2_ec (x : En) (a b : Int) : ((ec x).set 0 (.int .i64 a)).set 1 (.int .u32 b) = ec ⟨a, b⟩ := rfl
structure Sm (o : Ou) (k : Nat) : Prop where
  w : o.ws.length < k
  p : o.ps.length < k
  b : o.bs.length < k
section
variable {ro : Nat → Option (List Value × Nat)} {h : Heap} {R : List Rs} {lb ob : Nat} {S : Ls} {o : Ou} {n : Nat}
theorem entry_h (c : Int) (O : Has ro h (Lg lb S :: R)) : (callV env (n + 2) (.func (.func 32) #[] #[]) [.pointer (some ⟨lb, 0, none⟩), .int .i64 c] h).Is fun p => p.1 = ev (S.E c) ∧ Has ro p.2 (Lg lb S :: R) := by
  obtain ⟨eb, qb, tb, O1⟩ := Has.lgOpen O
  exact T.Is.mono (fun p hp => ⟨hp.1, O.ext hp.2⟩) (entry_e c O1)
theorem grant_h (w : It) (c : Int) (hg : 0 ≤ (S.E c).g ∧ (S.E c).g ≤ 4294967295) (ho : Sm o 999998) (O : Has ro h (Lg lb S :: Og ob o :: R)) :
    (callV env (n + 5) (.func (.func 40) #[] #[]) [.pointer (some ⟨lb, 0, none⟩), iv w, .int .i64 c, .pointer (some ⟨ob, 0, none⟩)] h).Is fun p => ∃ d, p.1 = .bool (decide ((S.E c).g ≠ 4294967295)) ∧ Has ro p.2 (Lg lb (S.grant w c) :: Og ob (o.grant S w c d) :: R) := by
  obtain ⟨ho1, ho2, ho3⟩ := ho
  refine call_is env40 ?_
  simp only [ir40, Nat.reduceAdd, Nat.reduceSub, wkF, X_seq, Y_store, Y_makeMap, Y_buildSlice, ↓reduceIte, reduceCtorEq, wkO, wkS, wkN, wkG]
  refine Y_boxO O ?_
  intro b1 h1 O1 e1
  replace O1 : Has ro h1 (Lg lb S :: Og ob o :: Ob b1 (.cells (ic w) 1 false) :: R) := O1.at 1 rfl |>.at 2 rfl |>.at 1 rfl
  simp only [wkF, X_seq, Y_store, Y_makeMap, Y_buildSlice, ↓reduceIte, reduceCtorEq, wkO, wkS, Nat.reduceAdd, wkG]
  refine Z_is (entry_h (n := n + 2) c O1) ?_
  rintro v h2 ⟨rfl, O2⟩
  simp only at O2
  simp only [wkF, X_seq, Y_store, Y_makeMap, Y_buildSlice, ↓reduceIte, reduceCtorEq, wkO, wkS, Nat.reduceAdd, wkG]
  refine Y_boxO O2 ?_
  intro b3 h3 O3 e3
  replace O3 : Has ro h3 (Ob b3 (.cells [.int .i64 0, .int .u32 0] 1 false) :: Lg lb S :: Og ob o :: Ob b1 (.cells (ic w) 1 false) :: R) := O3
  have g3 := O3.get 0 rfl
  have p3 := O3.can 0 rfl
  have O4 := O3.set 0 rfl (.cells (ec (S.E c)) 1 false)
  simp only [List.set_cons_zero] at O4
  have g4 := O4.get 0 rfl
  have g5 := O4.get 3 rfl
  by_cases hm : (S.E c).g = 4294967295
  · simp only [ec_len, tk_ec, tk_ec1, dr_ec1, agg_ec, ev_cells, set_ec, ec_one, ic_len, tk_ic, tk_ic1, dr_ic1, dr_ic2, agg_ic, iv_cells, set_ic, ic_one, g3, p3, g4, g5, hm, wkF, ↓reduceIte, reduceCtorEq, Nat.reduceAdd, Nat.reduceLeDiff, Nat.reduceMul, Nat.reduceLT, Nat.reduceEqDiff, wkG, wkH]
    refine Z_is (post_h (n := n + 3) (dny w c (-1)) (by omega) (by omega) (O4.at 2 rfl)) ?_
    rintro v h5 O5
    simp only [wkF, ↓reduceIte, reduceCtorEq, Nat.reduceAdd, wkG, wkH]
    refine leaf1 ⟨none, by simp [hm], ?_⟩
    have e1 : S.grant w c = S := by unfold Ls.grant; rw [if_pos hm]
    have e2 : o.grant S w c none = o.post (dny w c (-1)) := by unfold Ou.grant; rw [if_pos hm]
    rw [e1, e2]
    exact (((O5.rid 3 rfl).rid 1 rfl).swap2)
  · have y1 : IntKind.u32.wrap ((S.E c).g + 1) = (S.E c).g + 1 := by rw [wrap_u32_mod]; omega
    have p4 := O4.can 0 rfl
    have O5 := O4.set 0 rfl (.cells (ec ⟨w.r, (S.E c).g + 1⟩) 1 false)
    simp only [List.set_cons_zero] at O5
    have g6 := O5.get 0 rfl
    simp only [ec_len, tk_ec, tk_ec1, dr_ec1, agg_ec, ev_cells, set_ec, ec_one, ic_len, tk_ic, tk_ic1, dr_ic1, dr_ic2, agg_ic, iv_cells, set_ic, ic_one, g3, p3, g4, g5, hm, y1, p4, set2_ec, g6, wkF, ↓reduceIte, reduceCtorEq, Nat.reduceAdd, Nat.reduceLeDiff, Nat.reduceMul, Nat.reduceLT, Nat.reduceEqDiff, wkG, wkH]
    clear g3 p3 g4 g5 p4 g6
    refine Z_is (set_h (n := n + 1) c ⟨w.r, (S.E c).g + 1⟩ (by omega) ((O5.at 2 rfl).at 2 rfl)) ?_
    rintro v h6 ⟨d, O6⟩
    simp only at O6
    have g3 := O6.get 2 rfl
    have g4 := O6.get 3 rfl
    simp only [ec_len, tk_ec, tk_ec1, dr_ec1, agg_ec, ev_cells, set_ec, ec_one, ic_len, tk_ic, tk_ic1, dr_ic1, dr_ic2, agg_ic, iv_cells, set_ic, ic_one, g3, g4, wkF, ↓reduceIte, reduceCtorEq, Nat.reduceAdd, Nat.reduceLeDiff, Nat.reduceMul, Nat.reduceLT, Nat.reduceEqDiff, wkG, wkH]
    refine Z_is (post_h (n := n + 3) (o := o.wr c ⟨w.r, (S.E c).g + 1⟩ d) (grt w c ((S.E c).g + 1)) (by show o.ps.length < 1000000; omega) (by show o.bs.length < 1000000; omega) (O6.at 1 rfl)) ?_
    rintro v h7 O7
    simp only [wkF, ↓reduceIte, reduceCtorEq, Nat.reduceAdd, wkG, wkH]
    refine leaf1 ⟨d, by simp [hm], ?_⟩
    have e1 : S.grant w c = S.set c ⟨w.r, (S.E c).g + 1⟩ := by unfold Ls.grant; rw [if_neg hm]
    have e2 : o.grant S w c d = (o.wr c ⟨w.r, (S.E c).g + 1⟩ d).post (grt w c ((S.E c).g + 1)) := by unfold Ou.grant; rw [if_neg hm]
    rw [e1, e2]
    exact (((O7.rid 3 rfl).rid 2 rfl).swap2)
end
section
variable {ro : Nat → Option (List Value × Nat)} {h : Heap} {R : List Rs} {lb ob : Nat} {S : Ls} {o : Ou} {n : Nat}
theorem all_n : (callV env (n + 1) (.func (.func 69) #[] #[]) [.pointer none] h).Is fun p => p.1 = .func (.func 73) #[] #[.pointer (some ⟨2 * h.next, 0, none⟩)] ∧ p.2 = h.alloc (.cells [.pointer none] 1 false) := by
  refine call_is env69 ?_
  simp only [ir69, Nat.reduceAdd, Nat.reduceSub, wkF, ↓reduceIte, reduceCtorEq, wkN, wkG, wkH]
  exact leaf1 ⟨rfl, rfl⟩
theorem place_n (r : Int) (O : Has ro h R) : (callV env (n + 4) (.func (.func 67) #[] #[]) [.pointer none, .int .i64 r] h).Is fun p => p.1 = .int .i64 (-1) ∧ Has ro p.2 R := by
  refine call_is env67 ?_
  simp only [ir67, Nat.reduceAdd, Nat.reduceSub, wkF, X_seq, Y_store, Y_makeMap, Y_buildSlice, ↓reduceIte, reduceCtorEq, wkO, wkS, wkN, wkG]
  refine Y_boxO O ?_
  intro b1 h1 O1 e1
  simp only [wkF, X_seq, Y_store, Y_makeMap, Y_buildSlice, ↓reduceIte, reduceCtorEq, wkO, wkS, Nat.reduceAdd, wkG]
  refine Y_boxO O1 ?_
  intro b2 h2 O2 e2
  replace O2 : Has ro h2 (Ob b2 (.cells [.int .i64 0] 1 false) :: Ob b1 (.cells [.int .i64 r] 1 false) :: R) := O2
  have g2 := O2.get 0 rfl
  have p2 := O2.can 0 rfl
  have O3 := O2.set 0 rfl (.cells [.int .i64 (-1)] 1 false)
  simp only [List.set_cons_zero] at O3
  simp only [g2, p2, wkF, ↓reduceIte, reduceCtorEq, Nat.reduceAdd, Nat.reduceLeDiff, Nat.reduceMul, Nat.reduceLT, Nat.reduceEqDiff, wkG, wkH]
  refine Z_is (all_n (n := n + 2)) ?_
  rintro v h4 ⟨rfl, rfl⟩
  have O4 : Has ro _ (Ob (2 * h2.next) (.cells [.pointer none] 1 false) :: Ob b2 (.cells [.int .i64 (-1)] 1 false) :: Ob b1 (.cells [.int .i64 r] 1 false) :: R) := O3.alloc (.cells [.pointer none] 1 false)
  simp only [wkF, ↓reduceIte, reduceCtorEq, Nat.reduceAdd, wkG, wkH]
  generalize 2 * h2.next = bE at O4 ⊢
  refine X_abs O4 ?_
  clear g2 p2 O O1 O2 O3 O4 e1 e2
  intro h5 O5
  refine X_rangeO O5 (g := 73) (first := #[]) rfl ?_
  intro m l h6 O6
  refine call_is env73 ?_
  have gE := O6.get 2 rfl
  simp only [ir73, Nat.reduceAdd, Nat.reduceSub, gE, vEqPtr_none, Bool.not_false, wkF, ↓reduceIte, reduceCtorEq, Nat.reduceLeDiff, Nat.reduceMul, Nat.reduceLT, Nat.reduceEqDiff, wkN, wkG, wkH]
  refine leaf0 ⟨_, _, ?_, O6, fun h7 O7 => ?_⟩
  · intro h; cases h
  · have gB := O7.get 2 rfl
    simp only [gB, wkF, ↓reduceIte, reduceCtorEq, Nat.reduceAdd, Nat.reduceLeDiff, Nat.reduceMul, Nat.reduceLT, Nat.reduceEqDiff, wkG, wkH]
    refine leafMO O7 0 rfl fun h8 O8 => ?_
    simp only [List.set_cons_succ, List.set_cons_zero] at O8
    exact ⟨_, rfl, rfl, O8.drop.drop.drop.drop⟩
theorem first_n (O : Has ro h R) : (callV env (n + 3) (.func (.func 57) #[] #[]) [.pointer none] h).Is fun p => p.1 = .tuple #[iv it0, .bool false] ∧ Has ro p.2 R := by
  refine call_is env57 ?_
  simp only [ir57, Nat.reduceAdd, Nat.reduceSub, wkF, X_seq, Y_store, Y_makeMap, Y_buildSlice, ↓reduceIte, reduceCtorEq, wkO, wkS, wkN, wkG]
  refine Y_boxO O ?_
  intro b1 h1 O1 e1
  simp only [wkF, X_seq, Y_store, Y_makeMap, Y_buildSlice, ↓reduceIte, reduceCtorEq, wkO, wkS, Nat.reduceAdd, wkG]
  refine Y_boxO O1 ?_
  intro b2 h2 O2 e2
  replace O2 : Has ro h2 (Ob b2 (.cells [.bool false] 1 false) :: Ob b1 (.cells (ic it0) 1 false) :: R) := O2
  simp only [wkF, ↓reduceIte, reduceCtorEq, Nat.reduceAdd, wkG, wkH]
  refine Z_is (all_n (n := n + 1)) ?_
  rintro v h4 ⟨rfl, rfl⟩
  have O4 : Has ro _ (Ob (2 * h2.next) (.cells [.pointer none] 1 false) :: Ob b2 (.cells [.bool false] 1 false) :: Ob b1 (.cells (ic it0) 1 false) :: R) := O2.alloc (.cells [.pointer none] 1 false)
  simp only [wkF, ↓reduceIte, reduceCtorEq, Nat.reduceAdd, wkG, wkH]
  generalize 2 * h2.next = bE at O4 ⊢
  refine X_abs O4 ?_
  clear O O1 O2 O4 e1 e2
  intro h5 O5
  refine X_rangeO O5 (g := 73) (first := #[]) rfl ?_
  intro m l h6 O6
  refine call_is env73 ?_
  have gE := O6.get 2 rfl
  simp only [ir73, Nat.reduceAdd, Nat.reduceSub, gE, vEqPtr_none, Bool.not_false, wkF, ↓reduceIte, reduceCtorEq, Nat.reduceLeDiff, Nat.reduceMul, Nat.reduceLT, Nat.reduceEqDiff, wkN, wkG, wkH]
  refine leaf0 ⟨_, _, ?_, O6, fun h11 O11 => ?_⟩
  · intro h; cases h
  · have gA := O11.get 3 rfl
    have pA := O11.can 3 rfl
    have O13 := O11.set 3 rfl (.cells (ic it0) 1 false)
    simp only [List.set_cons_succ, List.set_cons_zero] at O13
    have gB := O13.get 2 rfl
    have pB := O13.can 2 rfl
    have O14 := O13.set 2 rfl (.cells [.bool false] 1 false)
    simp only [List.set_cons_succ, List.set_cons_zero] at O14
    unfold ic it0 at gA gB pB O14
    simp only [gA, pA, gB, pB, wkF, ↓reduceIte, reduceCtorEq, Nat.reduceAdd, Nat.reduceLeDiff, Nat.reduceMul, Nat.reduceLT, Nat.reduceEqDiff, wkG, wkH]
    refine leafMO O14 0 rfl fun h12 O12 => ?_
    simp only [List.set_cons_succ, List.set_cons_zero] at O12
    exact ⟨_, answer2 _ _ _ _ (cellN O12 3 rfl rfl rfl) (cell1 O12 2 rfl rfl), rfl, O12.drop.drop.drop.drop⟩
theorem cut_n (r : Int) (O : Has ro h R) : (callV env (n + 5) (.func (.func 54) #[] #[]) [.pointer none, .int .i64 r] h).Is fun p => p.1 = .bool false ∧ Has ro p.2 R := by
  refine call_is env54 ?_
  simp only [ir54, Nat.reduceAdd, Nat.reduceSub, wkF, ↓reduceIte, reduceCtorEq, wkN, wkG, wkH]
  refine Z_is (place_n r O) ?_
  rintro v h1 ⟨rfl, O1⟩
  simp only at O1
  have m1 : ¬ (0 : Int) ≤ -1 := by omega
  simp only [m1, wkF, ↓reduceIte, reduceCtorEq, Nat.reduceAdd, wkG, wkH]
  exact leaf1 ⟨rfl, O1⟩
theorem waiters_n (O : Has ro h R) : (callV env (n + 1) (.func (.func 53) #[] #[]) [.pointer none] h).Is fun p => p.1 = .slice none 0 0 ∧ Has ro p.2 R := by
  refine call_is env53 ?_
  simp only [ir53, Nat.reduceAdd, Nat.reduceSub, vEqPtr_none, Bool.not_false, wkF, ↓reduceIte, reduceCtorEq, wkN, wkG, wkH]
  exact leaf1 ⟨rfl, O⟩
def Ls.q (S : Ls) (c : Int) : Value := match lk S.qs c with
  | some b => pq b
  | none => .pointer none
def Ls.setW (S : Ls) (c : Int) (l : List It) : Ls := { S with W := updW S.W c l }
theorem updW_self {W : Int → List It} {c : Int} : updW W c (W c) = W := by
  funext x
  unfold updW
  split
  · rename_i e; rw [e]
  · rfl
theorem Has.lgQ {c : Int} {b : Nat} (hk : lk S.qs c = some b) (O : Has ro h (Lg lb S :: R)) : ∃ L, Has ro h (Qr b (S.W c) :: (L ++ R)) ∧ ∀ h' l R', Has ro h' (Qr b l :: (L ++ R')) → Has ro h' (Lg lb (S.setW c l) :: R') := by
  obtain ⟨eb, qb, tb, O1⟩ := Has.lgOpen O
  have hn := (O1.mpInfo 2 rfl).1
  have O2 := Has.qOpen hn hk (O1.at 4 rfl)
  refine ⟨[Rs.all ((del1 S.qs c).map fun p : Int × Nat => Qr p.2 (S.W p.1)), Ob lb (.cells (lc S eb qb tb) 1 false), Mp K64 ev eb S.ents, Mp K64 pq qb S.qs, Mp K64 tv tb S.told], O2, fun h' l R' O3 => ?_⟩
  have O4 := Has.qClose hn hk O3
  exact Has.lgClose (S := S.setW c l) ((((O4.at 4 rfl).at 4 rfl).at 4 rfl).at 4 rfl)
theorem first_l (c : Int) (hq : lk S.qs c = none → S.W c = []) (h8 : (S.W c).length ≤ 8) (hn : 40 < n) (O : Has ro h (Lg lb S :: R)) :
    (callV env (n + 3) (.func (.func 57) #[] #[]) [S.q c] h).Is fun p => p.1 = .tuple #[iv (nth (S.W c) 0), .bool (decide (0 < (S.W c).length))] ∧ Has ro p.2 (Lg lb S :: R) := by
  unfold Ls.q
  cases hk : lk S.qs c with
  | none =>
    rw [hq hk]
    exact T.Is.mono (fun p hp => ⟨hp.1, hp.2⟩) (first_n O)
  | some b =>
    obtain ⟨L, O1, k⟩ := Has.lgQ hk O
    refine T.Is.mono ?_ (first_h hn h8 O1)
    rintro p ⟨h1, h2⟩
    have := k _ _ _ h2
    have e : S.setW c (S.W c) = S := by unfold Ls.setW; rw [updW_self]
    rw [e] at this
    exact ⟨h1, this⟩
theorem cut_l (c r : Int) (hq : lk S.qs c = none → S.W c = []) (h8 : (S.W c).length ≤ 8) (hn : 40 < n) (O : Has ro h (Lg lb S :: R)) :
    (callV env (n + 5) (.func (.func 54) #[] #[]) [S.q c, .int .i64 r] h).Is fun p => ∃ a l', p.1 = .bool a ∧ CutIs (S.W c) r a l' ∧ Has ro p.2 (Lg lb (S.setW c l') :: R) := by
  unfold Ls.q
  cases hk : lk S.qs c with
  | none =>
    refine T.Is.mono ?_ (cut_n r O)
    rintro p ⟨h1, h2⟩
    refine ⟨false, S.W c, h1, Or.inl ⟨rfl, ?_, rfl⟩, ?_⟩
    · rw [hq hk]
      exact Or.inl ⟨rfl, fun j hj => by simp at hj⟩
    · have e : S.setW c (S.W c) = S := by unfold Ls.setW; rw [updW_self]
      rw [e]
      exact h2
  | some b =>
    obtain ⟨L, O1, k⟩ := Has.lgQ hk O
    refine T.Is.mono ?_ (cut_h (n := n + 1) (by omega) h8 O1)
    rintro p ⟨a, l', h1, h2, h3⟩
    exact ⟨a, l', h1, h2, k _ _ _ h3⟩
end
section
variable {S : Ls}
theorem E_set (S : Ls) (c x : Int) (e : En) : (S.set c e).E x = if x = c then e else S.E x := by
  unfold Ls.set Ls.E setE
  by_cases he : e = e0
  · simp only [he, if_true, lk_del]
    by_cases hx : x = c
    · simp [hx]
    · simp [hx, lk_upd]
  · simp only [he, if_false, lk_upd]
    by_cases hx : x = c
    · simp [hx]
    · simp [hx]
theorem W_set (S : Ls) (c : Int) (e : En) : (S.set c e).W = S.W := rfl
theorem E_setW (S : Ls) (c x : Int) (l : List It) : (S.setW c l).E x = S.E x := rfl
theorem W_setW (S : Ls) (c x : Int) (l : List It) : (S.setW c l).W x = if x = c then l else S.W x := rfl
theorem setW_setW (S : Ls) (c : Int) (l m : List It) : (S.setW c l).setW c m = S.setW c m := by
  unfold Ls.setW
  have : updW (updW S.W c l) c m = updW S.W c m := by
    funext x
    unfold updW
    split <;> rfl
  rw [this]
theorem setW_self (S : Ls) (c : Int) : S.setW c (S.W c) = S := by unfold Ls.setW; rw [updW_self]
theorem cut_first {l l' : List It} {a : Bool} (h0 : 0 < l.length) (hc : CutIs l (nth l 0).r a l') : l' = l.drop 1 := by
  rcases hc with ⟨_, hp, _⟩ | ⟨_, i, hp, hi, e⟩
  · rcases hp with ⟨_, hp⟩ | ⟨i, e, _⟩
    · exact absurd rfl (hp 0 h0)
    · omega
  · rcases hp with ⟨e2, _⟩ | ⟨j, e2, hj, _, hno⟩
    · omega
    · have : i = j := by omega
      subst this
      rcases Nat.eq_zero_or_pos i with hz | hz
      · subst hz
        rw [e]
        cases l with
        | nil => simp at h0
        | cons x l => rfl
      · exact absurd rfl (hno 0 hz)
end
def Ou.denies (o : Ou) (c : Int) (l : List It) : Ou := l.foldl (fun o w => o.post (dny w c (-1))) o
def FreeTo (S : Ls) (o : Ou) (c : Int) (S' : Ls) (o' : Ou) : Prop :=
  ∃ d, ((S.E c).g = 4294967295 ∧ S' = (S.set c ⟨-1, (S.E c).g⟩).setW c [] ∧ o' = (o.wr c ⟨-1, (S.E c).g⟩ d).denies c (S.W c)) ∨
    ((S.E c).g ≠ 4294967295 ∧ S.W c = [] ∧ S' = S.set c ⟨-1, (S.E c).g⟩ ∧ o' = o.wr c ⟨-1, (S.E c).g⟩ d) ∨
    ((S.E c).g ≠ 4294967295 ∧ ∃ w rest d2, S.W c = w :: rest ∧ S' = ((S.set c ⟨-1, (S.E c).g⟩).setW c rest).set c ⟨w.r, (S.E c).g + 1⟩ ∧ o' = ((o.wr c ⟨-1, (S.E c).g⟩ d).wr c ⟨w.r, (S.E c).g + 1⟩ d2).post (grt w c ((S.E c).g + 1)))
section
variable {ro : Nat → Option (List Value × Nat)} {h : Heap} {R : List Rs} {lb ob : Nat} {S : Ls} {o : Ou} {n : Nat} {c : Int}
theorem Has.lgLook (O : Has ro h (Lg lb S :: R)) : ∃ eb qb tb, h.get lb = some (.cells (lc S eb qb tb) 1 false) ∧ ∀ c : Int, vLookup h none (.pointer none) false (.map (some qb)) (.int .i64 c) = some (S.q c) := by
  obtain ⟨eb, qb, tb, O1⟩ := Has.lgOpen O
  refine ⟨eb, qb, tb, O1.get 0 rfl, fun c => ?_⟩
  have m := O1.mpLook 2 rfl c (.pointer none) false
  refine Eq.trans m ?_
  unfold Ls.q
  cases lk S.qs c <;> rfl
theorem denies_len : ∀ (l : List It) (o : Ou), (o.denies c l).ws = o.ws ∧ (o.denies c l).ps.length = o.ps.length + l.length ∧ (o.denies c l).bs.length = o.bs.length + l.length
  | [], o => ⟨rfl, rfl, rfl⟩
  | w :: l, o => by
    obtain ⟨h1, h2, h3⟩ := denies_len l (o.post (dny w c (-1)))
    refine ⟨h1, ?_, ?_⟩
    · refine h2.trans ?_
      simp [Ou.post]; omega
    · refine h3.trans ?_
      simp [Ou.post]; omega
theorem drop1_append {done l : List It} (h0 : 0 < l.length) : done ++ l = (done ++ [nth l 0]) ++ l.drop 1 := by
  cases l with
  | nil => simp at h0
  | cons x l => simp [nth]
theorem free_h (c : Int) (hn : 40 < n) (hg : 0 ≤ (S.E c).g ∧ (S.E c).g ≤ 4294967295) (hq : lk S.qs c = none → S.W c = []) (h8 : (S.W c).length ≤ 8) (ho : Sm o 900000) (O : Has ro h (Lg lb S :: Og ob o :: R)) :
    (callV env (n + 6) (.func (.func 38) #[] #[]) [.pointer (some ⟨lb, 0, none⟩), .int .i64 c, .pointer (some ⟨ob, 0, none⟩)] h).Is fun p => ∃ S' o', FreeTo S o c S' o' ∧ Has ro p.2 (Lg lb S' :: Og ob o' :: R) := by
  obtain ⟨ho1, ho2, ho3⟩ := ho
  refine call_is env38 ?_
  simp only [ir38, Nat.reduceAdd, Nat.reduceSub, wkF, X_seq, Y_store, Y_makeMap, Y_buildSlice, ↓reduceIte, reduceCtorEq, wkO, wkS, Nat.reduceLeDiff, Nat.reduceMul, Nat.reduceLT, Nat.reduceEqDiff, wkN, wkG]
  refine Z_is (entry_h (n := n + 3) c O) ?_
  rintro v h1 ⟨rfl, O1⟩
  simp only at O1
  simp only [ev, wkF, X_seq, Y_store, Y_makeMap, Y_buildSlice, ↓reduceIte, reduceCtorEq, wkO, wkS, Nat.reduceAdd, Nat.reduceLeDiff, Nat.reduceMul, Nat.reduceLT, Nat.reduceEqDiff, wkG]
  refine Z_is (set_h (n := n + 2) c ⟨-1, (S.E c).g⟩ (by omega) O1) ?_
  rintro v h2 ⟨d, O2⟩
  simp only at O2
  generalize hS1 : S.set c ⟨-1, (S.E c).g⟩ = S1 at O2
  generalize ho1' : o.wr c ⟨-1, (S.E c).g⟩ d = o1 at O2
  have hW : S1.W = S.W := by rw [← hS1]; rfl
  have hq1 : S1.qs = S.qs := by rw [← hS1]; rfl
  have hE1 : (S1.E c).g = (S.E c).g := by rw [← hS1, E_set, if_pos rfl]
  obtain ⟨eb, qb, tb, gl, lq⟩ := Has.lgLook O2
  unfold lc at gl
  simp only [gl, lq, wkF, X_seq, Y_store, Y_makeMap, Y_buildSlice, ↓reduceIte, reduceCtorEq, wkO, wkS, Nat.reduceAdd, Nat.reduceLeDiff, Nat.reduceMul, Nat.reduceLT, Nat.reduceEqDiff, wkG]
  clear gl lq
  refine Z_is (first_l (n := n + 2) c (by rw [hW, hq1]; exact hq) (by rw [hW]; exact h8) (by omega) O2) ?_
  rintro v h3 ⟨rfl, O3⟩
  simp only at O3
  simp only [wkF, X_seq, Y_store, Y_makeMap, Y_buildSlice, ↓reduceIte, reduceCtorEq, wkO, wkS, Nat.reduceAdd, Nat.reduceLeDiff, Nat.reduceMul, Nat.reduceLT, Nat.reduceEqDiff, wkG]
  refine Y_boxO O3 ?_
  intro b7 h4 O4 e4
  replace O4 : Has ro h4 (Ob b7 (.cells (ic it0) 1 false) :: Lg lb S1 :: Og ob o1 :: R) := O4
  have g4 := O4.get 0 rfl
  have p4 := O4.can 0 rfl
  have O5 := O4.set 0 rfl (.cells (ic (nth (S1.W c) 0)) 1 false)
  simp only [List.set_cons_zero] at O5
  have si : ∀ x y : It, setAt (ic x) 0 (ic y) = ic y := fun _ _ => rfl
  simp only [g4, p4, ic_len, tk_ic, tk_ic1, dr_ic1, dr_ic2, agg_ic, iv_cells, set_ic, ic_one, si, wkF, ↓reduceIte, reduceCtorEq, Nat.reduceAdd, Nat.reduceLeDiff, Nat.reduceMul, Nat.reduceLT, Nat.reduceEqDiff, wkG, wkH]
  clear g4 p4
  generalize h4.setB b7 _ = h5 at O5 ⊢
  have ho1'' : o1.ws.length < 900001 ∧ o1.ps.length < 900000 ∧ o1.bs.length < 900000 := by
    rw [← ho1']
    refine ⟨?_, ho2, ho3⟩
    show (o.ws ++ [_]).length < _
    rw [List.length_append]
    show o.ws.length + 1 < _
    omega
  refine L_is (fun q s => ∃ l bb o2, q = l.length ∧ s.defers = [] ∧ s.tmps.length = 45 ∧ s.tmps.getD 0 undefV = .pointer (some ⟨lb, 0, none⟩) ∧ s.tmps.getD 1 undefV = .int .i64 c ∧ s.tmps.getD 2 undefV = .pointer (some ⟨ob, 0, none⟩) ∧ s.tmps.getD 6 undefV = S1.q c ∧ s.tmps.getD 7 undefV = .pointer (some ⟨bb, 0, none⟩) ∧ s.tmps.getD 8 undefV = .bool (decide (0 < l.length)) ∧ Has ro s.h (Ob bb (.cells (ic (nth l 0)) 1 false) :: Lg lb (S1.setW c l) :: Og ob o2 :: R) ∧ ((S.E c).g ≠ 4294967295 → l = S.W c ∧ o2 = o1) ∧ ((S.E c).g = 4294967295 → ∃ done, S.W c = done ++ l ∧ o2 = o1.denies c done)) (S.W c).length ?_ (by omega) ?_
  · refine ⟨S1.W c, b7, o1, by rw [hW], rfl, rfl, rfl, rfl, rfl, rfl, rfl, rfl, ?_, fun _ => ⟨by rw [hW], rfl⟩, fun _ => ⟨[], by rw [hW]; rfl, rfl⟩⟩
    rw [setW_self]
    exact O5
  clear O O1 O2 O3 O4 O5 e4
  rintro q tm df h6 ⟨l, bb, o2, hk, hd, hlen_, g0, g1, g2, g6, g7, g8, O6, r1, r2⟩
  simp only at hd g0 g1 g2 g6 g7 g8 O6
  subst hd
  obtain ⟨w, hg_, rfl⟩ := explode hlen_
  simp only [hg_] at g0 g1 g2 g6 g7 g8
  clear hlen_ hg_
  have hsuf : ∃ done, S.W c = done ++ l := by
    by_cases hm : (S.E c).g = 4294967295
    · obtain ⟨done, e, _⟩ := r2 hm
      exact ⟨done, e⟩
    · exact ⟨[], (r1 hm).1.symm⟩
  have hl8 : l.length ≤ 8 := by
    obtain ⟨done, e⟩ := hsuf
    rw [e, List.length_append] at h8
    omega
  have hql : ∀ m : List It, m.length ≤ l.length → lk S1.qs c = none → m = [] := by
    intro m hm e
    obtain ⟨done, e2⟩ := hsuf
    rw [hq1] at e
    have e3 := hq e
    rw [e3] at e2
    have : l = [] := (List.append_eq_nil_iff.1 e2.symm).2
    subst this
    exact List.eq_nil_of_length_eq_zero (by simpa using hm)
  have hso : Sm o2 999998 := by
    by_cases hm : (S.E c).g = 4294967295
    · obtain ⟨done, e, rfl⟩ := r2 hm
      obtain ⟨d1, d2, d3⟩ := denies_len done o1 (c := c)
      have : done.length ≤ 8 := by rw [e, List.length_append] at h8; omega
      exact ⟨by rw [d1]; omega, by rw [d2]; omega, by rw [d3]; omega⟩
    · rw [(r1 hm).2]
      exact ⟨by omega, by omega, by omega⟩
  by_cases h0 : 0 < l.length
  · have h0d : decide (0 < l.length) = true := decide_eq_true h0
    have gb := O6.get 0 rfl
    simp only [g0, g1, g2, g6, g7, g8, h0d, gb, ic_len, tk_ic, tk_ic1, dr_ic1, dr_ic2, agg_ic, iv_cells, set_ic, ic_one, wkF, ↓reduceIte, reduceCtorEq, Nat.reduceAdd, Nat.reduceLeDiff, Nat.reduceMul, Nat.reduceLT, Nat.reduceEqDiff, wkG, wkH]
    have hw : (S1.setW c l).W c = l := by rw [W_setW, if_pos rfl]
    refine Z_is (cut_l (S := S1.setW c l) (n := n) c (nth l 0).r (by rw [hw]; exact hql l (Nat.le_refl _)) (by rw [hw]; exact hl8) hn (O6.at 1 rfl)) ?_
    rintro v h7 ⟨a, l', hv, hc, O7⟩
    simp only at hv O7
    subst hv
    rw [hw] at hc
    have hl' := cut_first h0 hc
    subst hl'
    rw [setW_setW] at O7
    have gb2 := O7.get 1 rfl
    simp only [gb2, ic_len, tk_ic, tk_ic1, dr_ic1, dr_ic2, agg_ic, iv_cells, set_ic, ic_one, wkF, ↓reduceIte, reduceCtorEq, Nat.reduceAdd, Nat.reduceLeDiff, Nat.reduceMul, Nat.reduceLT, Nat.reduceEqDiff, wkG, wkH]
    clear gb gb2 hc
    refine Z_is (grant_h (n := n) (S := S1.setW c (l.drop 1)) (o := o2) (nth l 0) c (by rw [E_setW, hE1]; exact hg) hso (O7.at 2 rfl |>.at 1 rfl)) ?_
    rintro v h8' ⟨d2, hv, O8⟩
    simp only at hv O8
    subst hv
    have hgE : ((S1.setW c (l.drop 1)).E c).g = (S.E c).g := by rw [E_setW, hE1]
    by_cases hm : (S.E c).g = 4294967295
    · have hmd : decide (((S1.setW c (l.drop 1)).E c).g ≠ 4294967295) = false := decide_eq_false (by rw [hgE]; simpa using hm)
      have e1 : (S1.setW c (l.drop 1)).grant (nth l 0) c = S1.setW c (l.drop 1) := by unfold Ls.grant; rw [if_pos (by rw [hgE]; exact hm)]
      have e2 : o2.grant (S1.setW c (l.drop 1)) (nth l 0) c d2 = o2.post (dny (nth l 0) c (-1)) := by unfold Ou.grant; rw [if_pos (by rw [hgE]; exact hm)]
      rw [e1, e2] at O8
      have g8' := O8.get 2 rfl
      simp only [ne_eq] at hmd
      simp only [hmd, g8', ic_len, tk_ic, tk_ic1, dr_ic1, dr_ic2, agg_ic, iv_cells, set_ic, ic_one, wkF, X_seq, Y_store, Y_makeMap, Y_buildSlice, ↓reduceIte, reduceCtorEq, wkO, wkS, Nat.reduceAdd, Nat.reduceLeDiff, Nat.reduceMul, Nat.reduceLT, Nat.reduceEqDiff, wkG]
      refine Y_boxO O8 ?_
      intro b9 h9 O9 e9
      replace O9 : Has ro h9 (Ob b9 (.cells (ic it0) 1 false) :: Lg lb (S1.setW c (l.drop 1)) :: Og ob (o2.post (dny (nth l 0) c (-1))) :: Ob bb (.cells (ic (nth l 0)) 1 false) :: R) := O9
      have g9 := O9.get 0 rfl
      have p9 := O9.can 0 rfl
      have O10 := O9.set 0 rfl (.cells (ic (nth l 0)) 1 false)
      simp only [List.set_cons_zero] at O10
      simp only [g9, p9, ic_len, tk_ic, tk_ic1, dr_ic1, dr_ic2, agg_ic, iv_cells, set_ic, ic_one, si, wkF, ↓reduceIte, reduceCtorEq, Nat.reduceAdd, Nat.reduceLeDiff, Nat.reduceMul, Nat.reduceLT, Nat.reduceEqDiff, wkG, wkH]
      clear g9 p9 g8'
      have hw2 : (S1.setW c (l.drop 1)).W c = l.drop 1 := by rw [W_setW, if_pos rfl]
      have hdl : (l.drop 1).length ≤ l.length := by rw [List.length_drop]; omega
      refine Z_is (first_l (S := S1.setW c (l.drop 1)) (n := n + 2) c (by rw [hw2]; exact hql _ hdl) (by rw [hw2]; omega) (by omega) (O10.at 1 rfl)) ?_
      rintro v h11 ⟨rfl, O11⟩
      simp only at O11
      rw [hw2]
      have g11 := O11.get 1 rfl
      have p11 := O11.can 1 rfl
      have O12 := O11.set 1 rfl (.cells (ic (nth (l.drop 1) 0)) 1 false)
      simp only [List.set_cons_zero, List.set_cons_succ] at O12
      simp only [g11, p11, ic_len, tk_ic, tk_ic1, dr_ic1, dr_ic2, agg_ic, iv_cells, set_ic, ic_one, si, wkF, ↓reduceIte, reduceCtorEq, Nat.reduceAdd, Nat.reduceLeDiff, Nat.reduceMul, Nat.reduceLT, Nat.reduceEqDiff, wkG, wkH]
      refine Is_in ?_
      obtain ⟨done, e, ed⟩ := r2 hm
      refine ⟨(l.drop 1).length, by rw [hk, List.length_drop]; omega, l.drop 1, b9, o2.post (dny (nth l 0) c (-1)), rfl, rfl, rfl, rfl, rfl, rfl, rfl, rfl, rfl, (O12.rid 3 rfl).swap2, fun x => absurd hm x, fun _ => ⟨done ++ [nth l 0], ?_, ?_⟩⟩
      · rw [e]
        exact drop1_append h0
      · rw [ed]
        unfold Ou.denies
        rw [List.foldl_append]
        rfl
    · have hmd : decide (((S1.setW c (l.drop 1)).E c).g ≠ 4294967295) = true := decide_eq_true (by rw [hgE]; exact hm)
      have e1 : (S1.setW c (l.drop 1)).grant (nth l 0) c = (S1.setW c (l.drop 1)).set c ⟨(nth l 0).r, (S.E c).g + 1⟩ := by unfold Ls.grant; rw [if_neg (by rw [hgE]; exact hm), hgE]
      have e2 : o2.grant (S1.setW c (l.drop 1)) (nth l 0) c d2 = (o2.wr c ⟨(nth l 0).r, (S.E c).g + 1⟩ d2).post (grt (nth l 0) c ((S.E c).g + 1)) := by unfold Ou.grant; rw [if_neg (by rw [hgE]; exact hm), hgE]
      rw [e1, e2] at O8
      simp only [ne_eq] at hmd
      simp only [hmd, wkF, ↓reduceIte, reduceCtorEq, Nat.reduceAdd, wkG, wkH]
      refine Is_in ?_
      simp only [wkF, ↓reduceIte, reduceCtorEq, Nat.reduceAdd, wkG, wkH]
      refine leaf0 ⟨_, _, ⟨d, Or.inr (Or.inr ⟨hm, nth l 0, l.drop 1, d2, ?_, ?_, ?_⟩)⟩, (O8.rid 2 rfl)⟩
      · rw [← (r1 hm).1]
        cases l with
        | nil => simp at h0
        | cons x l => rfl
      · rw [hS1]
      · rw [(r1 hm).2, ho1']
  · have h0d : decide (0 < l.length) = false := decide_eq_false h0
    simp only [g0, g1, g2, g6, g7, g8, h0d, wkF, ↓reduceIte, reduceCtorEq, Nat.reduceAdd, wkG, wkH]
    refine Is_in ?_
    simp only [wkF, ↓reduceIte, reduceCtorEq, Nat.reduceAdd, wkG, wkH]
    have hl0 : l = [] := List.eq_nil_of_length_eq_zero (by omega)
    subst hl0
    by_cases hm : (S.E c).g = 4294967295
    · obtain ⟨done, e, ed⟩ := r2 hm
      rw [List.append_nil] at e
      refine leaf0n ⟨_, _, ⟨d, Or.inl ⟨hm, rfl, rfl⟩⟩, ?_⟩
      rw [hS1, ho1', e, ← ed]
      exact O6.drop
    · refine leaf0n ⟨_, _, ⟨d, Or.inr (Or.inl ⟨hm, (r1 hm).1.symm, rfl, rfl⟩)⟩, ?_⟩
      rw [hS1, ho1', ← (r1 hm).2]
      have e3 : S1.setW c [] = S1 := by
        have := setW_self S1 c
        rw [hW, ← (r1 hm).1] at this
        exact this
      have := O6.drop
      rw [e3] at this
      exact this
end
theorem env36 : env 36 = some ir36 := rfl
theorem env55 : env 55 = some ir55 := rfl
theorem env35 : env 35 = some ir35 := rfl
structure Sz (S : Ls) : Prop where
  r1 : 1 ≤ S.rob
  r2 : S.rob ≤ 64
  h1 : 0 ≤ S.home
  h2 : S.home < S.rob
  c1 : 1 ≤ S.cells
  c2 : S.cells ≤ 1024
def Ls.N (S : Ls) : Nat := ((S.cells - S.home + S.rob - 1) / S.rob).toNat
def Ls.at (S : Ls) (i : Nat) : Int := S.home + (i : Int) * S.rob
theorem lt_N {S : Ls} (z : Sz S) (i : Nat) : i < S.N ↔ S.at i < S.cells := by
  unfold Ls.N Ls.at
  have hr : 0 < S.rob := by have := z.r1; omega
  have h1 : ((i : Int) + 1 ≤ (S.cells - S.home + S.rob - 1) / S.rob) ↔ ((i : Int) + 1) * S.rob ≤ S.cells - S.home + S.rob - 1 := Int.le_ediv_iff_mul_le hr
  have e : ((i : Int) + 1) * S.rob = (i : Int) * S.rob + S.rob := by rw [Int.add_mul, Int.one_mul]
  rw [e] at h1
  generalize (i : Int) * S.rob = x at h1 ⊢
  generalize (S.cells - S.home + S.rob - 1) / S.rob = q at h1 ⊢
  omega
theorem at_pos {S : Ls} (z : Sz S) (i : Nat) : 0 ≤ S.at i ∧ (i : Int) ≤ S.at i := by
  unfold Ls.at
  have hr := z.r1
  have h1 := z.h1
  have : (i : Int) * 1 ≤ (i : Int) * S.rob := Int.mul_le_mul_of_nonneg_left hr (by omega)
  omega
theorem N_le {S : Ls} (z : Sz S) : S.N ≤ 1024 := by
  by_cases h : S.N ≤ 1024
  · exact h
  · have := (lt_N z 1024).1 (by omega)
    have h2 := (at_pos z 1024).2
    have := z.c2
    omega
section
variable {ro : Nat → Option (List Value × Nat)} {h : Heap} {R : List Rs} {lb ob : Nat} {S : Ls} {o : Ou} {n : Nat}
theorem mine_h (O : Has ro h R) : (callV env (n + 1) (.func (.func 36) #[] #[]) [.pointer (some ⟨lb, 0, none⟩)] h).Is fun p => ∃ E, p.1 = .func (.func 55) #[] #[.pointer (some ⟨E, 0, none⟩)] ∧ Has ro p.2 (Ob E (.cells [.pointer (some ⟨lb, 0, none⟩)] 1 false) :: R) := by
  refine call_is env36 ?_
  simp only [ir36, Nat.reduceAdd, Nat.reduceSub, wkF, X_seq, Y_store, Y_makeMap, Y_buildSlice, ↓reduceIte, reduceCtorEq, wkO, wkS, wkN, wkG]
  refine Y_boxO O ?_
  intro b1 h1 O1 e1
  simp only [wkF, ↓reduceIte, reduceCtorEq, Nat.reduceAdd, wkG, wkH]
  exact leaf1 ⟨b1, rfl, O1⟩
theorem mine_iter {l E : Nat} (z : Sz S) (hn : 1030 < n) (J : Nat → List Rs) (O : Has ro h (J 0))
    (hJ : ∀ i h, i ≤ S.N → Has ro h (J i) → h.get E = some (.cells [.pointer (some ⟨lb, 0, none⟩)] 1 false) ∧ ∃ eb qb tb, h.get lb = some (.cells (lc S eb qb tb) 1 false))
    (hy : ∀ i h, i < S.N → Has ro h (J i) → (callV env n (.func (.yield l) #[] #[]) [.int .i64 (S.at i)] h).Is fun p => p.1 = .bool true ∧ Has ro p.2 (J (i + 1))) :
    (callV env (n + 1) (.func (.func 55) #[] #[.pointer (some ⟨E, 0, none⟩)]) [.func (.yield l) #[] #[]] h).Is fun p => Has ro p.2 (J S.N) := by
  refine call_is env55 ?_
  obtain ⟨gE, eb, qb, tb, gl⟩ := hJ 0 h (Nat.zero_le _) O
  unfold lc at gl
  simp only [ir55, Nat.reduceAdd, Nat.reduceSub, gE, gl, wkF, ↓reduceIte, reduceCtorEq, Nat.reduceLeDiff, Nat.reduceMul, Nat.reduceLT, Nat.reduceEqDiff, wkN, wkG, wkH]
  have hN := N_le z
  refine L_is (fun q s => ∃ i, q = S.N - i ∧ i ≤ S.N ∧ s.defers = [] ∧ s.tmps.length = 24 ∧ s.tmps.getD 0 undefV = .func (.yield l) #[] #[] ∧ s.tmps.getD 1 undefV = .pointer (some ⟨E, 0, none⟩) ∧ s.tmps.getD 3 undefV = .int .i64 (S.at i) ∧ Has ro s.h (J i)) S.N ?_ (by omega) ?_
  · refine ⟨0, rfl, Nat.zero_le _, rfl, rfl, rfl, rfl, ?_, O⟩
    show Value.int .i64 S.home = _
    have : S.at 0 = S.home := by unfold Ls.at; simp
    rw [this]
  clear gE gl eb qb tb O
  rintro q tm df h1 ⟨i, hk, hi, hd, hlen_, g0, g1, g3, O1⟩
  simp only at hd g0 g1 g3 O1
  subst hd
  obtain ⟨w, hg_, rfl⟩ := explode hlen_
  simp only [hg_] at g0 g1 g3
  clear hlen_ hg_
  obtain ⟨gE, eb, qb, tb, gl⟩ := hJ i h1 hi O1
  unfold lc at gl
  by_cases h0 : i < S.N
  · have h0' := (lt_N z i).1 h0
    simp only [g0, g1, g3, gE, gl, h0', wkF, ↓reduceIte, reduceCtorEq, Nat.reduceAdd, Nat.reduceLeDiff, Nat.reduceMul, Nat.reduceLT, Nat.reduceEqDiff, wkG, wkH]
    clear gE gl eb qb tb
    refine Z_is (hy i h1 h0 O1) ?_
    rintro v h2 ⟨rfl, O2⟩
    simp only at O2
    obtain ⟨gE, eb, qb, tb, gl⟩ := hJ (i + 1) h2 h0 O2
    unfold lc at gl
    have hw : IntKind.i64.wrap (S.at i + S.rob) = S.at (i + 1) := by
      have e : S.at (i + 1) = S.at i + S.rob := by
        unfold Ls.at
        have : ((i + 1 : Nat) : Int) * S.rob = (i : Int) * S.rob + S.rob := by
          rw [show ((i + 1 : Nat) : Int) = (i : Int) + 1 by omega, Int.add_mul, Int.one_mul]
        omega
      have h1 := (at_pos z i).1
      have h2 := z.c2
      have h3 := z.r2
      have h4 := z.r1
      rw [wrap_i64 (by omega) (by omega), e]
    simp only [gE, gl, hw, wkF, ↓reduceIte, reduceCtorEq, Nat.reduceAdd, Nat.reduceLeDiff, Nat.reduceMul, Nat.reduceLT, Nat.reduceEqDiff, wkG, wkH]
    refine Is_in ⟨S.N - (i + 1), by omega, i + 1, rfl, h0, rfl, rfl, rfl, rfl, rfl, O2⟩
  · have h0' : ¬ S.at i < S.cells := fun x => h0 ((lt_N z i).2 x)
    have hin : i = S.N := by omega
    subst hin
    simp only [g0, g1, g3, gE, gl, h0', wkF, ↓reduceIte, reduceCtorEq, Nat.reduceAdd, Nat.reduceLeDiff, Nat.reduceMul, Nat.reduceLT, Nat.reduceEqDiff, wkG, wkH]
    refine Is_in ?_
    simp only [wkF, ↓reduceIte, reduceCtorEq, Nat.reduceAdd, wkG, wkH]
    exact leaf0n O1
structure Gn (S : Ls) (r : Int) (k : Nat) (W : Int → List It) : Prop where
  on : ∀ i, i < k → ∃ a, CutIs (S.W (S.at i)) r a (W (S.at i))
  off : ∀ c, (∀ i, i < k → c ≠ S.at i) → W c = S.W c
theorem Gn.zero (r : Int) : Gn S r 0 S.W := ⟨fun i h => by omega, fun c h => rfl⟩
theorem at_ne (z : Sz S) {i j : Nat} (h : i < j) : S.at i ≠ S.at j := by
  unfold Ls.at
  intro e
  have h1 := z.r1
  have : ((i : Int) + 1) * S.rob ≤ (j : Int) * S.rob := Int.mul_le_mul_of_nonneg_right (by omega) (by omega)
  rw [Int.add_mul, Int.one_mul] at this
  omega
theorem Gn.succ (z : Sz S) {r : Int} {k : Nat} {W : Int → List It} (g : Gn S r k W) {a : Bool} {l' : List It} (hc : CutIs (W (S.at k)) r a l') : Gn S r (k + 1) (updW W (S.at k) l') := by
  have hk : W (S.at k) = S.W (S.at k) := g.off _ fun i hi e => at_ne z hi e.symm
  rw [hk] at hc
  refine ⟨fun i hi => ?_, fun c hc' => ?_⟩
  · unfold updW
    by_cases e : i = k
    · subst e
      rw [if_pos rfl]
      exact ⟨a, hc⟩
    · rw [if_neg (at_ne z (by omega))]
      exact g.on i (by omega)
  · unfold updW
    rw [if_neg (hc' k (by omega))]
    exact g.off c fun i hi => hc' i (by omega)
theorem gone_h (z : Sz S) (r : Int) (hn : 1100 < n) (hq : ∀ c, lk S.qs c = none → S.W c = []) (h8 : ∀ c, (S.W c).length ≤ 8) (O : Has ro h (Lg lb S :: R)) :
    (callV env (n + 4) (.func (.func 35) #[] #[]) [.pointer (some ⟨lb, 0, none⟩), .int .i64 r] h).Is fun p => ∃ W, Gn S r S.N W ∧ Has ro p.2 (Lg lb { S with W := W } :: R) := by
  obtain ⟨k, rfl⟩ : ∃ k, n = k + 4 := ⟨n - 4, by omega⟩
  refine call_is env35 ?_
  simp only [ir35, Nat.reduceAdd, Nat.reduceSub, wkF, X_seq, Y_store, Y_makeMap, Y_buildSlice, ↓reduceIte, reduceCtorEq, wkO, wkS, wkN, wkG]
  refine Y_boxO O ?_
  intro b1 h1 O1 e1
  simp only [wkF, X_seq, Y_store, Y_makeMap, Y_buildSlice, ↓reduceIte, reduceCtorEq, wkO, wkS, Nat.reduceAdd, wkG]
  refine Y_boxO O1 ?_
  intro b2 h2 O2 e2
  replace O2 : Has ro h2 (Ob b2 (.cells [.int .i64 r] 1 false) :: Ob b1 (.cells [.pointer (some ⟨lb, 0, none⟩)] 1 false) :: Lg lb S :: R) := O2
  have g1 := O2.get 1 rfl
  simp only [g1, wkF, ↓reduceIte, reduceCtorEq, Nat.reduceAdd, Nat.reduceLeDiff, Nat.reduceMul, Nat.reduceLT, Nat.reduceEqDiff, wkG, wkH]
  refine Z_is (mine_h (n := k + 6) O2) ?_
  rintro v h3 ⟨E, rfl, O3⟩
  simp only at O3
  simp only [wkF, ↓reduceIte, reduceCtorEq, Nat.reduceAdd, wkG, wkH]
  refine X_rangeO O3 (g := 55) (first := #[]) rfl ?_
  intro m l h4 O4
  generalize hlp : ({ state := LoopState.ready, pending := IExit.normal, tmps := _, params := _, assign := _, body := _, defers := m } : ILoop) = lp at O4
  have l1 : lp.state = .ready := by rw [← hlp]
  have l2 : lp.pending = .normal := by rw [← hlp]
  have l3 := congrArg ILoop.tmps hlp.symm
  have l4 := congrArg ILoop.params hlp.symm
  have l5 := congrArg ILoop.assign hlp.symm
  have l6 := congrArg ILoop.body hlp.symm
  simp only at l3 l4 l5 l6
  clear hlp
  refine T.Is.mono ?_ (mine_iter (ro := ro) (lb := lb) (n := k + 6) (l := l) (E := E) (S := S) z (by omega) (fun i => Ob l (.loop lp) :: Ob m (.deferred true) :: Ob E (.cells [.pointer (some ⟨lb, 0, none⟩)] 1 false) :: Ob b2 (.cells [.int .i64 r] 1 false) :: Ob b1 (.cells [.pointer (some ⟨lb, 0, none⟩)] 1 false) :: (Rs.ex fun W => Rs.and (Gn S r i W) (Lg lb { S with W := W })) :: R) ?_ ?_ ?_)
  · rintro p O5
    refine ⟨lp, _, (by rw [l1]; intro e; cases e), O5, fun h6 O6 => ?_⟩
    rw [l2]
    simp only [wkF, ↓reduceIte, reduceCtorEq, Nat.reduceAdd, wkG, wkH]
    refine leafMOn O6 0 rfl fun h7 O7 => ?_
    simp only [List.set_cons_zero] at O7
    obtain ⟨W, O8⟩ := Has.ex.1 (O7.drop.drop.drop.drop)
    obtain ⟨g, O9⟩ := Has.and.1 O8
    exact ⟨_, rfl, W, g, O9⟩
  · have := (Has.ex (F := fun W => Rs.and (Gn S r 0 W) (Lg lb { S with W := W }))).2 ⟨S.W, Has.and.2 ⟨Gn.zero r, (O4.at 5 rfl)⟩⟩
    exact (((((this.at 5 rfl).at 5 rfl).at 5 rfl).at 5 rfl).at 5 rfl)
  · rintro i h6 hi O6
    obtain ⟨W, O7⟩ := Has.ex.1 (O6.at 5 rfl)
    obtain ⟨g, O8⟩ := Has.and.1 O7
    obtain ⟨eb, qb, tb, O9⟩ := Has.lgOpen O8
    exact ⟨O6.get 2 rfl, eb, qb, tb, O9.get 0 rfl⟩
  · rintro i h6 hi O6
    rw [callV_yield]
    refine round_isB O6 l1 l2 l3 l4 l5 l6 rfl ?_
    simp only [List.nil_append, wkF, ↓reduceIte, reduceCtorEq, Nat.reduceAdd, wkG, wkH]
    refine Is_in ⟨rfl, _, O6, fun h7 lpB O7 => ?_⟩
    obtain ⟨W, O8⟩ := Has.ex.1 (O7.at 5 rfl)
    obtain ⟨g, O9⟩ := Has.and.1 O8
    replace O9 : Has ro h7 (Lg lb { S with W := W } :: Ob l (.loop lpB) :: Ob m (.deferred true) :: Ob E (.cells [.pointer (some ⟨lb, 0, none⟩)] 1 false) :: Ob b2 (.cells [.int .i64 r] 1 false) :: Ob b1 (.cells [.pointer (some ⟨lb, 0, none⟩)] 1 false) :: R) := O9
    obtain ⟨eb, qb, tb, gl, lq⟩ := Has.lgLook O9
    unfold lc at gl
    have q1 := O9.get 5 rfl
    have q2 := O9.get 4 rfl
    simp only [wkF, ↓reduceIte, reduceCtorEq, Nat.reduceAdd, wkG, wkH]
    refine X_drawn _ fun an => ?_
    have lq' := lq (S.at i)
    simp only [q1, q2, gl, vLookup_seen, lq', wkF, ↓reduceIte, reduceCtorEq, Nat.reduceAdd, Nat.reduceLeDiff, Nat.reduceMul, Nat.reduceLT, Nat.reduceEqDiff, wkG, wkH]
    clear gl lq lq' q1 q2
    have hWi : W (S.at i) = S.W (S.at i) := g.off _ fun j hj e => at_ne z hj e.symm
    refine DB_is (cut_l (S := { S with W := W }) (n := k) (S.at i) r (by show lk S.qs _ = none → W _ = []; rw [hWi]; exact hq _) (by show (W _).length ≤ 8; rw [hWi]; exact h8 _) (by omega) O9) ?_
    rintro v h8' ⟨a, l', hv, hc, O10⟩
    simp only at hv O10
    subst hv
    simp only [wkF, ↓reduceIte, reduceCtorEq, Nat.reduceAdd, wkG, wkH]
    have O11 := (Has.ex (F := fun W => Rs.and (Gn S r (i + 1) W) (Lg lb { S with W := W }))).2 ⟨updW W (S.at i) l', Has.and.2 ⟨Gn.succ z g hc, O10⟩⟩
    refine Is_in ⟨_, (O11.at 1 rfl), fun h9 lpC c1 c2 c3 O12 => ⟨rfl, ?_⟩⟩
    have c1' := c1 rfl
    subst c1'
    exact ((((((O12.at 1 rfl).at 5 rfl).at 5 rfl).at 5 rfl).at 5 rfl).at 5 rfl)
end
theorem env28 : env 28 = some ir28 := rfl
theorem env25 : env 25 = some ir25 := rfl
theorem env24 : env 24 = some ir24 := rfl
theorem env16 : env 16 = some ir16 := rfl
theorem env13 : env 13 = some ir13 := rfl
theorem env12 : env 12 = some ir12 := rfl
structure Wf (S : Ls) : Prop where
  z : Sz S
  g : ∀ c, 0 ≤ (S.E c).g ∧ (S.E c).g ≤ 4294967295
  q : ∀ c, lk S.qs c = none → S.W c = []
  w8 : ∀ c, (S.W c).length ≤ 8
def oz : Ou := ⟨[], [], []⟩
def Ls.T (S : Ls) (r : Int) : Int := (lk S.told r).getD 0
section
variable {ro : Nat → Option (List Value × Nat)} {h : Heap} {R : List Rs} {lb ob : Nat} {S : Ls} {o : Ou} {n : Nat}
theorem none_h (O : Has ro h (Lg lb S :: R)) : (callV env (n + 1) (.func (.func 30) #[] #[]) [.pointer (some ⟨lb, 0, none⟩)] h).Is fun p => p = (.bool (decide (S.rob = 0)), h) := by
  obtain ⟨eb, qb, tb, O1⟩ := Has.lgOpen O
  exact none_g (O1.get 0 rfl)
theorem robot_h (r : Int) (O : Has ro h (Lg lb S :: R)) : (callV env (n + 2) (.func (.func 31) #[] #[]) [.pointer (some ⟨lb, 0, none⟩), .int .i64 r] h).Is fun p => p = (.bool (decide (S.Rob r)), h) := by
  obtain ⟨eb, qb, tb, O1⟩ := Has.lgOpen O
  exact robot_g r (O1.get 0 rfl)
theorem is_h (c : Int) (O : Has ro h (Lg lb S :: R)) : (callV env (n + 2) (.func (.func 26) #[] #[]) [.pointer (some ⟨lb, 0, none⟩), .int .i64 c] h).Is fun p => p = (.bool (decide (S.Is c)), h) := by
  obtain ⟨eb, qb, tb, O1⟩ := Has.lgOpen O
  exact is_g c (O1.get 0 rfl)
theorem Has.ogNew (O : Has ro h (Ob ob (.cells [.slice none 0 0, .slice none 0 0, .slice none 0 0] 1 false) :: R)) : Has ro h (Og ob oz :: R) := by
  refine Has.ogClose (o := oz) (wv := .slice none 0 0) (pv := .slice none 0 0) (bv := .slice none 0 0) ?_
  have O1 : Has ro h (Dts oz.ws :: Ob ob (.cells [.slice none 0 0, .slice none 0 0, .slice none 0 0] 1 false) :: R) := Has.all.2 O
  have O2 := Has.scNil (z := 1) (g := zc) O1
  have O3 := Has.scNil (z := 10) (g := pc) O2
  have O4 := Has.scNil (z := 3) (g := wc) O3
  exact O4.at 4 rfl
theorem Has.ogOs (O : Has ro h (Og ob o :: R)) : ∃ wv pv bv, h.get ob = some (.cells [wv, pv, bv] 1 false) ∧ Has ro h (Ob ob (.cells [wv, pv, bv] 1 false) :: Oo wv pv bv o :: R) := by
  obtain ⟨⟨wv, pv, bv⟩, O⟩ := Has.ex.1 O
  have O1 := Has.all.1 O
  simp only [List.cons_append, List.nil_append] at O1
  exact ⟨wv, pv, bv, O1.get 0 rfl, O1⟩
theorem os_one {wv pv bv : Value} (O : Has ro h (Oo wv pv bv o :: R)) : [wv, pv, bv].all oneCell = true := by
  have O1 := Has.all.1 O
  simp only [List.cons_append, List.nil_append] at O1
  obtain ⟨p1, c1, rfl, _⟩ := O1.scVal 0 rfl
  obtain ⟨p2, c2, rfl, _⟩ := O1.scVal 1 rfl
  obtain ⟨p3, c3, rfl, _⟩ := O1.scVal 2 rfl
  rfl
theorem told_h (r : Int) (O : Has ro h (Lg lb S :: R)) : (callV env (n + 3) (.func (.func 28) #[] #[]) [.pointer (some ⟨lb, 0, none⟩), .int .i64 r] h).Is fun p => p = (.bool (decide (S.Rob r ∧ 0 < S.T r)), h) := by
  refine call_is env28 ?_
  simp only [ir28, Nat.reduceAdd, Nat.reduceSub, wkF, ↓reduceIte, reduceCtorEq, wkN, wkG, wkH]
  refine Z_is (robot_h (n := n) r O) ?_
  rintro v h1 ⟨rfl, rfl⟩
  obtain ⟨eb, qb, tb, O1⟩ := Has.lgOpen O
  have g1 := O1.get 0 rfl
  unfold lc at g1
  have m := O1.mpLook 3 rfl r (.int .i64 0) false
  have m' : vLookup h none (.int .i64 0) false (.map (some tb)) (.int .i64 r) = some (.int .i64 (S.T r)) := by
    refine Eq.trans m ?_
    unfold Ls.T
    cases lk S.told r <;> rfl
  by_cases hr : S.Rob r
  · simp only [hr, g1, m', wkF, ↓reduceIte, reduceCtorEq, Nat.reduceAdd, Nat.reduceLeDiff, Nat.reduceMul, Nat.reduceLT, Nat.reduceEqDiff, wkG, wkH]
    exact leaf1 (by simp [hr])
  · simp only [hr, wkF, ↓reduceIte, reduceCtorEq, Nat.reduceAdd, wkG, wkH]
    exact leaf1 (by simp [hr])
theorem holder_h (c : Int) (O : Has ro h (Lg lb S :: R)) : (callV env (n + 3) (.func (.func 25) #[] #[]) [.pointer (some ⟨lb, 0, none⟩), .int .i64 c] h).Is fun p => p.1 = (if S.Is c then .tuple #[.int .i64 (S.E c).o, .int .u32 (S.E c).g] else .tuple #[.int .i64 (-1), .int .u32 0]) ∧ Has ro p.2 (Lg lb S :: R) := by
  refine call_is env25 ?_
  simp only [ir25, Nat.reduceAdd, Nat.reduceSub, wkF, X_seq, Y_store, Y_makeMap, Y_buildSlice, ↓reduceIte, reduceCtorEq, wkO, wkS, wkN, wkG]
  refine Z_is (is_h (n := n) c O) ?_
  rintro v h1 ⟨rfl, rfl⟩
  by_cases hi : S.Is c
  · simp only [hi, wkF, X_seq, Y_store, Y_makeMap, Y_buildSlice, ↓reduceIte, reduceCtorEq, wkO, wkS, Nat.reduceAdd, wkG]
    refine Z_is (entry_h (n := n) c O) ?_
    rintro v h2 ⟨rfl, O2⟩
    simp only at O2
    simp only [wkF, X_seq, Y_store, Y_makeMap, Y_buildSlice, ↓reduceIte, reduceCtorEq, wkO, wkS, Nat.reduceAdd, wkG]
    refine Y_boxO O2 ?_
    intro b3 h3 O3 e3
    replace O3 : Has ro h3 (Ob b3 (.cells [.int .i64 0, .int .u32 0] 1 false) :: Lg lb S :: R) := O3
    have g3 := O3.get 0 rfl
    have p3 := O3.can 0 rfl
    have O4 := O3.set 0 rfl (.cells (ec (S.E c)) 1 false)
    simp only [List.set_cons_zero] at O4
    have g4 := O4.get 0 rfl
    simp only [ec_len, tk_ec, tk_ec1, dr_ec1, agg_ec, ev_cells, set_ec, ec_one, g3, p3, wkF, ↓reduceIte, reduceCtorEq, Nat.reduceAdd, Nat.reduceLeDiff, Nat.reduceMul, Nat.reduceLT, Nat.reduceEqDiff, wkG, wkH]
    refine X_drawn _ fun an => ?_
    simp only [g4, ec_len, tk_ec, tk_ec1, dr_ec1, agg_ec, ev_cells, set_ec, ec_one, wkF, ↓reduceIte, reduceCtorEq, Nat.reduceAdd, Nat.reduceLeDiff, Nat.reduceMul, Nat.reduceLT, Nat.reduceEqDiff, wkG, wkH]
    exact leaf2 ⟨rfl, O4.drop⟩
  · simp only [hi, wkF, ↓reduceIte, reduceCtorEq, Nat.reduceAdd, wkG, wkH]
    exact leaf2 ⟨rfl, O⟩
theorem waiters_h (c : Int) (w : Wf S) (O : Has ro h (Lg lb S :: R)) : (callV env (n + 3) (.func (.func 24) #[] #[]) [.pointer (some ⟨lb, 0, none⟩), .int .i64 c] h).Is fun p => Has ro p.2 (Sc 3 ic p.1 (if S.Is c then S.W c else []) :: Lg lb S :: R) := by
  refine call_is env24 ?_
  simp only [ir24, Nat.reduceAdd, Nat.reduceSub, wkF, ↓reduceIte, reduceCtorEq, wkN, wkG, wkH]
  refine Z_is (is_h (n := n) c O) ?_
  rintro v h1 ⟨rfl, rfl⟩
  by_cases hi : S.Is c
  · obtain ⟨eb, qb, tb, gl, lq⟩ := Has.lgLook O
    unfold lc at gl
    have lq' := lq c
    simp only [hi, gl, lq', wkF, ↓reduceIte, reduceCtorEq, Nat.reduceAdd, Nat.reduceLeDiff, Nat.reduceMul, Nat.reduceLT, Nat.reduceEqDiff, wkG, wkH]
    refine Z_is (R := fun p => Has ro p.2 (Sc 3 ic p.1 (S.W c) :: Lg lb S :: R)) ?_ ?_
    · unfold Ls.q
      cases hk : lk S.qs c with
      | none =>
        refine T.Is.mono ?_ (waiters_n O)
        rintro p ⟨h2, h3⟩
        rw [h2, w.q c hk]
        exact Has.scNil h3
      | some b =>
        obtain ⟨L, O1, k⟩ := Has.lgQ hk O
        refine T.Is.mono ?_ (list_h (by have := w.w8 c; omega) O1)
        rintro p O2
        have O3 : Has ro p.2 (Qr b (S.W c) :: (L ++ (Sc 3 ic p.1 (S.W c) :: R))) := O2.perm ((List.Perm.swap _ _ _).trans (List.Perm.cons _ List.perm_middle.symm))
        have O4 := k _ _ _ O3
        rw [setW_self] at O4
        exact O4.swap2
    · rintro v h2 O2
      simp only [wkF, ↓reduceIte, reduceCtorEq, Nat.reduceAdd, wkG, wkH]
      exact leaf1 O2
  · simp only [hi, wkF, ↓reduceIte, reduceCtorEq, Nat.reduceAdd, wkG, wkH]
    exact leaf1 (Has.scNil O)
end
def RelIs (S : Ls) (r c g e : Int) (S' : Ls) (o' : Ou) : Prop :=
  (¬ (S.Rob r ∧ S.Is c) ∧ e = 2 ∧ S' = S ∧ o' = oz) ∨ ((S.Rob r ∧ S.Is c) ∧ e = 0 ∧ S.E c = ⟨r, g⟩ ∧ FreeTo S oz c S' o') ∨ ((S.Rob r ∧ S.Is c) ∧ e = 0 ∧ S.E c ≠ ⟨r, g⟩ ∧ S' = S ∧ o' = oz)
section
variable {ro : Nat → Option (List Value × Nat)} {h : Heap} {R : List Rs} {lb ob : Nat} {S : Ls} {o : Ou} {n : Nat}
theorem fin3 {b8 : Nat} (O : Has ro h (Og ob o :: Ob b8 (.cells [.slice none 0 0, .slice none 0 0, .slice none 0 0] 1 false) :: R)) : ∃ wv pv bv, h.get ob = some (.cells [wv, pv, bv] 1 false) ∧ h.get b8 = some (.cells [.slice none 0 0, .slice none 0 0, .slice none 0 0] 1 false) ∧ canPut h b8 = true ∧ ([wv, pv, bv] : List Value).all oneCell = true ∧ Has ro (h.setB b8 (.cells [wv, pv, bv] 1 false)) (Ob b8 (.cells [wv, pv, bv] 1 false) :: Oo wv pv bv o :: R) := by
  obtain ⟨wv, pv, bv, g, O1⟩ := Has.ogOs O
  have one := os_one (O1.at 1 rfl)
  have O2 := O1.set 2 rfl (.cells [wv, pv, bv] 1 false)
  exact ⟨wv, pv, bv, g, O1.get 2 rfl, O1.can 2 rfl, one, ((O2.rid 0 rfl).at 1 rfl)⟩
theorem c3 (wv pv bv : Value) : cellsOf (.agg #[wv, pv, bv]) = [wv, pv, bv] := rfl
theorem s3 (wv pv bv a b c : Value) : setAt [a, b, c] 0 [wv, pv, bv] = [wv, pv, bv] := rfl
theorem release_h (r c g : Int) (w : Wf S) (hn : 40 < n) (O : Has ro h (Lg lb S :: R)) :
    (callV env (n + 7) (.func (.func 16) #[] #[]) [.pointer (some ⟨lb, 0, none⟩), .int .i64 r, .int .i64 c, .int .u32 g] h).Is fun p => ∃ wv pv bv e S' o', p.1 = .tuple #[.agg #[wv, pv, bv], .int .i64 e] ∧ RelIs S r c g e S' o' ∧ Has ro p.2 (Lg lb S' :: Oo wv pv bv o' :: R) := by
  refine call_is env16 ?_
  simp only [ir16, Nat.reduceAdd, Nat.reduceSub, wkF, X_seq, Y_store, Y_makeMap, Y_buildSlice, ↓reduceIte, reduceCtorEq, wkO, wkS, wkN, wkG]
  refine Y_boxO O ?_
  intro b8 h1 O1 e1
  simp only [wkF, X_seq, Y_store, Y_makeMap, Y_buildSlice, ↓reduceIte, reduceCtorEq, wkO, wkS, Nat.reduceAdd, wkG]
  refine Y_boxO O1 ?_
  intro b10 h2 O2 e2
  replace O2 : Has ro h2 (Ob b10 (.cells [.slice none 0 0, .slice none 0 0, .slice none 0 0] 1 false) :: Ob b8 (.cells [.slice none 0 0, .slice none 0 0, .slice none 0 0] 1 false) :: Lg lb S :: R) := O2
  replace O2 : Has ro h2 (Lg lb S :: Og b10 oz :: Ob b8 (.cells [.slice none 0 0, .slice none 0 0, .slice none 0 0] 1 false) :: R) := (Has.ogNew O2).at 2 rfl
  have hr0 : ¬ S.rob = 0 := by have := w.z.r1; omega
  simp only [wkF, ↓reduceIte, reduceCtorEq, Nat.reduceAdd, wkG, wkH]
  refine Z_is (none_h (n := n + 5) O2) ?_
  rintro v h3 ⟨rfl, rfl⟩
  simp only [hr0, wkF, ↓reduceIte, reduceCtorEq, Nat.reduceAdd, wkG, wkH]
  refine Z_is (robot_h (n := n + 4) r O2) ?_
  rintro v h3 ⟨rfl, rfl⟩
  by_cases hr : S.Rob r
  · simp only [hr, wkF, ↓reduceIte, reduceCtorEq, Nat.reduceAdd, wkG, wkH]
    refine Z_is (is_h (n := n + 4) c O2) ?_
    rintro v h3 ⟨rfl, rfl⟩
    by_cases hi : S.Is c
    · simp only [hi, wkF, X_seq, Y_store, Y_makeMap, Y_buildSlice, ↓reduceIte, reduceCtorEq, wkO, wkS, Nat.reduceAdd, Nat.reduceLeDiff, Nat.reduceMul, Nat.reduceLT, Nat.reduceEqDiff, wkG]
      refine Z_is (entry_h (n := n + 4) c O2) ?_
      rintro v h3 ⟨rfl, O3⟩
      simp only at O3
      simp only [wkF, X_seq, Y_store, Y_makeMap, Y_buildSlice, ↓reduceIte, reduceCtorEq, wkO, wkS, Nat.reduceAdd, Nat.reduceLeDiff, Nat.reduceMul, Nat.reduceLT, Nat.reduceEqDiff, wkG]
      refine Y_boxO O3 ?_
      intro b11 h4 O4 e4
      replace O4 : Has ro h4 (Ob b11 (.cells [.int .i64 0, .int .u32 0] 1 false) :: Lg lb S :: Og b10 oz :: Ob b8 (.cells [.slice none 0 0, .slice none 0 0, .slice none 0 0] 1 false) :: R) := O4
      have g4 := O4.get 0 rfl
      have p4 := O4.can 0 rfl
      have O5 := O4.set 0 rfl (.cells (ec (S.E c)) 1 false)
      simp only [List.set_cons_zero] at O5
      have g5 := O5.get 0 rfl
      by_cases ho : (S.E c).o = r
      · by_cases hg : (S.E c).g = g
        · simp only [ec_len, tk_ec, tk_ec1, dr_ec1, agg_ec, ev_cells, set_ec, ec_one, g4, p4, g5, ho, hg, wkF, ↓reduceIte, reduceCtorEq, Nat.reduceAdd, Nat.reduceLeDiff, Nat.reduceMul, Nat.reduceLT, Nat.reduceEqDiff, wkG, wkH]
          refine Z_is (free_h (n := n) (o := oz) c hn (w.g c) (w.q c) (w.w8 c) ⟨by decide, by decide, by decide⟩ O5.drop) ?_
          rintro v h6 ⟨S', o', hf, O6⟩
          simp only at O6
          simp only [wkF, ↓reduceIte, reduceCtorEq, Nat.reduceAdd, Nat.reduceLeDiff, Nat.reduceMul, Nat.reduceLT, Nat.reduceEqDiff, wkG, wkH]
          have hE : S.E c = ⟨r, g⟩ := by
            rw [← ho, ← hg]
          obtain ⟨wv, pv, bv, ga, gb, pb, one, O9⟩ := fin3 ((O6.at 2 rfl).at 2 rfl)
          simp only [ga, gb, pb, one, c3, s3, wkF, X_seq, Y_box, Y_store, Y_makeMap, Y_buildSlice, ↓reduceIte, reduceCtorEq, wkS, Nat.reduceAdd, Nat.reduceLeDiff, Nat.reduceMul, Nat.reduceLT, Nat.reduceEqDiff, wkG]
          exact leafO _ (answer2 _ _ _ _ (cellN O9 0 rfl rfl rfl) rfl) ⟨wv, pv, bv, _, _, _, rfl, Or.inr (Or.inl ⟨⟨hr, hi⟩, rfl, hE, hf⟩), (O9.drop.at 1 rfl)⟩
        · simp only [ec_len, tk_ec, tk_ec1, dr_ec1, agg_ec, ev_cells, set_ec, ec_one, g4, p4, g5, ho, hg, wkF, ↓reduceIte, reduceCtorEq, Nat.reduceAdd, Nat.reduceLeDiff, Nat.reduceMul, Nat.reduceLT, Nat.reduceEqDiff, wkG, wkH]
          obtain ⟨wv, pv, bv, ga, gb, pb, one, O9⟩ := fin3 ((O5.drop.at 2 rfl).at 2 rfl)
          simp only [ga, gb, pb, one, c3, s3, wkF, X_seq, Y_box, Y_store, Y_makeMap, Y_buildSlice, ↓reduceIte, reduceCtorEq, wkS, Nat.reduceAdd, Nat.reduceLeDiff, Nat.reduceMul, Nat.reduceLT, Nat.reduceEqDiff, wkG]
          exact leafO _ (answer2 _ _ _ _ (cellN O9 0 rfl rfl rfl) rfl) ⟨wv, pv, bv, _, _, _, rfl, Or.inr (Or.inr ⟨⟨hr, hi⟩, rfl, fun e => hg (by rw [e]), rfl, rfl⟩), (O9.drop.at 1 rfl)⟩
      · simp only [ec_len, tk_ec, tk_ec1, dr_ec1, agg_ec, ev_cells, set_ec, ec_one, g4, p4, g5, ho, wkF, ↓reduceIte, reduceCtorEq, Nat.reduceAdd, Nat.reduceLeDiff, Nat.reduceMul, Nat.reduceLT, Nat.reduceEqDiff, wkG, wkH]
        obtain ⟨wv, pv, bv, ga, gb, pb, one, O9⟩ := fin3 ((O5.drop.at 2 rfl).at 2 rfl)
        simp only [ga, gb, pb, one, c3, s3, wkF, X_seq, Y_box, Y_store, Y_makeMap, Y_buildSlice, ↓reduceIte, reduceCtorEq, wkS, Nat.reduceAdd, Nat.reduceLeDiff, Nat.reduceMul, Nat.reduceLT, Nat.reduceEqDiff, wkG]
        exact leafO _ (answer2 _ _ _ _ (cellN O9 0 rfl rfl rfl) rfl) ⟨wv, pv, bv, _, _, _, rfl, Or.inr (Or.inr ⟨⟨hr, hi⟩, rfl, fun e => ho (by rw [e]), rfl, rfl⟩), (O9.drop.at 1 rfl)⟩
    · simp only [hi, wkF, ↓reduceIte, reduceCtorEq, Nat.reduceAdd, Nat.reduceLeDiff, Nat.reduceMul, Nat.reduceLT, Nat.reduceEqDiff, wkG, wkH]
      obtain ⟨wv, pv, bv, ga, gb, pb, one, O9⟩ := fin3 ((O2.at 2 rfl).at 2 rfl)
      simp only [ga, gb, pb, one, c3, s3, wkF, X_seq, Y_box, Y_store, Y_makeMap, Y_buildSlice, ↓reduceIte, reduceCtorEq, wkS, Nat.reduceAdd, Nat.reduceLeDiff, Nat.reduceMul, Nat.reduceLT, Nat.reduceEqDiff, wkG]
      exact leafO _ (answer2 _ _ _ _ (cellN O9 0 rfl rfl rfl) rfl) ⟨wv, pv, bv, _, _, _, rfl, Or.inl ⟨fun x => hi x.2, rfl, rfl, rfl⟩, (O9.drop.at 1 rfl)⟩
  · simp only [hr, wkF, ↓reduceIte, reduceCtorEq, Nat.reduceAdd, Nat.reduceLeDiff, Nat.reduceMul, Nat.reduceLT, Nat.reduceEqDiff, wkG, wkH]
    obtain ⟨wv, pv, bv, ga, gb, pb, one, O9⟩ := fin3 ((O2.at 2 rfl).at 2 rfl)
    simp only [ga, gb, pb, one, c3, s3, wkF, X_seq, Y_box, Y_store, Y_makeMap, Y_buildSlice, ↓reduceIte, reduceCtorEq, wkS, Nat.reduceAdd, Nat.reduceLeDiff, Nat.reduceMul, Nat.reduceLT, Nat.reduceEqDiff, wkG]
    exact leafO _ (answer2 _ _ _ _ (cellN O9 0 rfl rfl rfl) rfl) ⟨wv, pv, bv, _, _, _, rfl, Or.inl ⟨fun x => hr x.1, rfl, rfl, rfl⟩, (O9.drop.at 1 rfl)⟩
end
theorem env41 : env 41 = some ir41 := rfl
def inh (c : Int) (e : En) (p : Int) : Po := ⟨e.o, 8, c, 0, 0, p, 0, 0, 0⟩
def rcl (c : Int) (e : En) : Po := ⟨e.o, 10, c, e.g, 0, 0, 0, 0, 0⟩
def Ou.waits (o : Ou) (w : It) (c : Int) (e : En) (a : Bool) (l' : List It) : Ou :=
  if a then ((o.post (dny w c e.o)).post (inh c e (nth l' 0).p)).post (rcl c e) else o.post (dny w c (-1))
section
variable {ro : Nat → Option (List Value × Nat)} {h : Heap} {R : List Rs} {lb ob : Nat} {S : Ls} {o : Ou} {n : Nat}
theorem Has.qrNew {b : Nat} (O : Has ro h (Ob b (.cells [.slice none 0 0] 1 false) :: R)) : Has ro h (Qr b [] :: R) :=
  Has.ex.2 ⟨.slice none 0 0, Has.star.2 (Has.slrNil (z := 3) (g := ic) O).swap2⟩
theorem Has.lgNew {c : Int} {b : Nat} {eb qb tb : Nat} (hk : lk S.qs c = none) (hw : S.W c = []) (O : Has ro h (Qr b [] :: Ob lb (.cells (lc S eb qb tb) 1 false) :: Mp K64 ev eb S.ents :: Mp K64 pq qb (upd1 S.qs c b) :: Mp K64 tv tb S.told :: Qall S.qs S.W :: R)) :
    Has ro h (Lg lb { S with qs := upd1 S.qs c b } :: R) := by
  have e : upd1 S.qs c b = S.qs ++ [(c, b)] := by unfold upd1; rw [hk]; rfl
  have O1 := Has.all.1 ((O.at 5 rfl))
  have O2 : Has ro h (Qall (S.qs ++ [(c, b)]) S.W :: Ob lb (.cells (lc S eb qb tb) 1 false) :: Mp K64 ev eb S.ents :: Mp K64 pq qb (upd1 S.qs c b) :: Mp K64 tv tb S.told :: R) := by
    refine Has.all.2 ?_
    rw [List.map_append, List.append_assoc]
    show Has ro h (_ ++ (Qr b (S.W c) :: _))
    rw [hw]
    exact O1
  rw [← e] at O2
  exact Has.lgClose (S := { S with qs := upd1 S.qs c b }) ((((O2.at 4 rfl).at 4 rfl).at 4 rfl).at 4 rfl)
theorem putis_len {l l' : List It} {x : It} {a : Bool} {e : Int} (h8 : l.length ≤ 8) (h : PutIs l x a e l') : l'.length ≤ 8 := by
  rcases h with ⟨_, _, _, rfl⟩ | ⟨_, _, _, _, _, rfl⟩ | ⟨_, _, _, l2, hp, hl, _, _⟩
  · exact h8
  · exact h8
  · rw [hl]
    rcases hp with ⟨_, h, rfl⟩ | ⟨i, _, _, ⟨_, rfl⟩ | ⟨_, rfl⟩⟩
    · rw [List.length_append]; exact h
    · rw [List.length_set]; exact h8
    · exact h8
theorem wait_h (w : It) (c : Int) (e : En) (hb : ¬ BadW w) (hn : 60 < n) (hq : lk S.qs c = none → S.W c = []) (h8 : (S.W c).length ≤ 8) (ho : Sm o 900000) (O : Has ro h (Lg lb S :: Og ob o :: R)) :
    (callV env (n + 10) (.func (.func 41) #[] #[]) [.pointer (some ⟨lb, 0, none⟩), iv w, .int .i64 c, ev e, .pointer (some ⟨ob, 0, none⟩)] h).Is fun p => ∃ qs' a er l', (∀ x, lk qs' x = none → lk S.qs x = none ∧ x ≠ c) ∧ PutIs (S.W c) w a er l' ∧ Has ro p.2 (Lg lb { S with qs := qs', W := updW S.W c l' } :: Og ob (o.waits w c e a l') :: R) := by
  obtain ⟨ho1, ho2, ho3⟩ := ho
  refine call_is env41 ?_
  simp only [ir41, Nat.reduceAdd, Nat.reduceSub, wkF, X_seq, Y_store, Y_makeMap, Y_buildSlice, ↓reduceIte, reduceCtorEq, wkO, wkS, wkN, wkG]
  refine Y_boxO O ?_
  intro b6 h1 O1 e1
  simp only [wkF, X_seq, Y_store, Y_makeMap, Y_buildSlice, ↓reduceIte, reduceCtorEq, wkO, wkS, Nat.reduceAdd, wkG]
  refine Y_boxO O1 ?_
  intro b8 h2 O2 e2
  replace O2 : Has ro h2 (Ob b8 (.cells (ec e) 1 false) :: Ob b6 (.cells (ic w) 1 false) :: Lg lb S :: Og ob o :: R) := O2
  replace O2 : Has ro h2 (Lg lb S :: Ob b8 (.cells (ec e) 1 false) :: Ob b6 (.cells (ic w) 1 false) :: Og ob o :: R) := O2.at 2 rfl
  clear O O1 e1 e2
  obtain ⟨eb, qb, tb, gl, lq⟩ := Has.lgLook O2
  unfold lc at gl
  have lq' := lq c
  simp only [wkF, Y_store, Y_makeMap, Y_buildSlice, ↓reduceIte, reduceCtorEq, wkO, wkS, Nat.reduceAdd, wkG]
  rw [X_seq]
  simp only [gl, lq', wkF, Y_store, Y_makeMap, Y_buildSlice, ↓reduceIte, reduceCtorEq, wkO, wkS, Nat.reduceAdd, Nat.reduceLeDiff, Nat.reduceMul, Nat.reduceLT, Nat.reduceEqDiff, wkG]
  rw [X_seq]
  refine X_cut0 (fun s => ∃ b qs', s.tmps.length = 78 ∧ s.tmps.getD 0 undefV = .pointer (some ⟨lb, 0, none⟩) ∧ s.tmps.getD 2 undefV = .int .i64 c ∧ s.tmps.getD 4 undefV = .pointer (some ⟨ob, 0, none⟩) ∧ s.tmps.getD 6 undefV = .pointer (some ⟨b6, 0, none⟩) ∧ s.tmps.getD 8 undefV = .pointer (some ⟨b8, 0, none⟩) ∧ s.tmps.getD 10 undefV = pq b ∧ lk qs' c = some b ∧ (∀ x, lk qs' x = none → lk S.qs x = none ∧ x ≠ c) ∧ Has ro s.h (Lg lb { S with qs := qs' } :: Ob b8 (.cells (ec e) 1 false) :: Ob b6 (.cells (ic w) 1 false) :: Og ob o :: R)) ?_ ?_
  · clear lq'
    cases hk : lk S.qs c with
    | some b =>
      have hs : S.q c = pq b := by unfold Ls.q; rw [hk]
      have hp : vEqPtr false (pq b) (.pointer none) = some (.bool false) := rfl
      simp only [hs, hp, wkF, ↓reduceIte, reduceCtorEq, Nat.reduceAdd, wkG, wkH]
      refine mid_in ⟨b, S.qs, rfl, rfl, rfl, rfl, rfl, rfl, rfl, hk, fun x hx => ⟨hx, ?_⟩, O2⟩
      rintro rfl
      rw [hk] at hx
      cases hx
    | none =>
      have hs : S.q c = .pointer none := by unfold Ls.q; rw [hk]
      simp only [hs, vEqPtr_none, Bool.not_false, wkF, X_seq, Y_store, Y_makeMap, Y_buildSlice, ↓reduceIte, reduceCtorEq, wkO, wkS, Nat.reduceAdd, wkG]
      refine Y_boxO O2 ?_
      intro b h3 O3 e3
      replace O3 : Has ro h3 (Ob b (.cells [.slice none 0 0] 1 false) :: Lg lb S :: Ob b8 (.cells (ec e) 1 false) :: Ob b6 (.cells (ic w) 1 false) :: Og ob o :: R) := O3
      have O4 := (Has.qrNew O3).swap2
      clear gl lq
      obtain ⟨eb, qb, tb, O5⟩ := Has.lgOpen O4
      have g5 := O5.get 0 rfl
      unfold lc at g5
      obtain ⟨h6, u6, O6⟩ := O5.mpUpd 2 rfl c b
      simp only [List.set_cons_zero, List.set_cons_succ] at O6
      have u6' : vMapUpdate h3 none (.map (some qb)) (.int .i64 c) (.pointer (some ⟨b, 0, none⟩)) = some h6 := u6
      simp only [g5, u6', wkF, ↓reduceIte, reduceCtorEq, Nat.reduceAdd, Nat.reduceLeDiff, Nat.reduceMul, Nat.reduceLT, Nat.reduceEqDiff, wkG, wkH]
      refine mid_in ⟨b, upd1 S.qs c b, rfl, rfl, rfl, rfl, rfl, rfl, rfl, by rw [lk_upd, if_pos rfl], fun x hx => ?_, Has.lgNew hk (hq hk) (O6.at 5 rfl)⟩
      rw [lk_upd] at hx
      by_cases e : x = c
      · rw [if_pos e] at hx
        cases hx
      · rw [if_neg e] at hx
        exact ⟨hx, e⟩
  clear gl lq lq' O2 h2 eb qb tb
  rintro tm h2 ⟨b, qs', hlen_, g0, g2, g4, g6, g8, g10, hk, hqs, O2⟩
  simp only at g0 g2 g4 g6 g8 g10 O2
  obtain ⟨w', hg_, rfl⟩ := explode hlen_
  simp only [hg_] at g0 g2 g4 g6 g8 g10
  clear hlen_ hg_
  generalize hS1 : ({ S with qs := qs' } : Ls) = S1 at O2
  have hk1 : lk S1.qs c = some b := by rw [← hS1]; exact hk
  have hW1 : S1.W = S.W := by rw [← hS1]
  have q2 := O2.get 2 rfl
  simp only [kont_code, wkF, Y_store, Y_makeMap, Y_buildSlice, ↓reduceIte, reduceCtorEq, wkO, wkS, Nat.reduceAdd, wkG]
  rw [X_seq]
  simp only [g0, g2, g4, g6, g8, g10, q2, ic_len, tk_ic, tk_ic1, dr_ic1, dr_ic2, agg_ic, iv_cells, set_ic, ic_one, wkF, Y_store, Y_makeMap, Y_buildSlice, ↓reduceIte, reduceCtorEq, wkO, wkS, Nat.reduceAdd, Nat.reduceLeDiff, Nat.reduceMul, Nat.reduceLT, Nat.reduceEqDiff, wkG]
  refine Y_boxO O2 ?_
  intro b11 h3 O3 e3
  replace O3 : Has ro h3 (Ob b11 (.cells [.int .i64 0, .int .i64 0, .int .u32 0, .int .u64 0, .int .i64 0, .int .i64 0, .int .i64 0, .int .i64 0, .slice none 0 0] 1 false) :: Lg lb S1 :: Ob b8 (.cells (ec e) 1 false) :: Ob b6 (.cells (ic w) 1 false) :: Og ob o :: R) := O3
  have g3 := O3.get 0 rfl
  have p3 := O3.can 0 rfl
  have O4 := O3.set 0 rfl (.cells [.int .i64 5, .int .i64 c, .int .u32 0, .int .u64 w.s, .int .i64 0, .int .i64 0, .int .i64 0, .int .i64 (-1), .slice none 0 0] 1 false)
  simp only [List.set_cons_zero] at O4
  have g4 := O4.get 3 rfl
  simp only [g3, p3, g4, ic_len, tk_ic, tk_ic1, dr_ic1, dr_ic2, agg_ic, iv_cells, set_ic, ic_one, wkF, ↓reduceIte, reduceCtorEq, Nat.reduceAdd, Nat.reduceLeDiff, Nat.reduceMul, Nat.reduceLT, Nat.reduceEqDiff, wkG, wkH]
  clear g3 p3 g4 q2
  obtain ⟨L, O5, k⟩ := Has.lgQ hk1 (O4.at 1 rfl)
  rw [hW1] at O5
  refine Z_is (put_h (n := n) (by omega) h8 O5 w) ?_
  rintro v h6 ⟨a, er, l', rfl, hpt, O6⟩
  simp only at O6
  replace O6 := k _ _ _ O6
  replace O6 : Has ro h6 (Lg lb (S1.setW c l') :: Ob b11 (.cells [.int .i64 5, .int .i64 c, .int .u32 0, .int .u64 w.s, .int .i64 0, .int .i64 0, .int .i64 0, .int .i64 (-1), .slice none 0 0] 1 false) :: Ob b8 (.cells (ec e) 1 false) :: Ob b6 (.cells (ic w) 1 false) :: Og ob o :: R) := O6
  clear k O5 O4 O3 e3 O2 L
  have hS2 : S1.setW c l' = { S with qs := qs', W := updW S.W c l' } := by rw [← hS1]; rfl
  have g6 := O6.get 1 rfl
  have g7 := O6.get 3 rfl
  have g8 := O6.get 2 rfl
  cases a with
  | false =>
    simp only [g6, g7, ic_len, tk_ic, tk_ic1, dr_ic1, dr_ic2, agg_ic, iv_cells, set_ic, ic_one, wkF, ↓reduceIte, reduceCtorEq, Nat.reduceAdd, Nat.reduceLeDiff, Nat.reduceMul, Nat.reduceLT, Nat.reduceEqDiff, wkG, wkH]
    refine Z_is (post_h (n := n + 8) (o := o) (dny w c (-1)) (by omega) (by omega) (O6.at 4 rfl)) ?_
    rintro v h9 O9
    simp only [wkF, ↓reduceIte, reduceCtorEq, Nat.reduceAdd, wkG, wkH]
    refine leaf0 ⟨qs', false, er, l', hqs, hpt, ?_⟩
    rw [← hS2]
    exact ((((O9.rid 4 rfl).rid 3 rfl).rid 2 rfl).swap2)
  | true =>
    have p6 := O6.can 1 rfl
    have O7 := O6.set 1 rfl (.cells [.int .i64 5, .int .i64 c, .int .u32 0, .int .u64 w.s, .int .i64 0, .int .i64 0, .int .i64 0, .int .i64 e.o, .slice none 0 0] 1 false)
    simp only [List.set_cons_zero, List.set_cons_succ] at O7
    have g9 := O7.get 1 rfl
    have g10 := O7.get 3 rfl
    simp only [g6, g7, g8, p6, ic_len, tk_ic, tk_ic1, dr_ic1, dr_ic2, agg_ic, iv_cells, set_ic, ic_one, ec_len, tk_ec, tk_ec1, dr_ec1, agg_ec, ev_cells, set_ec, ec_one, g9, g10, wkF, ↓reduceIte, reduceCtorEq, Nat.reduceAdd, Nat.reduceLeDiff, Nat.reduceMul, Nat.reduceLT, Nat.reduceEqDiff, wkG, wkH]
    refine Z_is (post_h (n := n + 8) (o := o) (dny w c e.o) (by omega) (by omega) (O7.at 4 rfl)) ?_
    rintro v h11 O11
    simp only at O11
    have hl8 := putis_len h8 hpt
    have hw2 : (S1.setW c l').W c = l' := by rw [W_setW, if_pos rfl]
    have hq2 : (S1.setW c l').q c = pq b := by unfold Ls.q; show (match lk S1.qs c with | some b => pq b | none => .pointer none) = _; rw [hk1]
    have hno : lk (S1.setW c l').qs c = none → (S1.setW c l').W c = [] := by
      intro x
      have : lk S1.qs c = none := x
      rw [hk1] at this
      cases this
    have hf := first_l (S := S1.setW c l') (n := n + 6) c hno (by rw [hw2]; exact hl8) (by omega) (O11.at 1 rfl)
    rw [hq2, hw2] at hf
    clear g6 g7 g8 p6 g9 g10
    simp only [wkF, X_seq, Y_store, Y_makeMap, Y_buildSlice, ↓reduceIte, reduceCtorEq, wkO, wkS, Nat.reduceAdd, wkG]
    refine Z_is hf ?_
    rintro v h12 ⟨rfl, O12⟩
    simp only at O12
    simp only [wkF, X_seq, Y_store, Y_makeMap, Y_buildSlice, ↓reduceIte, reduceCtorEq, wkO, wkS, Nat.reduceAdd, wkG]
    refine Y_boxO O12 ?_
    intro b14 h13 O13 e13
    replace O13 : Has ro h13 (Ob b14 (.cells (ic it0) 1 false) :: Lg lb (S1.setW c l') :: Og ob (o.post (dny w c e.o)) :: Ob b11 (.cells [.int .i64 5, .int .i64 c, .int .u32 0, .int .u64 w.s, .int .i64 0, .int .i64 0, .int .i64 0, .int .i64 e.o, .slice none 0 0] 1 false) :: Ob b8 (.cells (ec e) 1 false) :: Ob b6 (.cells (ic w) 1 false) :: R) := O13
    have g13 := O13.get 0 rfl
    have p13 := O13.can 0 rfl
    have O14 := O13.set 0 rfl (.cells (ic (nth l' 0)) 1 false)
    simp only [List.set_cons_zero] at O14
    have g14 := O14.get 4 rfl
    have g15 := O14.get 0 rfl
    have si : ∀ x y : It, setAt (ic x) 0 (ic y) = ic y := fun _ _ => rfl
    simp only [g13, p13, ic_len, tk_ic, tk_ic1, dr_ic1, dr_ic2, agg_ic, iv_cells, set_ic, ic_one, si, ec_len, tk_ec, tk_ec1, dr_ec1, agg_ec, ev_cells, set_ec, ec_one, g14, g15, wkF, ↓reduceIte, reduceCtorEq, Nat.reduceAdd, Nat.reduceLeDiff, Nat.reduceMul, Nat.reduceLT, Nat.reduceEqDiff, wkG, wkH]
    refine Z_is (post_h (n := n + 8) (o := o.post (dny w c e.o)) (inh c e (nth l' 0).p) (by simp only [Ou.post, List.length_append, List.length_cons, List.length_nil]; omega) (by simp only [Ou.post, List.length_append, List.length_cons, List.length_nil]; omega) (O14.at 2 rfl)) ?_
    rintro v h16 O16
    simp only at O16
    have g16 := O16.get 4 rfl
    simp only [ec_len, tk_ec, tk_ec1, dr_ec1, agg_ec, ev_cells, set_ec, ec_one, g16, wkF, ↓reduceIte, reduceCtorEq, Nat.reduceAdd, Nat.reduceLeDiff, Nat.reduceMul, Nat.reduceLT, Nat.reduceEqDiff, wkG, wkH]
    refine Z_is (post_h (n := n + 8) (o := (o.post (dny w c e.o)).post (inh c e (nth l' 0).p)) (rcl c e) (by simp only [Ou.post, List.length_append, List.length_cons, List.length_nil]; omega) (by simp only [Ou.post, List.length_append, List.length_cons, List.length_nil]; omega) O16) ?_
    rintro v h17 O17
    simp only at O17
    simp only [wkF, ↓reduceIte, reduceCtorEq, Nat.reduceAdd, wkG, wkH]
    refine leaf0n ⟨qs', true, er, l', hqs, hpt, ?_⟩
    rw [← hS2]
    exact (((((O17.rid 5 rfl).rid 4 rfl).rid 3 rfl).rid 1 rfl).swap2)
end
theorem env15 : env 15 = some ir15 := rfl
def Ls.Fine (S : Ls) (r c p : Int) : Prop := S.Rob r ∧ S.Is c ∧ 0 ≤ p ∧ p ≤ 15
def ReqIs (S : Ls) (w : It) (c e : Int) (S' : Ls) (o' : Ou) : Prop :=
  (¬ S.Fine w.r c w.p ∧ e = 2 ∧ S' = S ∧ o' = oz) ∨ (S.Fine w.r c w.p ∧ ¬ 0 < S.T w.r ∧ e = 140 ∧ S' = S ∧ o' = oz) ∨
    (S.Fine w.r c w.p ∧ 0 < S.T w.r ∧ e = 0 ∧
      (((S.E c).o = w.r ∧ S' = S ∧ o' = oz.post (grt w c (S.E c).g)) ∨
        ((S.E c).o = -1 ∧ ∃ d, S' = S.grant w c ∧ o' = oz.grant S w c d) ∨
        ((S.E c).o ≠ w.r ∧ (S.E c).o ≠ -1 ∧ ∃ qs' a er l', (∀ x, lk qs' x = none → lk S.qs x = none ∧ x ≠ c) ∧ PutIs (S.W c) w a er l' ∧ S' = { S with qs := qs', W := updW S.W c l' } ∧ o' = oz.waits w c (S.E c) a l')))
section
variable {ro : Nat → Option (List Value × Nat)} {h : Heap} {R : List Rs} {lb ob : Nat} {S : Ls} {o : Ou} {n : Nat}
theorem request_h (w : It) (c : Int) (f : Wf S) (hn : 60 < n) (O : Has ro h (Lg lb S :: R)) :
    (callV env (n + 11) (.func (.func 15) #[] #[]) [.pointer (some ⟨lb, 0, none⟩), .int .i64 w.r, .int .i64 c, .int .u64 w.s, .int .i64 w.p] h).Is fun p => ∃ wv pv bv e S' o', p.1 = .tuple #[.agg #[wv, pv, bv], .int .i64 e] ∧ ReqIs S w c e S' o' ∧ Has ro p.2 (Lg lb S' :: Oo wv pv bv o' :: R) := by
  refine call_is env15 ?_
  simp only [ir15, Nat.reduceAdd, Nat.reduceSub, wkF, X_seq, Y_store, Y_makeMap, Y_buildSlice, ↓reduceIte, reduceCtorEq, wkO, wkS, wkN, wkG]
  refine Y_boxO O ?_
  intro b8 h1 O1 e1
  simp only [wkF, X_seq, Y_store, Y_makeMap, Y_buildSlice, ↓reduceIte, reduceCtorEq, wkO, wkS, Nat.reduceAdd, wkG]
  refine Y_boxO O1 ?_
  intro b10 h2 O2 e2
  replace O2 : Has ro h2 (Ob b10 (.cells [.slice none 0 0, .slice none 0 0, .slice none 0 0] 1 false) :: Ob b8 (.cells [.slice none 0 0, .slice none 0 0, .slice none 0 0] 1 false) :: Lg lb S :: R) := O2
  replace O2 : Has ro h2 (Lg lb S :: Og b10 oz :: Ob b8 (.cells [.slice none 0 0, .slice none 0 0, .slice none 0 0] 1 false) :: R) := (Has.ogNew O2).at 2 rfl
  have hr0 : ¬ S.rob = 0 := by have := f.z.r1; omega
  simp only [wkF, ↓reduceIte, reduceCtorEq, Nat.reduceAdd, wkG, wkH]
  refine Z_is (none_h (n := n + 9) O2) ?_
  rintro v h3 ⟨rfl, rfl⟩
  simp only [hr0, wkF, ↓reduceIte, reduceCtorEq, Nat.reduceAdd, wkG, wkH]
  refine Z_is (robot_h (n := n + 8) w.r O2) ?_
  rintro v h3 ⟨rfl, rfl⟩
  by_cases hr : S.Rob w.r
  · simp only [hr, wkF, ↓reduceIte, reduceCtorEq, Nat.reduceAdd, wkG, wkH]
    refine Z_is (is_h (n := n + 8) c O2) ?_
    rintro v h3 ⟨rfl, rfl⟩
    by_cases hi : S.Is c
    · by_cases hp0 : w.p < 0
      · simp only [hi, hp0, wkF, ↓reduceIte, reduceCtorEq, Nat.reduceAdd, Nat.reduceLeDiff, Nat.reduceMul, Nat.reduceLT, Nat.reduceEqDiff, wkG, wkH]
        obtain ⟨wv, pv, bv, ga, gb, pb, one, O9⟩ := fin3 ((O2.at 2 rfl).at 2 rfl)
        simp only [ga, gb, pb, one, c3, s3, wkF, X_seq, Y_box, Y_store, Y_makeMap, Y_buildSlice, ↓reduceIte, reduceCtorEq, wkS, Nat.reduceAdd, Nat.reduceLeDiff, Nat.reduceMul, Nat.reduceLT, Nat.reduceEqDiff, wkG]
        exact leafO _ (answer2 _ _ _ _ (cellN O9 0 rfl rfl rfl) rfl) ⟨wv, pv, bv, _, _, _, rfl, Or.inl ⟨fun x => by have := x.2.2.1; omega, rfl, rfl, rfl⟩, (O9.drop.at 1 rfl)⟩
      by_cases hp1 : 15 < w.p
      · simp only [hi, hp0, hp1, wkF, ↓reduceIte, reduceCtorEq, Nat.reduceAdd, Nat.reduceLeDiff, Nat.reduceMul, Nat.reduceLT, Nat.reduceEqDiff, wkG, wkH]
        obtain ⟨wv, pv, bv, ga, gb, pb, one, O9⟩ := fin3 ((O2.at 2 rfl).at 2 rfl)
        simp only [ga, gb, pb, one, c3, s3, wkF, X_seq, Y_box, Y_store, Y_makeMap, Y_buildSlice, ↓reduceIte, reduceCtorEq, wkS, Nat.reduceAdd, Nat.reduceLeDiff, Nat.reduceMul, Nat.reduceLT, Nat.reduceEqDiff, wkG]
        exact leafO _ (answer2 _ _ _ _ (cellN O9 0 rfl rfl rfl) rfl) ⟨wv, pv, bv, _, _, _, rfl, Or.inl ⟨fun x => by have := x.2.2.2; omega, rfl, rfl, rfl⟩, (O9.drop.at 1 rfl)⟩
      have hfine : S.Fine w.r c w.p := ⟨hr, hi, by omega, by omega⟩
      simp only [hi, hp0, hp1, wkF, ↓reduceIte, reduceCtorEq, Nat.reduceAdd, wkG, wkH]
      refine Z_is (told_h (n := n + 7) w.r O2) ?_
      rintro v h3 ⟨rfl, rfl⟩
      by_cases ht : 0 < S.T w.r
      · have htd : decide (S.Rob w.r ∧ 0 < S.T w.r) = true := decide_eq_true ⟨hr, ht⟩
        simp only [htd, wkF, X_seq, Y_store, Y_makeMap, Y_buildSlice, ↓reduceIte, reduceCtorEq, wkO, wkS, Nat.reduceAdd, Nat.reduceLeDiff, Nat.reduceMul, Nat.reduceLT, Nat.reduceEqDiff, wkG]
        refine Y_boxO O2 ?_
        intro b13 h4 O4 e4
        replace O4 : Has ro h4 (Ob b13 (.cells (ic it0) 1 false) :: Lg lb S :: Og b10 oz :: Ob b8 (.cells [.slice none 0 0, .slice none 0 0, .slice none 0 0] 1 false) :: R) := O4
        have g4 := O4.get 0 rfl
        have p4 := O4.can 0 rfl
        have O5 := O4.set 0 rfl (.cells (ic w) 1 false)
        simp only [List.set_cons_zero] at O5
        have cw : cellsOf (.agg #[.int .i64 w.r, .int .u64 w.s, .int .i64 w.p]) = ic w := rfl
        have si : ∀ x y : It, setAt (ic x) 0 (ic y) = ic y := fun _ _ => rfl
        simp only [g4, p4, cw, si, ic_len, tk_ic, tk_ic1, dr_ic1, dr_ic2, agg_ic, iv_cells, set_ic, ic_one, wkF, X_seq, Y_store, Y_makeMap, Y_buildSlice, ↓reduceIte, reduceCtorEq, wkO, wkS, Nat.reduceAdd, Nat.reduceLeDiff, Nat.reduceMul, Nat.reduceLT, Nat.reduceEqDiff, wkG]
        clear g4 p4
        refine Z_is (entry_h (n := n + 8) c (O5.at 1 rfl)) ?_
        rintro v h6 ⟨rfl, O6⟩
        simp only at O6
        simp only [wkF, X_seq, Y_store, Y_makeMap, Y_buildSlice, ↓reduceIte, reduceCtorEq, wkO, wkS, Nat.reduceAdd, wkG]
        refine Y_boxO O6 ?_
        intro b14 h7 O7 e7
        replace O7 : Has ro h7 (Ob b14 (.cells [.int .i64 0, .int .u32 0] 1 false) :: Lg lb S :: Ob b13 (.cells (ic w) 1 false) :: Og b10 oz :: Ob b8 (.cells [.slice none 0 0, .slice none 0 0, .slice none 0 0] 1 false) :: R) := O7
        have g7 := O7.get 0 rfl
        have p7 := O7.can 0 rfl
        have O8 := O7.set 0 rfl (.cells (ec (S.E c)) 1 false)
        simp only [List.set_cons_zero] at O8
        have g8 := O8.get 0 rfl
        have g9 := O8.get 2 rfl
        by_cases ho : (S.E c).o = w.r
        · simp only [ec_len, tk_ec, tk_ec1, dr_ec1, agg_ec, ev_cells, set_ec, ec_one, ic_len, tk_ic, tk_ic1, dr_ic1, dr_ic2, agg_ic, iv_cells, set_ic, ic_one, g7, p7, g8, g9, ho, wkF, ↓reduceIte, reduceCtorEq, Nat.reduceAdd, Nat.reduceLeDiff, Nat.reduceMul, Nat.reduceLT, Nat.reduceEqDiff, wkG, wkH]
          refine Z_is (post_h (n := n + 9) (o := oz) (grt w c (S.E c).g) (by decide) (by decide) (O8.at 3 rfl)) ?_
          rintro v h9 O10
          simp only at O10
          simp only [wkF, ↓reduceIte, reduceCtorEq, Nat.reduceAdd, Nat.reduceLeDiff, Nat.reduceMul, Nat.reduceLT, Nat.reduceEqDiff, wkG, wkH]
          obtain ⟨wv, pv, bv, ga, gb, pb, one, O9⟩ := fin3 ((O10.rid 3 rfl).rid 1 rfl |>.at 2 rfl |>.at 1 rfl)
          simp only [ga, gb, pb, one, c3, s3, wkF, X_seq, Y_box, Y_store, Y_makeMap, Y_buildSlice, ↓reduceIte, reduceCtorEq, wkS, Nat.reduceAdd, Nat.reduceLeDiff, Nat.reduceMul, Nat.reduceLT, Nat.reduceEqDiff, wkG]
          exact leafO _ (answer2 _ _ _ _ (cellN O9 0 rfl rfl rfl) rfl) ⟨wv, pv, bv, _, _, _, rfl, Or.inr (Or.inr ⟨hfine, ht, rfl, Or.inl ⟨ho, rfl, rfl⟩⟩), (O9.drop.at 1 rfl)⟩
        by_cases hm : (S.E c).o = -1
        · have hmr : ¬ (-1 : Int) = w.r := by have := hr.2.1; omega
          simp only [ec_len, tk_ec, tk_ec1, dr_ec1, agg_ec, ev_cells, set_ec, ec_one, ic_len, tk_ic, tk_ic1, dr_ic1, dr_ic2, agg_ic, iv_cells, set_ic, ic_one, g7, p7, g8, g9, ho, hm, hmr, wkF, ↓reduceIte, reduceCtorEq, Nat.reduceAdd, Nat.reduceLeDiff, Nat.reduceMul, Nat.reduceLT, Nat.reduceEqDiff, wkG, wkH]
          refine Z_is (grant_h (n := n + 5) (o := oz) w c (f.g c) ⟨by decide, by decide, by decide⟩ ((O8.at 3 rfl).at 2 rfl)) ?_
          rintro v h9 ⟨d, rfl, O10⟩
          simp only at O10
          simp only [wkF, ↓reduceIte, reduceCtorEq, Nat.reduceAdd, Nat.reduceLeDiff, Nat.reduceMul, Nat.reduceLT, Nat.reduceEqDiff, wkG, wkH]
          obtain ⟨wv, pv, bv, ga, gb, pb, one, O9⟩ := fin3 ((O10.rid 3 rfl).rid 2 rfl |>.at 2 rfl |>.at 2 rfl)
          simp only [ga, gb, pb, one, c3, s3, wkF, X_seq, Y_box, Y_store, Y_makeMap, Y_buildSlice, ↓reduceIte, reduceCtorEq, wkS, Nat.reduceAdd, Nat.reduceLeDiff, Nat.reduceMul, Nat.reduceLT, Nat.reduceEqDiff, wkG]
          exact leafO _ (answer2 _ _ _ _ (cellN O9 0 rfl rfl rfl) rfl) ⟨wv, pv, bv, _, _, _, rfl, Or.inr (Or.inr ⟨hfine, ht, rfl, Or.inr (Or.inl ⟨hm, d, rfl, rfl⟩)⟩), (O9.drop.at 1 rfl)⟩
        · simp only [ec_len, tk_ec, tk_ec1, dr_ec1, agg_ec, ev_cells, set_ec, ec_one, ic_len, tk_ic, tk_ic1, dr_ic1, dr_ic2, agg_ic, iv_cells, set_ic, ic_one, g7, p7, g8, g9, ho, hm, wkF, ↓reduceIte, reduceCtorEq, Nat.reduceAdd, Nat.reduceLeDiff, Nat.reduceMul, Nat.reduceLT, Nat.reduceEqDiff, wkG, wkH]
          have hb : ¬ BadW w := by
            have h1 := hr.2.1
            have h2 := hr.2.2
            have h3 := f.z.r2
            unfold BadW
            omega
          refine Z_is (wait_h (n := n) (o := oz) w c (S.E c) hb hn (f.q c) (f.w8 c) ⟨by decide, by decide, by decide⟩ ((O8.at 3 rfl).at 2 rfl)) ?_
          rintro v h9 ⟨qs', a, er, l', hq1, hq2, O10⟩
          simp only at O10
          simp only [wkF, ↓reduceIte, reduceCtorEq, Nat.reduceAdd, Nat.reduceLeDiff, Nat.reduceMul, Nat.reduceLT, Nat.reduceEqDiff, wkG, wkH]
          obtain ⟨wv, pv, bv, ga, gb, pb, one, O9⟩ := fin3 ((O10.rid 3 rfl).rid 2 rfl |>.at 2 rfl |>.at 2 rfl)
          simp only [ga, gb, pb, one, c3, s3, wkF, X_seq, Y_box, Y_store, Y_makeMap, Y_buildSlice, ↓reduceIte, reduceCtorEq, wkS, Nat.reduceAdd, Nat.reduceLeDiff, Nat.reduceMul, Nat.reduceLT, Nat.reduceEqDiff, wkG]
          exact leafO _ (answer2 _ _ _ _ (cellN O9 0 rfl rfl rfl) rfl) ⟨wv, pv, bv, _, _, _, rfl, Or.inr (Or.inr ⟨hfine, ht, rfl, Or.inr (Or.inr ⟨ho, hm, qs', a, er, l', hq1, hq2, rfl, rfl⟩)⟩), (O9.drop.at 1 rfl)⟩
      · have htd : decide (S.Rob w.r ∧ 0 < S.T w.r) = false := decide_eq_false fun x => ht x.2
        simp only [htd, wkF, ↓reduceIte, reduceCtorEq, Nat.reduceAdd, Nat.reduceLeDiff, Nat.reduceMul, Nat.reduceLT, Nat.reduceEqDiff, wkG, wkH]
        obtain ⟨wv, pv, bv, ga, gb, pb, one, O9⟩ := fin3 ((O2.at 2 rfl).at 2 rfl)
        simp only [ga, gb, pb, one, c3, s3, wkF, X_seq, Y_box, Y_store, Y_makeMap, Y_buildSlice, ↓reduceIte, reduceCtorEq, wkS, Nat.reduceAdd, Nat.reduceLeDiff, Nat.reduceMul, Nat.reduceLT, Nat.reduceEqDiff, wkG]
        exact leafO _ (answer2 _ _ _ _ (cellN O9 0 rfl rfl rfl) rfl) ⟨wv, pv, bv, _, _, _, rfl, Or.inr (Or.inl ⟨hfine, ht, rfl, rfl, rfl⟩), (O9.drop.at 1 rfl)⟩
    · simp only [hi, wkF, ↓reduceIte, reduceCtorEq, Nat.reduceAdd, Nat.reduceLeDiff, Nat.reduceMul, Nat.reduceLT, Nat.reduceEqDiff, wkG, wkH]
      obtain ⟨wv, pv, bv, ga, gb, pb, one, O9⟩ := fin3 ((O2.at 2 rfl).at 2 rfl)
      simp only [ga, gb, pb, one, c3, s3, wkF, X_seq, Y_box, Y_store, Y_makeMap, Y_buildSlice, ↓reduceIte, reduceCtorEq, wkS, Nat.reduceAdd, Nat.reduceLeDiff, Nat.reduceMul, Nat.reduceLT, Nat.reduceEqDiff, wkG]
      exact leafO _ (answer2 _ _ _ _ (cellN O9 0 rfl rfl rfl) rfl) ⟨wv, pv, bv, _, _, _, rfl, Or.inl ⟨fun x => hi x.2.1, rfl, rfl, rfl⟩, (O9.drop.at 1 rfl)⟩
  · simp only [hr, wkF, ↓reduceIte, reduceCtorEq, Nat.reduceAdd, Nat.reduceLeDiff, Nat.reduceMul, Nat.reduceLT, Nat.reduceEqDiff, wkG, wkH]
    obtain ⟨wv, pv, bv, ga, gb, pb, one, O9⟩ := fin3 ((O2.at 2 rfl).at 2 rfl)
    simp only [ga, gb, pb, one, c3, s3, wkF, X_seq, Y_box, Y_store, Y_makeMap, Y_buildSlice, ↓reduceIte, reduceCtorEq, wkS, Nat.reduceAdd, Nat.reduceLeDiff, Nat.reduceMul, Nat.reduceLT, Nat.reduceEqDiff, wkG]
    exact leafO _ (answer2 _ _ _ _ (cellN O9 0 rfl rfl rfl) rfl) ⟨wv, pv, bv, _, _, _, rfl, Or.inl ⟨fun x => hr x.1, rfl, rfl, rfl⟩, (O9.drop.at 1 rfl)⟩
end
end Go.Proofs.Ytmpnldmdchchjaa
