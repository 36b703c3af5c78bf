/-
  Push, Pop, Top and Len of a pile: their contracts.
-/
import Derived.Test.YtafaefeekilclaaHeap
namespace Go.Proofs.Ytafaefeekilclaa
open Go Go.Ideal Go.ChangeShapes Go.RowKit
set_option maxHeartbeats 0
set_option linter.unusedSimpArgs false
set_option linter.unusedVariables false
set_option maxRecDepth 100000
attribute [local irreducible] callV T.All T.Is run
theorem env10 : env 10 = some ir10 := rfl
theorem env11 : env 11 = some ir11 := rfl
theorem env12 : env 12 = some ir12 := rfl
theorem env13 : env 13 = some ir13 := rfl
theorem env14 : env 14 = some ir14 := rfl
theorem env23 : env 23 = some ir23 := rfl

theorem rd_cell {h : Heap} {b off z : Nat} {cs : List Value} {t : Bool} {v : Value} (hb : h.get b = some (.cells cs z t)) (hv : cs[off]? = some v) : readC (h.get b) off 1 = some [v] := by
  obtain ⟨h1, h2⟩ := List.getElem?_eq_some_iff.1 hv
  rw [hb]
  simp only [readC, readN]
  rw [if_pos (by omega), List.drop_eq_getElem_cons h1, h2]
  rfl
theorem wr_cell {h : Heap} {b off z : Nat} {cs : List Value} {t : Bool} {v w : Value} (hb : h.get b = some (.cells cs z t)) (hv : cs[off]? = some v) (hw : oneCell w = true) (hc : canPut h b = true) : writeC (h.get b) h b off [w] = some (h.setB b (.cells (cs.set off w) z t)) := by
  obtain ⟨h1, h2⟩ := List.getElem?_eq_some_iff.1 hv
  rw [hb, writeC_cells, if_pos ⟨by simp; omega, by simp [hw], hc⟩]
  rfl

theorem leafC2 {tm : List Value} {h : Heap} {a n b blk : Nat} {cs : List Value} {Q : Value × Heap → Prop} (hp : tm.getD a undefV = .pointer (some ⟨blk, 0, none⟩)) (hr : readC (h.get blk) 0 n = some cs) (hq : Q (.tuple #[.agg cs.toArray, tm.getD b undefV], h)) : (T.ret (.ret, St.mk tm [] h)).Is (Ideal.Fin [.cell a (some n), .tmp b] Q) := by
  refine T.Is.mono (Q := fun p => p = (IExit.ret, St.mk tm [] h)) ?_ (Is_in rfl)
  rintro p rfl
  refine ⟨h, .tuple #[.agg cs.toArray, tm.getD b undefV], rfl, ?_, hq⟩
  have e1 : (IResult.cell a (some n)).val tm h = some (.agg cs.toArray) := by
    unfold IResult.val
    simp only [hp, read_eq, hr, Option.map_some]
  have e2 : (IResult.tmp b).val tm h = some (tm.getD b undefV) := rfl
  simp [answer, e1, e2]

/-- A pile in memory: at a place of a block, a slice of items in a block of its own. -/
structure PileAt (h : Heap) (pb off : Nat) (cs : List Value) (z : Nat) (t : Bool) (v : Value) (sb : Option Nat) (l : List It) : Prop where
  at_ : h.get pb = some (.cells cs z t)
  cell : cs[off]? = some v
  sl : Sl 3 ic h v sb l
  even : pb % 2 = 0
  fl : h.floor ≤ pb / 2
  lt : pb < 2 * h.next
  ne : some pb ≠ sb

def pS (pb : Nat) (sb : Option Nat) (x : Nat) : Prop := x = pb ∨ some x = sb

theorem PileAt.chg {S : Nat → Prop} {h h' : Heap} {pb off : Nat} {cs : List Value} {z : Nat} {t : Bool} {v : Value} {sb : Option Nat} {l : List It} (p : PileAt h pb off cs z t v sb l) (hc : Chg S h h') (h1 : ¬ S pb) (h2 : ∀ b, some b = sb → ¬ S b) : PileAt h' pb off cs z t v sb l :=
  ⟨(hc.old pb (Or.inr p.lt) h1).trans p.at_, p.cell, p.sl.chg hc h2, p.even, by rw [hc.floor]; exact p.fl, Nat.lt_of_lt_of_le p.lt (by have := hc.next; omega), p.ne⟩

theorem len_ok {n pb off z : Nat} {h : Heap} {cs : List Value} {t : Bool} {v : Value} {sb : Option Nat} {l : List It} (hp : PileAt h pb off cs z t v sb l) : (callV env (n + 1) (.func (.func 13) #[] #[]) [.pointer (some ⟨pb, off, none⟩)] h).Is fun p => p = (.int .i64 (l.length : Int), h) := by
  refine call_is env13 ?_
  have r1 := rd_cell hp.at_ hp.cell
  obtain ⟨p, c, rfl, _, _⟩ := hp.sl.val
  simp (disch := first | assumption | omega | (simp only [wkD, oneCell, Option.isSome_some, *]; done) | (simp only [wkE, ne_eq]; omega)) only [ir13, List.append_nil, List.nil_append, List.cons_append, List.length_cons, List.length_nil, Nat.reduceAdd, Nat.reduceSub, List.replicate_succ, List.replicate_zero, r1, wk0, wk1, wk2, wk3, wk4, wk5, X_region, X_seq, X_block, X_loop, X_cond, Y_box, Y_un, Y_store, Y_append, Y_makeMap, Y_buildSlice, ibin_shl, ibin_shr, ibin_and, List.set_cons_zero, List.set_cons_succ, List.getD_cons_zero, List.getD_cons_succ, List.map_cons, List.map_nil, ↓reduceIte, reduceCtorEq, oneCell, List.length_cons, List.length_nil, setAt, readN, bne_iff_ne, ne_eq, Nat.reduceAdd, Nat.reduceLeDiff, List.getElem?_cons_zero, List.getElem?_cons_succ, Nat.reduceMul, Option.isSome_some, layAt, Nat.reduceLT, Option.isNone_some, Option.isNone_none, beq_self_eq_true, Nat.reduceEqDiff, setParams, Int.reduceLT, Int.reduceLE, Int.reduceGT, Int.reduceGE, Int.reduceEq, Int.reduceNe, Option.map_some, Option.map_none, Option.isSome_none]
  exact leaf1 rfl

theorem top_ok {n pb off z : Nat} {h : Heap} {cs : List Value} {t : Bool} {v : Value} {sb : Option Nat} {l : List It} (hf : h.Fine) (hp : PileAt h pb off cs z t v sb l) :
    (callV env (n + 2) (.func (.func 14) #[] #[]) [.pointer (some ⟨pb, off, none⟩)] h).Is fun p => p.1 = .tuple #[iv (if 0 < l.length then nth l 0 else it0), .bool (decide (0 < l.length))] ∧ Ext h p.2 := by
  refine call_is env14 ?_
  simp (disch := first | assumption | omega | (simp only [wkD, oneCell, Option.isSome_some, *]; done) | (simp only [wkE, ne_eq]; omega)) only [ir14, List.append_nil, List.nil_append, List.cons_append, List.length_cons, List.length_nil, Nat.reduceAdd, Nat.reduceSub, List.replicate_succ, List.replicate_zero, wk0, wk1, wk2, wk3, wk4, wk5, X_region, X_seq, X_block, X_loop, X_cond, Y_box, Y_un, Y_store, Y_append, Y_makeMap, Y_buildSlice, ibin_shl, ibin_shr, ibin_and, List.set_cons_zero, List.set_cons_succ, List.getD_cons_zero, List.getD_cons_succ, List.map_cons, List.map_nil, ↓reduceIte, reduceCtorEq, oneCell, List.length_cons, List.length_nil, setAt, readN, bne_iff_ne, ne_eq, Nat.reduceAdd, Nat.reduceLeDiff, List.getElem?_cons_zero, List.getElem?_cons_succ, Nat.reduceMul, Option.isSome_some, layAt, Nat.reduceLT, Option.isNone_some, Option.isNone_none, beq_self_eq_true, Nat.reduceEqDiff, setParams, Int.reduceLT, Int.reduceLE, Int.reduceGT, Int.reduceGE, Int.reduceEq, Int.reduceNe, Option.map_some, Option.map_none, Option.isSome_none]
  have fA := alloc_fine (o := .cells [.int .i64 0, .int .i64 0, .int .i64 0] 1 false) hf
  have pA : PileAt (h.alloc (.cells [.int .i64 0, .int .i64 0, .int .i64 0] 1 false)) pb off cs z t v sb l := hp.chg ((Chg.refl (fun _ => False) h).alloc _) id (fun _ _ => id)
  have gA : (h.alloc (.cells [.int .i64 0, .int .i64 0, .int .i64 0] 1 false)).get (2 * h.next) = some (.cells [.int .i64 0, .int .i64 0, .int .i64 0] 1 false) := get_alloc_new hf
  have eA : Ext h (h.alloc (.cells [.int .i64 0, .int .i64 0, .int .i64 0] 1 false)) := (Ext.refl h).alloc _
  have hf1 := hf.1
  have cA : canPut (h.alloc (.cells [.int .i64 0, .int .i64 0, .int .i64 0] 1 false)) (2 * h.next) = true := canPut_new _ hf1
  generalize h.alloc (.cells [.int .i64 0, .int .i64 0, .int .i64 0] 1 false) = k at fA pA gA eA cA ⊢
  refine Z_is (len_ok (n := n) pA) ?_
  rintro v1 h1 ⟨rfl⟩
  by_cases h0 : l.length = 0
  · have c : ((l.length : Int) = 0) := by omega
    simp (disch := first | assumption | omega | (simp only [wkD, oneCell, Option.isSome_some, *]; done) | (simp only [wkE, ne_eq]; omega)) only [c, gA, cA, wk0, wk1, wk2, wk3, wk4, wk5, X_region, X_seq, X_block, X_loop, X_cond, Y_box, Y_un, Y_store, Y_append, Y_makeMap, Y_buildSlice, ibin_shl, ibin_shr, ibin_and, List.set_cons_zero, List.set_cons_succ, List.getD_cons_zero, List.getD_cons_succ, List.map_cons, List.map_nil, ↓reduceIte, reduceCtorEq, oneCell, List.length_cons, List.length_nil, setAt, readN, bne_iff_ne, ne_eq, Nat.reduceAdd, Nat.reduceLeDiff, List.getElem?_cons_zero, List.getElem?_cons_succ, Nat.reduceMul, Option.isSome_some, layAt, Nat.reduceLT, Option.isNone_some, Option.isNone_none, beq_self_eq_true, Nat.reduceEqDiff, setParams, Int.reduceLT, Int.reduceLE, Int.reduceGT, Int.reduceGE, Int.reduceEq, Int.reduceNe, Option.map_some, Option.map_none, Option.isSome_none]
    have hn0 : ¬ 0 < l.length := by omega
    refine leafC2 (cs := ic it0) rfl (by rw [get_setB_same (by omega) (by rw [gA]; rfl)]; rfl) ?_
    rw [if_neg hn0, decide_eq_false hn0]
    exact ⟨rfl, eA.setB _ _ (by omega) (Nat.le_refl _)⟩
  · have c : ¬ ((l.length : Int) = 0) := by omega
    obtain ⟨b, cp, rest, rfl, b2, b3, b4, b5, b6, b7, b8⟩ := pA.sl.block (by omega)
    have r1 := rd_cell pA.at_ pA.cell
    have r2 : readC (k.get b) 0 3 = some (ic (nth l 0)) := by
      have := rd_all ic_len (nth_get (l := l) (k := 0) (by omega)) b8
      rwa [Nat.zero_mul] at this
    have c0 : (0 : Int) < (l.length : Int) := by omega
    have wA : ∀ x y z, writeC (k.get (2 * h.next)) k (2 * h.next) 0 [.int .i64 x, .int .i64 y, .int .i64 z] = some (k.setB (2 * h.next) (.cells [.int .i64 x, .int .i64 y, .int .i64 z] 1 false)) := fun x y z => by
      rw [gA, writeC_cells, if_pos ⟨by simp, by simp [oneCell], cA⟩]; rfl
    simp (disch := first | assumption | omega | (simp only [wkD, oneCell, Option.isSome_some, *]; done) | (simp only [wkE, ne_eq]; omega)) only [c, r1, r2, c0, wA, ic, Nat.zero_mul, wk0, wk1, wk2, wk3, wk4, wk5, X_region, X_seq, X_block, X_loop, X_cond, Y_box, Y_un, Y_store, Y_append, Y_makeMap, Y_buildSlice, ibin_shl, ibin_shr, ibin_and, List.set_cons_zero, List.set_cons_succ, List.getD_cons_zero, List.getD_cons_succ, List.map_cons, List.map_nil, ↓reduceIte, reduceCtorEq, oneCell, List.length_cons, List.length_nil, setAt, readN, bne_iff_ne, ne_eq, Nat.reduceAdd, Nat.reduceLeDiff, List.getElem?_cons_zero, List.getElem?_cons_succ, Nat.reduceMul, Option.isSome_some, layAt, Nat.reduceLT, Option.isNone_some, Option.isNone_none, beq_self_eq_true, Nat.reduceEqDiff, setParams, Int.reduceLT, Int.reduceLE, Int.reduceGT, Int.reduceGE, Int.reduceEq, Int.reduceNe, Option.map_some, Option.map_none, Option.isSome_none]
    have hn0 : 0 < l.length := by omega
    refine leafC2 (cs := ic (nth l 0)) rfl (by rw [get_setB_same (by omega) (by rw [gA]; rfl)]; rfl) ?_
    rw [if_pos hn0, decide_eq_true hn0]
    exact ⟨rfl, eA.setB _ _ (by omega) (Nat.le_refl _)⟩

theorem push_ok {n pb off z : Nat} {h : Heap} {cs : List Value} {t : Bool} {v : Value} {sb : Option Nat} {l : List It} {x : It} (hn : l.length + 20 < n) (hl : l.length < 1000000) (hf : h.Fine) (hp : PileAt h pb off cs z t v sb l) (hh : IsHeap l) :
    (callV env (n + 4) (.func (.func 10) #[] #[]) [.pointer (some ⟨pb, off, none⟩), iv x] h).Is fun p => ∃ v' sb' l', PileAt p.2 pb off (cs.set off v') z t v' sb' l' ∧ (sb' = sb ∨ ∃ b, sb' = some b ∧ 2 * h.next ≤ b) ∧ IsHeap l' ∧ l'.length = l.length + 1 ∧ (∀ y, l'.count y = l.count y + one (x = y)) ∧ Chg (pS pb sb) h p.2 := by
  refine call_is env10 ?_
  unfold iv
  simp (disch := first | assumption | omega | (simp only [wkD, oneCell, Option.isSome_some, *]; done) | (simp only [wkE, ne_eq]; omega)) only [ir10, List.append_nil, List.nil_append, List.cons_append, List.length_cons, List.length_nil, Nat.reduceAdd, Nat.reduceSub, List.replicate_succ, List.replicate_zero, wk0, wk1, wk2, wk3, wk4, wk5, X_region, X_seq, X_block, X_loop, X_cond, Y_box, Y_un, Y_store, Y_append, Y_makeMap, Y_buildSlice, ibin_shl, ibin_shr, ibin_and, List.set_cons_zero, List.set_cons_succ, List.getD_cons_zero, List.getD_cons_succ, List.map_cons, List.map_nil, ↓reduceIte, reduceCtorEq, oneCell, List.length_cons, List.length_nil, setAt, readN, bne_iff_ne, ne_eq, Nat.reduceAdd, Nat.reduceLeDiff, List.getElem?_cons_zero, List.getElem?_cons_succ, Nat.reduceMul, Option.isSome_some, layAt, Nat.reduceLT, Option.isNone_some, Option.isNone_none, beq_self_eq_true, Nat.reduceEqDiff, setParams, Int.reduceLT, Int.reduceLE, Int.reduceGT, Int.reduceGE, Int.reduceEq, Int.reduceNe, Option.map_some, Option.map_none, Option.isSome_none]
  have hf1 := hf.1
  have hcs : off < cs.length := (List.getElem?_eq_some_iff.1 hp.cell).1
  refine X_drawn _ fun an => ?_
  have f1 := alloc_fine (o := .cells [.int .i64 x.c, .int .i64 x.t, .int .i64 x.i] 1 false) hf
  have gX : (h.alloc (.cells [.int .i64 x.c, .int .i64 x.t, .int .i64 x.i] 1 false)).get (2 * h.next) = some (.cells (ic x) 1 false) := get_alloc_new hf
  have p1 : PileAt (h.alloc (.cells [.int .i64 x.c, .int .i64 x.t, .int .i64 x.i] 1 false)) pb off cs z t v sb l := hp.chg ((Chg.refl (fun _ => False) h).alloc _) id (fun _ _ => id)
  have e1 : Chg (pS pb sb) h (h.alloc (.cells [.int .i64 x.c, .int .i64 x.t, .int .i64 x.i] 1 false)) := (Chg.refl _ h).alloc _
  have n1 : (h.alloc (.cells [.int .i64 x.c, .int .i64 x.t, .int .i64 x.i] 1 false)).next = h.next + 1 := rfl
  generalize h.alloc (.cells [.int .i64 x.c, .int .i64 x.t, .int .i64 x.i] 1 false) = k1 at f1 gX p1 e1 n1 ⊢
  have r1 := rd_cell p1.at_ p1.cell
  have rX : readC (k1.get (2 * h.next)) 0 3 = some [.int .i64 x.c, .int .i64 x.t, .int .i64 x.i] := by rw [gX]; rfl
  have bs : pBuildSlice k1 3 1 [.int .i64 0, .int .i64 0, .int .i64 0] [(0, 3, .agg #[.int .i64 x.c, .int .i64 x.t, .int .i64 x.i])] = some (.slice (some ⟨2 * k1.next, 0, none⟩) 1 1, k1.alloc (.cells (ic x) 3 false)) := by
    unfold pBuildSlice; rfl
  have f2 := alloc_fine (o := .cells (ic x) 3 false) f1
  have p2 : PileAt (k1.alloc (.cells (ic x) 3 false)) pb off cs z t v sb l := p1.chg ((Chg.refl (fun _ => False) k1).alloc _) id (fun _ _ => id)
  have e2 := e1.alloc (.cells (ic x) 3 false)
  have gX2 : (k1.alloc (.cells (ic x) 3 false)).get (2 * h.next) = some (.cells (ic x) 1 false) := (get_alloc_old (by omega)).trans gX
  obtain ⟨v', k3, sb', a1, a2, a3, a4⟩ := sl_append (z := 3) (bytes := 24) (by omega) ic_len ic_one f2 p2.sl (get_alloc_new f1) (by unfold roomMost; omega) (by omega)
  have n2 : (k1.alloc (.cells (ic x) 3 false)).next = h.next + 2 := by rw [alloc_next, n1]
  obtain ⟨b, cpl, rest, rfl, rfl, bL, bE, bF, bN, bR, bG⟩ := a2.block (by simp)
  have hlen : (l ++ [x]).length = l.length + 1 := by simp
  rw [hlen] at bL bR a1 a2
  have e3 : Chg (pS pb sb) h k3 := e2.then a4 (fun y _ hy => Or.inr hy)
  have bP : b ≠ pb := by
    rintro rfl
    rcases a3 with e | e
    · exact hp.ne e
    · cases e
      have := hp.lt
      omega
  have bS : some b = sb ∨ ∃ b', some b = some b' ∧ 2 * h.next ≤ b' := by
    rcases a3 with e | e
    · exact Or.inl e
    · cases e
      exact Or.inr ⟨_, rfl, by omega⟩
  have bW : b < 2 * h.next → pS pb sb b := by
    intro hb
    rcases a3 with e | e
    · exact Or.inr e
    · cases e
      omega
  have lX : 2 * h.next < 2 * (h.next + 2) := by omega
  have gX3 : k3.get (2 * h.next) = some (.cells (ic x) 1 false) := (a4.old _ (Or.inr (by rw [n2]; exact lX)) (fun e => by
    have := (hp.sl.lt e).1
    omega)).trans gX2
  have gP3 : k3.get pb = some (.cells cs z t) := (a4.old _ (Or.inr p2.lt) (fun e => hp.ne e)).trans p2.at_
  have w1 := wr_cell (w := .slice (some ⟨b, 0, some 3⟩) (l.length + 1) cpl) gP3 hp.cell rfl (canPut_even hp.even (by rw [e3.floor]; exact hp.fl))
  have cO : ∀ (p : Option Addr) (a b : Nat), cellsOf (.slice p a b) = [.slice p a b] := fun _ _ _ => rfl
  simp (disch := first | assumption | omega | (simp only [wkD, oneCell, Option.isSome_some, *]; done) | (simp only [wkE, ne_eq]; omega)) only [r1, rX, bs, a1, w1, cO, Nat.lt_add_one, wk0, wk1, wk2, wk3, wk4, wk5, X_region, X_seq, X_block, X_loop, X_cond, Y_box, Y_un, Y_store, Y_append, Y_makeMap, Y_buildSlice, ibin_shl, ibin_shr, ibin_and, List.set_cons_zero, List.set_cons_succ, List.getD_cons_zero, List.getD_cons_succ, List.map_cons, List.map_nil, ↓reduceIte, reduceCtorEq, oneCell, List.length_cons, List.length_nil, setAt, readN, bne_iff_ne, ne_eq, Nat.reduceAdd, Nat.reduceLeDiff, List.getElem?_cons_zero, List.getElem?_cons_succ, Nat.reduceMul, Option.isSome_some, layAt, Nat.reduceLT, Option.isNone_some, Option.isNone_none, beq_self_eq_true, Nat.reduceEqDiff, setParams, Int.reduceLT, Int.reduceLE, Int.reduceGT, Int.reduceGE, Int.reduceEq, Int.reduceNe, Option.map_some, Option.map_none, Option.isSome_none]
  have kP : (k3.setB pb (.cells (cs.set off (.slice (some ⟨b, 0, some 3⟩) (l.length + 1) cpl)) z t)).get pb = some (.cells (cs.set off (.slice (some ⟨b, 0, some 3⟩) (l.length + 1) cpl)) z t) := get_setB_same hp.even (by rw [gP3]; rfl)
  have kB : (k3.setB pb (.cells (cs.set off (.slice (some ⟨b, 0, some 3⟩) (l.length + 1) cpl)) z t)).get b = some (.cells ((l ++ [x]).flatMap ic ++ rest) 3 true) := (get_setB_other hp.even bP).trans bG
  have xP : 2 * h.next ≠ pb := by have := hp.lt; omega
  have kX : (k3.setB pb (.cells (cs.set off (.slice (some ⟨b, 0, some 3⟩) (l.length + 1) cpl)) z t)).get (2 * h.next) = some (.cells (ic x) 1 false) := (get_setB_other hp.even xP).trans gX3
  have kC : Chg (pS pb sb) h (k3.setB pb (.cells (cs.set off (.slice (some ⟨b, 0, some 3⟩) (l.length + 1) cpl)) z t)) := e3.setB _ _ hp.even (fun _ => Or.inl rfl)
  have kN : b < 2 * (k3.setB pb (.cells (cs.set off (.slice (some ⟨b, 0, some 3⟩) (l.length + 1) cpl)) z t)).next := bN
  have kM : h.next < (k3.setB pb (.cells (cs.set off (.slice (some ⟨b, 0, some 3⟩) (l.length + 1) cpl)) z t)).next := by
    have := a4.next
    show h.next < k3.next
    omega
  have xB : 2 * h.next ≠ b := by
    rcases a3 with e | e
    · have := (hp.sl.lt e).1
      omega
    · cases e
      omega
  have bF' : h.floor ≤ b / 2 := by rw [← e3.floor]; exact bF
  replace bF := bF'
  clear bF'
  generalize (k3.setB pb (.cells (cs.set off (.slice (some ⟨b, 0, some 3⟩) (l.length + 1) cpl)) z t)) = k4 at kP kB kX kC kN kM ⊢
  have r4 := rd_cell kP (by rw [List.getElem?_set, if_pos rfl, if_pos hcs])
  have x1 : IntKind.i64.wrap (((l.length + 1 : Nat) : Int) - 1) = (l.length : Int) := by rw [wrap_i64 (by omega) (by omega)]; omega
  simp (disch := first | assumption | omega | (simp only [wkD, oneCell, Option.isSome_some, *]; done) | (simp only [wkE, ne_eq]; omega)) only [r4, x1, wk0, wk1, wk2, wk3, wk4, wk5, X_region, X_seq, X_block, X_loop, X_cond, Y_box, Y_un, Y_store, Y_append, Y_makeMap, Y_buildSlice, ibin_shl, ibin_shr, ibin_and, List.set_cons_zero, List.set_cons_succ, List.getD_cons_zero, List.getD_cons_succ, List.map_cons, List.map_nil, ↓reduceIte, reduceCtorEq, oneCell, List.length_cons, List.length_nil, setAt, readN, bne_iff_ne, ne_eq, Nat.reduceAdd, Nat.reduceLeDiff, List.getElem?_cons_zero, List.getElem?_cons_succ, Nat.reduceMul, Option.isSome_some, layAt, Nat.reduceLT, Option.isNone_some, Option.isNone_none, beq_self_eq_true, Nat.reduceEqDiff, setParams, Int.reduceLT, Int.reduceLE, Int.reduceGT, Int.reduceGE, Int.reduceEq, Int.reduceNe, Option.map_some, Option.map_none, Option.isSome_none]
  have u0 := Up.start hh x
  refine L_is (fun q s => ∃ (i : Nat) (a : List It), s.defers = [] ∧ s.tmps.length = 60 ∧ s.tmps.getD 0 undefV = .pointer (some ⟨pb, off, none⟩) ∧ s.tmps.getD 3 undefV = .pointer (some ⟨2 * h.next, 0, none⟩) ∧ s.tmps.getD 4 undefV = .int .i64 (i : Int) ∧ q = i ∧ Up l x a i ∧ s.h.get pb = some (.cells (cs.set off (.slice (some ⟨b, 0, some 3⟩) (l.length + 1) cpl)) z t) ∧ s.h.get b = some (.cells (a.flatMap ic ++ rest) 3 true) ∧ s.h.get (2 * h.next) = some (.cells (ic x) 1 false) ∧ Chg (pS pb sb) h s.h ∧ b < 2 * s.h.next ∧ h.next < s.h.next) l.length ?_ (by omega) ?_
  · exact ⟨l.length, l ++ [x], rfl, rfl, rfl, rfl, rfl, rfl, u0, kP, kB, kX, kC, kN, kM⟩
  clear kP kB kX kC kN kM u0 r4
  rintro q tm df h7 ⟨i, a, hd, hlen_, g0, g3, g4, hq, u, kP, kB, kX, kC, kN, kM⟩
  simp only at hd g0 g3 g4 kP kB kX kC kN kM
  subst hd
  obtain ⟨w, hg_, rfl⟩ := explode hlen_
  simp only [hg_] at g0 g3 g4
  clear hlen_ hg_
  have c0 : (0 : Int) ≤ (i : Int) := by omega
  by_cases hi : 0 < i
  · have ci0 : (0 : Int) < (i : Int) := by omega
    have y1 : IntKind.i64.wrap ((i : Int) - 1) = ((i - 1 : Nat) : Int) := by have := u.lt; have := u.len; rw [wrap_i64 (by omega) (by omega)]; omega
    have y2 : IntKind.i64.wrap (((i - 1 : Nat) : Int).tdiv 2) = (((i - 1) / 2 : Nat) : Int) := by
      have := u.lt; have := u.len
      have e : ((i - 1 : Nat) : Int).tdiv 2 = (((i - 1) / 2 : Nat) : Int) := by
        rw [Int.tdiv_eq_ediv_of_nonneg (by omega)]; omega
      rw [e, wrap_i64 (by omega) (by omega)]
    have two : ¬ ((2 : Int) = 0) := by omega
    simp (disch := first | assumption | omega | (simp only [wkD, oneCell, Option.isSome_some, *]; done) | (simp only [wkE, ne_eq]; omega)) only [g0, g3, g4, ci0, y1, y2, two, wk0, wk1, wk2, wk3, wk4, wk5, X_region, X_seq, X_block, X_loop, X_cond, Y_box, Y_un, Y_store, Y_append, Y_makeMap, Y_buildSlice, ibin_shl, ibin_shr, ibin_and, List.set_cons_zero, List.set_cons_succ, List.getD_cons_zero, List.getD_cons_succ, List.map_cons, List.map_nil, ↓reduceIte, reduceCtorEq, oneCell, List.length_cons, List.length_nil, setAt, readN, bne_iff_ne, ne_eq, Nat.reduceAdd, Nat.reduceLeDiff, List.getElem?_cons_zero, List.getElem?_cons_succ, Nat.reduceMul, Option.isSome_some, layAt, Nat.reduceLT, Option.isNone_some, Option.isNone_none, beq_self_eq_true, Nat.reduceEqDiff, setParams, Int.reduceLT, Int.reduceLE, Int.reduceGT, Int.reduceGE, Int.reduceEq, Int.reduceNe, Option.map_some, Option.map_none, Option.isSome_none]
    refine X_drawn _ fun an => ?_
    have rP := rd_cell kP (by rw [List.getElem?_set, if_pos rfl, if_pos hcs])
    have rX : readC (h7.get (2 * h.next)) 0 3 = some [.int .i64 x.c, .int .i64 x.t, .int .i64 x.i] := by rw [kX]; rfl
    have hp2 : (i - 1) / 2 < a.length := by have := u.lt; omega
    have rA := rd_all ic_len (nth_get hp2) kB
    have cp0 : (0 : Int) ≤ (((i - 1) / 2 : Nat) : Int) := by omega
    have cp1 : (((i - 1) / 2 : Nat) : Int) < ((l.length + 1 : Nat) : Int) := by have := u.len; omega
    unfold ic at rA
    simp (disch := first | assumption | omega | (simp only [wkD, oneCell, Option.isSome_some, *]; done) | (simp only [wkE, ne_eq]; omega)) only [rP, rX, rA, cp0, cp1, Int.toNat_natCast, wk0, wk1, wk2, wk3, wk4, wk5, X_region, X_seq, X_block, X_loop, X_cond, Y_box, Y_un, Y_store, Y_append, Y_makeMap, Y_buildSlice, ibin_shl, ibin_shr, ibin_and, List.set_cons_zero, List.set_cons_succ, List.getD_cons_zero, List.getD_cons_succ, List.map_cons, List.map_nil, ↓reduceIte, reduceCtorEq, oneCell, List.length_cons, List.length_nil, setAt, readN, bne_iff_ne, ne_eq, Nat.reduceAdd, Nat.reduceLeDiff, List.getElem?_cons_zero, List.getElem?_cons_succ, Nat.reduceMul, Option.isSome_some, layAt, Nat.reduceLT, Option.isNone_some, Option.isNone_none, beq_self_eq_true, Nat.reduceEqDiff, setParams, Int.reduceLT, Int.reduceLE, Int.reduceGT, Int.reduceGE, Int.reduceEq, Int.reduceNe, Option.map_some, Option.map_none, Option.isSome_none]
    refine DB_is (compare_ok (n := n) (by omega) (kC.fine hf) (nth a ((i - 1) / 2)) x) ?_
    rintro v8 h8 ⟨rfl, e8⟩
    simp only at e8
    have lb : b < 2 * h7.next := kN
    have lp : pb < 2 * h7.next := by have := kC.next; have := hp.lt; omega
    have lx : 2 * h.next < 2 * h7.next := by omega
    replace kP := (e8.old pb (Or.inr lp)).trans kP
    replace kB := (e8.old b (Or.inr lb)).trans kB
    replace kX := (e8.old _ (Or.inr lx)).trans kX
    replace kC := kC.trans (e8.chg _)
    replace kN : b < 2 * h8.next := by have := e8.next; omega
    replace kM : h.next < h8.next := by have := e8.next; omega
    by_cases hc : cmpI (nth a ((i - 1) / 2)) x ≤ 0
    · simp (disch := first | assumption | omega | (simp only [wkD, oneCell, Option.isSome_some, *]; done) | (simp only [wkE, ne_eq]; omega)) only [hc, wk0, wk1, wk2, wk3, wk4, wk5, X_region, X_seq, X_block, X_loop, X_cond, Y_box, Y_un, Y_store, Y_append, Y_makeMap, Y_buildSlice, ibin_shl, ibin_shr, ibin_and, List.set_cons_zero, List.set_cons_succ, List.getD_cons_zero, List.getD_cons_succ, List.map_cons, List.map_nil, ↓reduceIte, reduceCtorEq, oneCell, List.length_cons, List.length_nil, setAt, readN, bne_iff_ne, ne_eq, Nat.reduceAdd, Nat.reduceLeDiff, List.getElem?_cons_zero, List.getElem?_cons_succ, Nat.reduceMul, Option.isSome_some, layAt, Nat.reduceLT, Option.isNone_some, Option.isNone_none, beq_self_eq_true, Nat.reduceEqDiff, setParams, Int.reduceLT, Int.reduceLE, Int.reduceGT, Int.reduceGE, Int.reduceEq, Int.reduceNe, Option.map_some, Option.map_none, Option.isSome_none]
      refine Is_in ?_
      simp (disch := first | assumption | omega | (simp only [wkD, oneCell, Option.isSome_some, *]; done) | (simp only [wkE, ne_eq]; omega)) only [wk0, wk1, wk2, wk3, wk4, wk5, X_region, X_seq, X_block, X_loop, X_cond, Y_box, Y_un, Y_store, Y_append, Y_makeMap, Y_buildSlice, ibin_shl, ibin_shr, ibin_and, List.set_cons_zero, List.set_cons_succ, List.getD_cons_zero, List.getD_cons_succ, List.map_cons, List.map_nil, ↓reduceIte, reduceCtorEq, oneCell, List.length_cons, List.length_nil, setAt, readN, bne_iff_ne, ne_eq, Nat.reduceAdd, Nat.reduceLeDiff, List.getElem?_cons_zero, List.getElem?_cons_succ, Nat.reduceMul, Option.isSome_some, layAt, Nat.reduceLT, Option.isNone_some, Option.isNone_none, beq_self_eq_true, Nat.reduceEqDiff, setParams, Int.reduceLT, Int.reduceLE, Int.reduceGT, Int.reduceGE, Int.reduceEq, Int.reduceNe, Option.map_some, Option.map_none, Option.isSome_none]
      refine X_drawn _ fun an => ?_
      have rP := rd_cell kP (by rw [List.getElem?_set, if_pos rfl, if_pos hcs])
      have rX : readC (h8.get (2 * h.next)) 0 3 = some [.int .i64 x.c, .int .i64 x.t, .int .i64 x.i] := by rw [kX]; rfl
      have wI := wr_at (z := 3) ic_len ic_one (x := x) (i := i) u.lt kB (canPut_even bE (by rw [kC.floor]; exact bF))
      have ci : (i : Int) < (cpl : Int) := by have := u.lt; have := u.len; omega
      have ci' : (i : Int) < ((l.length + 1 : Nat) : Int) := by have := u.lt; have := u.len; omega
      unfold ic at wI
      simp (disch := first | assumption | omega | (simp only [wkD, oneCell, Option.isSome_some, *]; done) | (simp only [wkE, ne_eq]; omega)) only [rP, rX, wI, c0, ci', Int.toNat_natCast, wk0, wk1, wk2, wk3, wk4, wk5, X_region, X_seq, X_block, X_loop, X_cond, Y_box, Y_un, Y_store, Y_append, Y_makeMap, Y_buildSlice, ibin_shl, ibin_shr, ibin_and, List.set_cons_zero, List.set_cons_succ, List.getD_cons_zero, List.getD_cons_succ, List.map_cons, List.map_nil, ↓reduceIte, reduceCtorEq, oneCell, List.length_cons, List.length_nil, setAt, readN, bne_iff_ne, ne_eq, Nat.reduceAdd, Nat.reduceLeDiff, List.getElem?_cons_zero, List.getElem?_cons_succ, Nat.reduceMul, Option.isSome_some, layAt, Nat.reduceLT, Option.isNone_some, Option.isNone_none, beq_self_eq_true, Nat.reduceEqDiff, setParams, Int.reduceLT, Int.reduceLE, Int.reduceGT, Int.reduceGE, Int.reduceEq, Int.reduceNe, Option.map_some, Option.map_none, Option.isSome_none]
      obtain ⟨d1, d2, d3⟩ := u.done (fun _ => (cmpI_le _ _).1 hc)
      refine leaf0n ⟨_, _, a.set i x, ⟨(get_setB_other bE (Ne.symm bP)).trans kP, by rw [List.getElem?_set, if_pos rfl, if_pos hcs], Or.inr ⟨b, cpl, rest, by rw [d2], rfl, by rw [d2]; exact bL, bE, by show h8.floor ≤ _; rw [kC.floor]; exact bF, kN, by rw [d2]; exact bR, get_setB_same bE (by rw [kB]; rfl)⟩, hp.even, by show h8.floor ≤ _; rw [kC.floor]; exact hp.fl, by show pb < 2 * h8.next; have := kC.next; have := hp.lt; omega, by intro e; cases e; exact bP rfl⟩, bS, d1, d2, d3, kC.setB _ _ bE bW⟩

    · simp (disch := first | assumption | omega | (simp only [wkD, oneCell, Option.isSome_some, *]; done) | (simp only [wkE, ne_eq]; omega)) only [hc, wk0, wk1, wk2, wk3, wk4, wk5, X_region, X_seq, X_block, X_loop, X_cond, Y_box, Y_un, Y_store, Y_append, Y_makeMap, Y_buildSlice, ibin_shl, ibin_shr, ibin_and, List.set_cons_zero, List.set_cons_succ, List.getD_cons_zero, List.getD_cons_succ, List.map_cons, List.map_nil, ↓reduceIte, reduceCtorEq, oneCell, List.length_cons, List.length_nil, setAt, readN, bne_iff_ne, ne_eq, Nat.reduceAdd, Nat.reduceLeDiff, List.getElem?_cons_zero, List.getElem?_cons_succ, Nat.reduceMul, Option.isSome_some, layAt, Nat.reduceLT, Option.isNone_some, Option.isNone_none, beq_self_eq_true, Nat.reduceEqDiff, setParams, Int.reduceLT, Int.reduceLE, Int.reduceGT, Int.reduceGE, Int.reduceEq, Int.reduceNe, Option.map_some, Option.map_none, Option.isSome_none]
      refine X_drawn _ fun an => ?_
      have rP := rd_cell kP (by rw [List.getElem?_set, if_pos rfl, if_pos hcs])
      have rA := rd_all ic_len (nth_get hp2) kB
      have wI := wr_at (z := 3) ic_len ic_one (x := nth a ((i - 1) / 2)) (i := i) u.lt kB (canPut_even bE (by rw [kC.floor]; exact bF))
      have ci' : (i : Int) < ((l.length + 1 : Nat) : Int) := by have := u.lt; have := u.len; omega
      unfold ic at wI rA
      simp (disch := first | assumption | omega | (simp only [wkD, oneCell, Option.isSome_some, *]; done) | (simp only [wkE, ne_eq]; omega)) only [rP, rA, wI, c0, ci', cp0, cp1, Int.toNat_natCast, wk0, wk1, wk2, wk3, wk4, wk5, X_region, X_seq, X_block, X_loop, X_cond, Y_box, Y_un, Y_store, Y_append, Y_makeMap, Y_buildSlice, ibin_shl, ibin_shr, ibin_and, List.set_cons_zero, List.set_cons_succ, List.getD_cons_zero, List.getD_cons_succ, List.map_cons, List.map_nil, ↓reduceIte, reduceCtorEq, oneCell, List.length_cons, List.length_nil, setAt, readN, bne_iff_ne, ne_eq, Nat.reduceAdd, Nat.reduceLeDiff, List.getElem?_cons_zero, List.getElem?_cons_succ, Nat.reduceMul, Option.isSome_some, layAt, Nat.reduceLT, Option.isNone_some, Option.isNone_none, beq_self_eq_true, Nat.reduceEqDiff, setParams, Int.reduceLT, Int.reduceLE, Int.reduceGT, Int.reduceGE, Int.reduceEq, Int.reduceNe, Option.map_some, Option.map_none, Option.isSome_none]
      refine Is_in ⟨(i - 1) / 2, by omega, (i - 1) / 2, a.set i (nth a ((i - 1) / 2)), rfl, rfl, rfl, rfl, rfl, rfl, u.step hi (fun h => hc ((cmpI_le _ _).2 h)), (get_setB_other bE (Ne.symm bP)).trans kP, get_setB_same bE (by rw [kB]; rfl), (get_setB_other bE xB).trans kX, kC.setB _ _ bE bW, kN, kM⟩
  · have ci0 : ¬ (0 : Int) < (i : Int) := by omega
    simp (disch := first | assumption | omega | (simp only [wkD, oneCell, Option.isSome_some, *]; done) | (simp only [wkE, ne_eq]; omega)) only [g0, g3, g4, ci0, wk0, wk1, wk2, wk3, wk4, wk5, X_region, X_seq, X_block, X_loop, X_cond, Y_box, Y_un, Y_store, Y_append, Y_makeMap, Y_buildSlice, ibin_shl, ibin_shr, ibin_and, List.set_cons_zero, List.set_cons_succ, List.getD_cons_zero, List.getD_cons_succ, List.map_cons, List.map_nil, ↓reduceIte, reduceCtorEq, oneCell, List.length_cons, List.length_nil, setAt, readN, bne_iff_ne, ne_eq, Nat.reduceAdd, Nat.reduceLeDiff, List.getElem?_cons_zero, List.getElem?_cons_succ, Nat.reduceMul, Option.isSome_some, layAt, Nat.reduceLT, Option.isNone_some, Option.isNone_none, beq_self_eq_true, Nat.reduceEqDiff, setParams, Int.reduceLT, Int.reduceLE, Int.reduceGT, Int.reduceGE, Int.reduceEq, Int.reduceNe, Option.map_some, Option.map_none, Option.isSome_none]
    refine Is_in ?_
    simp (disch := first | assumption | omega | (simp only [wkD, oneCell, Option.isSome_some, *]; done) | (simp only [wkE, ne_eq]; omega)) only [wk0, wk1, wk2, wk3, wk4, wk5, X_region, X_seq, X_block, X_loop, X_cond, Y_box, Y_un, Y_store, Y_append, Y_makeMap, Y_buildSlice, ibin_shl, ibin_shr, ibin_and, List.set_cons_zero, List.set_cons_succ, List.getD_cons_zero, List.getD_cons_succ, List.map_cons, List.map_nil, ↓reduceIte, reduceCtorEq, oneCell, List.length_cons, List.length_nil, setAt, readN, bne_iff_ne, ne_eq, Nat.reduceAdd, Nat.reduceLeDiff, List.getElem?_cons_zero, List.getElem?_cons_succ, Nat.reduceMul, Option.isSome_some, layAt, Nat.reduceLT, Option.isNone_some, Option.isNone_none, beq_self_eq_true, Nat.reduceEqDiff, setParams, Int.reduceLT, Int.reduceLE, Int.reduceGT, Int.reduceGE, Int.reduceEq, Int.reduceNe, Option.map_some, Option.map_none, Option.isSome_none]
    refine X_drawn _ fun an => ?_
    have rP := rd_cell kP (by rw [List.getElem?_set, if_pos rfl, if_pos hcs])
    have rX : readC (h7.get (2 * h.next)) 0 3 = some [.int .i64 x.c, .int .i64 x.t, .int .i64 x.i] := by rw [kX]; rfl
    have wI := wr_at (z := 3) ic_len ic_one (x := x) (i := i) u.lt kB (canPut_even bE (by rw [kC.floor]; exact bF))
    have ci : (i : Int) < (cpl : Int) := by have := u.lt; have := u.len; omega
    have ci' : (i : Int) < ((l.length + 1 : Nat) : Int) := by have := u.lt; have := u.len; omega
    unfold ic at wI
    simp (disch := first | assumption | omega | (simp only [wkD, oneCell, Option.isSome_some, *]; done) | (simp only [wkE, ne_eq]; omega)) only [g0, g3, g4, rP, rX, wI, c0, ci', Int.toNat_natCast, wk0, wk1, wk2, wk3, wk4, wk5, X_region, X_seq, X_block, X_loop, X_cond, Y_box, Y_un, Y_store, Y_append, Y_makeMap, Y_buildSlice, ibin_shl, ibin_shr, ibin_and, List.set_cons_zero, List.set_cons_succ, List.getD_cons_zero, List.getD_cons_succ, List.map_cons, List.map_nil, ↓reduceIte, reduceCtorEq, oneCell, List.length_cons, List.length_nil, setAt, readN, bne_iff_ne, ne_eq, Nat.reduceAdd, Nat.reduceLeDiff, List.getElem?_cons_zero, List.getElem?_cons_succ, Nat.reduceMul, Option.isSome_some, layAt, Nat.reduceLT, Option.isNone_some, Option.isNone_none, beq_self_eq_true, Nat.reduceEqDiff, setParams, Int.reduceLT, Int.reduceLE, Int.reduceGT, Int.reduceGE, Int.reduceEq, Int.reduceNe, Option.map_some, Option.map_none, Option.isSome_none]
    obtain ⟨d1, d2, d3⟩ := u.done (fun h => absurd h hi)
    refine leaf0n ⟨_, _, a.set i x, ⟨(get_setB_other bE (Ne.symm bP)).trans kP, by rw [List.getElem?_set, if_pos rfl, if_pos hcs], Or.inr ⟨b, cpl, rest, by rw [d2], rfl, by rw [d2]; exact bL, bE, by show h7.floor ≤ _; rw [kC.floor]; exact bF, kN, by rw [d2]; exact bR, get_setB_same bE (by rw [kB]; rfl)⟩, hp.even, by show h7.floor ≤ _; rw [kC.floor]; exact hp.fl, by show pb < 2 * h7.next; have := kC.next; have := hp.lt; omega, by intro e; cases e; exact bP rfl⟩, bS, d1, d2, d3, kC.setB _ _ bE bW⟩


theorem down_ok {n pb off z m0 : Nat} {h : Heap} {cs : List Value} {t : Bool} {v : Value} {sb : Option Nat} {a0 : List It} {x : It} {m : It → Nat} (hn : a0.length + 20 < n) (hl : a0.length < 1000000) (hf : h.Fine) (hp : PileAt h pb off cs z t v sb a0) (u0 : Down m m0 x a0 0) :
    (callV env (n + 4) (.func (.func 23) #[] #[]) [.pointer (some ⟨pb, off, none⟩), iv x] h).Is fun p => ∃ l', PileAt p.2 pb off cs z t v sb l' ∧ IsHeap l' ∧ l'.length = m0 ∧ (∀ y, l'.count y = m y) ∧ Chg (fun y => some y = sb) h p.2 := by
  refine call_is env23 ?_
  unfold iv
  simp (disch := first | assumption | omega | (simp only [wkD, oneCell, Option.isSome_some, *]; done) | (simp only [wkE, ne_eq]; omega)) only [ir23, List.append_nil, List.nil_append, List.cons_append, List.length_cons, List.length_nil, Nat.reduceAdd, Nat.reduceSub, List.replicate_succ, List.replicate_zero, wk0, wk1, wk2, wk3, wk4, wk5, X_region, X_seq, X_block, X_loop, X_cond, Y_box, Y_un, Y_store, Y_append, Y_makeMap, Y_buildSlice, ibin_shl, ibin_shr, ibin_and, List.set_cons_zero, List.set_cons_succ, List.getD_cons_zero, List.getD_cons_succ, List.map_cons, List.map_nil, ↓reduceIte, reduceCtorEq, oneCell, List.length_cons, List.length_nil, setAt, readN, bne_iff_ne, ne_eq, Nat.reduceAdd, Nat.reduceLeDiff, List.getElem?_cons_zero, List.getElem?_cons_succ, Nat.reduceMul, Option.isSome_some, layAt, Nat.reduceLT, Option.isNone_some, Option.isNone_none, beq_self_eq_true, Nat.reduceEqDiff, setParams, Int.reduceLT, Int.reduceLE, Int.reduceGT, Int.reduceGE, Int.reduceEq, Int.reduceNe, Option.map_some, Option.map_none, Option.isSome_none]
  have hf1 := hf.1
  have hcs : off < cs.length := (List.getElem?_eq_some_iff.1 hp.cell).1
  obtain ⟨b, cpl, rest, rfl, rfl, bL, bE, bF, bN, bR, bG⟩ := hp.sl.block u0.lt
  have hl0 : a0.length = m0 := u0.len
  have bP : b ≠ pb := by rintro rfl; exact hp.ne rfl
  have lp0 := hp.lt
  have f1 := alloc_fine (o := .cells [.int .i64 x.c, .int .i64 x.t, .int .i64 x.i] 1 false) hf
  have kX : (h.alloc (.cells [.int .i64 x.c, .int .i64 x.t, .int .i64 x.i] 1 false)).get (2 * h.next) = some (.cells (ic x) 1 false) := get_alloc_new hf
  have kP : (h.alloc (.cells [.int .i64 x.c, .int .i64 x.t, .int .i64 x.i] 1 false)).get pb = some (.cells cs z t) := (get_alloc_old (by omega)).trans hp.at_
  have kB : (h.alloc (.cells [.int .i64 x.c, .int .i64 x.t, .int .i64 x.i] 1 false)).get b = some (.cells (a0.flatMap ic ++ rest) 3 true) := (get_alloc_old (by omega)).trans bG
  have kC : Chg (fun y => some y = some b) h (h.alloc (.cells [.int .i64 x.c, .int .i64 x.t, .int .i64 x.i] 1 false)) := (Chg.refl _ h).alloc _
  have kN : b < 2 * (h.alloc (.cells [.int .i64 x.c, .int .i64 x.t, .int .i64 x.i] 1 false)).next := by rw [alloc_next]; omega
  have kM : h.next < (h.alloc (.cells [.int .i64 x.c, .int .i64 x.t, .int .i64 x.i] 1 false)).next := by rw [alloc_next]; omega
  have xB : 2 * h.next ≠ b := by omega
  generalize h.alloc (.cells [.int .i64 x.c, .int .i64 x.t, .int .i64 x.i] 1 false) = k1 at f1 kX kP kB kC kN kM ⊢
  refine L_is (fun q s => ∃ (i : Nat) (a : List It), s.defers = [] ∧ s.tmps.length = 78 ∧ s.tmps.getD 0 undefV = .pointer (some ⟨pb, off, none⟩) ∧ s.tmps.getD 3 undefV = .pointer (some ⟨2 * h.next, 0, none⟩) ∧ s.tmps.getD 4 undefV = .int .i64 (i : Int) ∧ q = a0.length - i ∧ Down m m0 x a i ∧ s.h.get pb = some (.cells cs z t) ∧ s.h.get b = some (.cells (a.flatMap ic ++ rest) 3 true) ∧ s.h.get (2 * h.next) = some (.cells (ic x) 1 false) ∧ Chg (fun y => some y = some b) h s.h ∧ b < 2 * s.h.next ∧ h.next < s.h.next) a0.length ?_ (by omega) ?_
  · exact ⟨0, a0, rfl, rfl, rfl, rfl, rfl, rfl, u0, kP, kB, kX, kC, kN, kM⟩
  clear kP kB kX kC kN kM u0
  rintro q tm df h7 ⟨i, a, hd, hlen_, g0, g3, g4, hq, u, kP, kB, kX, kC, kN, kM⟩
  simp only at hd g0 g3 g4 kP kB kX kC kN kM
  subst hd
  obtain ⟨w, hg_, rfl⟩ := explode hlen_
  simp only [hg_] at g0 g3 g4
  clear hlen_ hg_
  have hul := u.lt
  have hue := u.len
  have c0 : (0 : Int) ≤ (i : Int) := by omega
  have ci' : (i : Int) < (a0.length : Int) := by omega
  have rP := rd_cell kP hp.cell
  have y1 : IntKind.i64.wrap (2 * (i : Int)) = ((2 * i : Nat) : Int) := by rw [wrap_i64 (by omega) (by omega)]; omega
  have y2 : IntKind.i64.wrap (((2 * i : Nat) : Int) + 1) = ((2 * i + 1 : Nat) : Int) := by rw [wrap_i64 (by omega) (by omega)]; omega
  have y3 : IntKind.i64.wrap (((2 * i + 1 : Nat) : Int) + 1) = ((2 * i + 2 : Nat) : Int) := by rw [wrap_i64 (by omega) (by omega)]; omega
  by_cases h1 : 2 * i + 1 < a0.length
  · have h1' : ((2 * i + 1 : Nat) : Int) < (a0.length : Int) := by omega
    simp (disch := first | assumption | omega | (simp only [wkD, oneCell, Option.isSome_some, *]; done) | (simp only [wkE, ne_eq]; omega)) only [g0, g3, g4, y1, y2, rP, h1', wk0, wk1, wk2, wk3, wk4, wk5, X_region, X_seq, X_block, X_loop, X_cond, Y_box, Y_un, Y_store, Y_append, Y_makeMap, Y_buildSlice, ibin_shl, ibin_shr, ibin_and, List.set_cons_zero, List.set_cons_succ, List.getD_cons_zero, List.getD_cons_succ, List.map_cons, List.map_nil, ↓reduceIte, reduceCtorEq, oneCell, List.length_cons, List.length_nil, setAt, readN, bne_iff_ne, ne_eq, Nat.reduceAdd, Nat.reduceLeDiff, List.getElem?_cons_zero, List.getElem?_cons_succ, Nat.reduceMul, Option.isSome_some, layAt, Nat.reduceLT, Option.isNone_some, Option.isNone_none, beq_self_eq_true, Nat.reduceEqDiff, setParams, Int.reduceLT, Int.reduceLE, Int.reduceGT, Int.reduceGE, Int.reduceEq, Int.reduceNe, Option.map_some, Option.map_none, Option.isSome_none]
    refine X_drawn _ fun an => ?_
    by_cases h2 : 2 * i + 2 < a0.length
    · have h2' : ((2 * i + 2 : Nat) : Int) < (a0.length : Int) := by omega
      have r1 := rd_all ic_len (nth_get (l := a) (k := 2 * i + 1) (by omega)) kB
      have r2 := rd_all ic_len (nth_get (l := a) (k := 2 * i + 2) (by omega)) kB
      have z1 : (0 : Int) ≤ ((2 * i + 1 : Nat) : Int) := by omega
      have z2 : (0 : Int) ≤ ((2 * i + 2 : Nat) : Int) := by omega
      unfold ic at r1 r2
      simp (disch := first | assumption | omega | (simp only [wkD, oneCell, Option.isSome_some, *]; done) | (simp only [wkE, ne_eq]; omega)) only [y3, h2', rP, r1, r2, z1, z2, h1', Int.toNat_natCast, wk0, wk1, wk2, wk3, wk4, wk5, X_region, X_seq, X_block, X_loop, X_cond, Y_box, Y_un, Y_store, Y_append, Y_makeMap, Y_buildSlice, ibin_shl, ibin_shr, ibin_and, List.set_cons_zero, List.set_cons_succ, List.getD_cons_zero, List.getD_cons_succ, List.map_cons, List.map_nil, ↓reduceIte, reduceCtorEq, oneCell, List.length_cons, List.length_nil, setAt, readN, bne_iff_ne, ne_eq, Nat.reduceAdd, Nat.reduceLeDiff, List.getElem?_cons_zero, List.getElem?_cons_succ, Nat.reduceMul, Option.isSome_some, layAt, Nat.reduceLT, Option.isNone_some, Option.isNone_none, beq_self_eq_true, Nat.reduceEqDiff, setParams, Int.reduceLT, Int.reduceLE, Int.reduceGT, Int.reduceGE, Int.reduceEq, Int.reduceNe, Option.map_some, Option.map_none, Option.isSome_none]
      refine DB_is (compare_ok (n := n) (by omega) (kC.fine hf) (nth a (2 * i + 2)) (nth a (2 * i + 1))) ?_
      rintro v8 h8 ⟨rfl, e8⟩
      simp only at e8
      have lp : pb < 2 * h8.next := by have := e8.next; have := kC.next; omega
      have lx : 2 * h.next < 2 * h8.next := by have := e8.next; omega
      replace kP := (e8.old pb (Or.inr (by have := kC.next; omega))).trans kP
      replace kB := (e8.old b (Or.inr kN)).trans kB
      replace kX := (e8.old _ (Or.inr (by omega))).trans kX
      replace kC := kC.trans (e8.chg _)
      replace kN : b < 2 * h8.next := by have := e8.next; omega
      by_cases hc : cmpI (nth a (2 * i + 2)) (nth a (2 * i + 1)) < 0
      · have hmin : ∀ k, 0 < k → k < a.length → (k - 1) / 2 = i → le (nth a (2 * i + 2)) (nth a k) := by
          intro k k0 k1 k2
          have : k = 2 * i + 1 ∨ k = 2 * i + 2 := by omega
          rcases this with rfl | rfl
          · exact (le_total _ _).resolve_right ((cmpI_lt _ _).1 hc)
          · exact le_refl _
        simp (disch := first | assumption | omega | (simp only [wkD, oneCell, Option.isSome_some, *]; done) | (simp only [wkE, ne_eq]; omega)) only [hc, y3, wk0, wk1, wk2, wk3, wk4, wk5, X_region, X_seq, X_block, X_loop, X_cond, Y_box, Y_un, Y_store, Y_append, Y_makeMap, Y_buildSlice, ibin_shl, ibin_shr, ibin_and, List.set_cons_zero, List.set_cons_succ, List.getD_cons_zero, List.getD_cons_succ, List.map_cons, List.map_nil, ↓reduceIte, reduceCtorEq, oneCell, List.length_cons, List.length_nil, setAt, readN, bne_iff_ne, ne_eq, Nat.reduceAdd, Nat.reduceLeDiff, List.getElem?_cons_zero, List.getElem?_cons_succ, Nat.reduceMul, Option.isSome_some, layAt, Nat.reduceLT, Option.isNone_some, Option.isNone_none, beq_self_eq_true, Nat.reduceEqDiff, setParams, Int.reduceLT, Int.reduceLE, Int.reduceGT, Int.reduceGE, Int.reduceEq, Int.reduceNe, Option.map_some, Option.map_none, Option.isSome_none]
        have rX : readC (h8.get (2 * h.next)) 0 3 = some [.int .i64 x.c, .int .i64 x.t, .int .i64 x.i] := by rw [kX]; rfl
        have rP := rd_cell kP hp.cell
        have rJ := rd_all ic_len (nth_get (l := a) (k := 2 * i + 2) (by omega)) kB
        have cj0 : (0 : Int) ≤ ((2 * i + 2 : Nat) : Int) := by omega
        have cj1 : ((2 * i + 2 : Nat) : Int) < (a0.length : Int) := by omega
        unfold ic at rJ
        refine X_drawn _ fun an => ?_
        simp (disch := first | assumption | omega | (simp only [wkD, oneCell, Option.isSome_some, *]; done) | (simp only [wkE, ne_eq]; omega)) only [rX, rP, rJ, cj0, cj1, Int.toNat_natCast, wk0, wk1, wk2, wk3, wk4, wk5, X_region, X_seq, X_block, X_loop, X_cond, Y_box, Y_un, Y_store, Y_append, Y_makeMap, Y_buildSlice, ibin_shl, ibin_shr, ibin_and, List.set_cons_zero, List.set_cons_succ, List.getD_cons_zero, List.getD_cons_succ, List.map_cons, List.map_nil, ↓reduceIte, reduceCtorEq, oneCell, List.length_cons, List.length_nil, setAt, readN, bne_iff_ne, ne_eq, Nat.reduceAdd, Nat.reduceLeDiff, List.getElem?_cons_zero, List.getElem?_cons_succ, Nat.reduceMul, Option.isSome_some, layAt, Nat.reduceLT, Option.isNone_some, Option.isNone_none, beq_self_eq_true, Nat.reduceEqDiff, setParams, Int.reduceLT, Int.reduceLE, Int.reduceGT, Int.reduceGE, Int.reduceEq, Int.reduceNe, Option.map_some, Option.map_none, Option.isSome_none]
        refine DB_is (compare_ok (n := n) (by omega) (kC.fine hf) x (nth a (2 * i + 2))) ?_
        rintro v9 h9 ⟨rfl, e9⟩
        simp only at e9
        replace kP := (e9.old pb (Or.inr lp)).trans kP
        replace kB := (e9.old b (Or.inr kN)).trans kB
        replace kX := (e9.old _ (Or.inr lx)).trans kX
        replace kC := kC.trans (e9.chg _)
        replace kN : b < 2 * h9.next := by have := e9.next; omega
        replace kM : h.next < h9.next := by have := e9.next; omega
        have rP := rd_cell kP hp.cell
        have rJ := rd_all ic_len (nth_get (l := a) (k := 2 * i + 2) (by omega)) kB
        unfold ic at rJ
        by_cases hc2 : cmpI x (nth a (2 * i + 2)) ≤ 0
        · have hle := (cmpI_le _ _).1 hc2
          simp (disch := first | assumption | omega | (simp only [wkD, oneCell, Option.isSome_some, *]; done) | (simp only [wkE, ne_eq]; omega)) only [hc2, wk0, wk1, wk2, wk3, wk4, wk5, X_region, X_seq, X_block, X_loop, X_cond, Y_box, Y_un, Y_store, Y_append, Y_makeMap, Y_buildSlice, ibin_shl, ibin_shr, ibin_and, List.set_cons_zero, List.set_cons_succ, List.getD_cons_zero, List.getD_cons_succ, List.map_cons, List.map_nil, ↓reduceIte, reduceCtorEq, oneCell, List.length_cons, List.length_nil, setAt, readN, bne_iff_ne, ne_eq, Nat.reduceAdd, Nat.reduceLeDiff, List.getElem?_cons_zero, List.getElem?_cons_succ, Nat.reduceMul, Option.isSome_some, layAt, Nat.reduceLT, Option.isNone_some, Option.isNone_none, beq_self_eq_true, Nat.reduceEqDiff, setParams, Int.reduceLT, Int.reduceLE, Int.reduceGT, Int.reduceGE, Int.reduceEq, Int.reduceNe, Option.map_some, Option.map_none, Option.isSome_none]
          refine Is_in ?_
          simp (disch := first | assumption | omega | (simp only [wkD, oneCell, Option.isSome_some, *]; done) | (simp only [wkE, ne_eq]; omega)) only [wk0, wk1, wk2, wk3, wk4, wk5, X_region, X_seq, X_block, X_loop, X_cond, Y_box, Y_un, Y_store, Y_append, Y_makeMap, Y_buildSlice, ibin_shl, ibin_shr, ibin_and, List.set_cons_zero, List.set_cons_succ, List.getD_cons_zero, List.getD_cons_succ, List.map_cons, List.map_nil, ↓reduceIte, reduceCtorEq, oneCell, List.length_cons, List.length_nil, setAt, readN, bne_iff_ne, ne_eq, Nat.reduceAdd, Nat.reduceLeDiff, List.getElem?_cons_zero, List.getElem?_cons_succ, Nat.reduceMul, Option.isSome_some, layAt, Nat.reduceLT, Option.isNone_some, Option.isNone_none, beq_self_eq_true, Nat.reduceEqDiff, setParams, Int.reduceLT, Int.reduceLE, Int.reduceGT, Int.reduceGE, Int.reduceEq, Int.reduceNe, Option.map_some, Option.map_none, Option.isSome_none]
          refine X_drawn _ fun an => ?_
          have rX : readC (h9.get (2 * h.next)) 0 3 = some [.int .i64 x.c, .int .i64 x.t, .int .i64 x.i] := by rw [kX]; rfl
          have wI := wr_at (z := 3) ic_len ic_one (x := x) (i := i) u.lt kB (canPut_even bE (by rw [kC.floor]; exact bF))
          unfold ic at wI
          simp (disch := first | assumption | omega | (simp only [wkD, oneCell, Option.isSome_some, *]; done) | (simp only [wkE, ne_eq]; omega)) only [rP, rX, wI, c0, ci', Int.toNat_natCast, wk0, wk1, wk2, wk3, wk4, wk5, X_region, X_seq, X_block, X_loop, X_cond, Y_box, Y_un, Y_store, Y_append, Y_makeMap, Y_buildSlice, ibin_shl, ibin_shr, ibin_and, List.set_cons_zero, List.set_cons_succ, List.getD_cons_zero, List.getD_cons_succ, List.map_cons, List.map_nil, ↓reduceIte, reduceCtorEq, oneCell, List.length_cons, List.length_nil, setAt, readN, bne_iff_ne, ne_eq, Nat.reduceAdd, Nat.reduceLeDiff, List.getElem?_cons_zero, List.getElem?_cons_succ, Nat.reduceMul, Option.isSome_some, layAt, Nat.reduceLT, Option.isNone_some, Option.isNone_none, beq_self_eq_true, Nat.reduceEqDiff, setParams, Int.reduceLT, Int.reduceLE, Int.reduceGT, Int.reduceGE, Int.reduceEq, Int.reduceNe, Option.map_some, Option.map_none, Option.isSome_none]
          obtain ⟨d1, d2, d3⟩ := u.done (fun k k0 k1 k2 => le_trans hle (hmin k k0 k1 k2))
          exact leaf0n ⟨a.set i x, ⟨(get_setB_other bE (Ne.symm bP)).trans kP, hp.cell, Or.inr ⟨b, cpl, rest, by rw [d2, hl0], rfl, by rw [d2, ← hl0]; exact bL, bE, by show h9.floor ≤ _; rw [kC.floor]; exact bF, kN, by rw [d2, ← hl0]; exact bR, get_setB_same bE (by rw [kB]; rfl)⟩, hp.even, by show h9.floor ≤ _; rw [kC.floor]; exact hp.fl, by show pb < 2 * h9.next; have := e9.next; omega, hp.ne⟩, d1, d2, d3, kC.setB _ _ bE (fun _ => rfl)⟩
        · have hnle : ¬ le x (nth a (2 * i + 2)) := fun e => hc2 ((cmpI_le _ _).2 e)
          simp (disch := first | assumption | omega | (simp only [wkD, oneCell, Option.isSome_some, *]; done) | (simp only [wkE, ne_eq]; omega)) only [hc2, wk0, wk1, wk2, wk3, wk4, wk5, X_region, X_seq, X_block, X_loop, X_cond, Y_box, Y_un, Y_store, Y_append, Y_makeMap, Y_buildSlice, ibin_shl, ibin_shr, ibin_and, List.set_cons_zero, List.set_cons_succ, List.getD_cons_zero, List.getD_cons_succ, List.map_cons, List.map_nil, ↓reduceIte, reduceCtorEq, oneCell, List.length_cons, List.length_nil, setAt, readN, bne_iff_ne, ne_eq, Nat.reduceAdd, Nat.reduceLeDiff, List.getElem?_cons_zero, List.getElem?_cons_succ, Nat.reduceMul, Option.isSome_some, layAt, Nat.reduceLT, Option.isNone_some, Option.isNone_none, beq_self_eq_true, Nat.reduceEqDiff, setParams, Int.reduceLT, Int.reduceLE, Int.reduceGT, Int.reduceGE, Int.reduceEq, Int.reduceNe, Option.map_some, Option.map_none, Option.isSome_none]
          refine X_drawn _ fun an => ?_
          have wI := wr_at (z := 3) ic_len ic_one (x := nth a (2 * i + 2)) (i := i) u.lt kB (canPut_even bE (by rw [kC.floor]; exact bF))
          unfold ic at wI
          simp (disch := first | assumption | omega | (simp only [wkD, oneCell, Option.isSome_some, *]; done) | (simp only [wkE, ne_eq]; omega)) only [rP, rJ, wI, c0, ci', cj0, cj1, Int.toNat_natCast, wk0, wk1, wk2, wk3, wk4, wk5, X_region, X_seq, X_block, X_loop, X_cond, Y_box, Y_un, Y_store, Y_append, Y_makeMap, Y_buildSlice, ibin_shl, ibin_shr, ibin_and, List.set_cons_zero, List.set_cons_succ, List.getD_cons_zero, List.getD_cons_succ, List.map_cons, List.map_nil, ↓reduceIte, reduceCtorEq, oneCell, List.length_cons, List.length_nil, setAt, readN, bne_iff_ne, ne_eq, Nat.reduceAdd, Nat.reduceLeDiff, List.getElem?_cons_zero, List.getElem?_cons_succ, Nat.reduceMul, Option.isSome_some, layAt, Nat.reduceLT, Option.isNone_some, Option.isNone_none, beq_self_eq_true, Nat.reduceEqDiff, setParams, Int.reduceLT, Int.reduceLE, Int.reduceGT, Int.reduceGE, Int.reduceEq, Int.reduceNe, Option.map_some, Option.map_none, Option.isSome_none]
          exact Is_in ⟨a0.length - (2 * i + 2), by omega, 2 * i + 2, a.set i (nth a (2 * i + 2)), rfl, rfl, rfl, rfl, rfl, rfl, u.step (j := 2 * i + 2) (by omega) (by omega) (by omega) hmin hnle, (get_setB_other bE (Ne.symm bP)).trans kP, get_setB_same bE (by rw [kB]; rfl), (get_setB_other bE xB).trans kX, kC.setB _ _ bE (fun _ => rfl), kN, kM⟩
      · have hmin : ∀ k, 0 < k → k < a.length → (k - 1) / 2 = i → le (nth a (2 * i + 1)) (nth a k) := by
          intro k k0 k1 k2
          have : k = 2 * i + 1 ∨ k = 2 * i + 2 := by omega
          rcases this with rfl | rfl
          · exact le_refl _
          · exact Decidable.byContradiction fun e => hc ((cmpI_lt _ _).2 e)
        simp (disch := first | assumption | omega | (simp only [wkD, oneCell, Option.isSome_some, *]; done) | (simp only [wkE, ne_eq]; omega)) only [hc, wk0, wk1, wk2, wk3, wk4, wk5, X_region, X_seq, X_block, X_loop, X_cond, Y_box, Y_un, Y_store, Y_append, Y_makeMap, Y_buildSlice, ibin_shl, ibin_shr, ibin_and, List.set_cons_zero, List.set_cons_succ, List.getD_cons_zero, List.getD_cons_succ, List.map_cons, List.map_nil, ↓reduceIte, reduceCtorEq, oneCell, List.length_cons, List.length_nil, setAt, readN, bne_iff_ne, ne_eq, Nat.reduceAdd, Nat.reduceLeDiff, List.getElem?_cons_zero, List.getElem?_cons_succ, Nat.reduceMul, Option.isSome_some, layAt, Nat.reduceLT, Option.isNone_some, Option.isNone_none, beq_self_eq_true, Nat.reduceEqDiff, setParams, Int.reduceLT, Int.reduceLE, Int.reduceGT, Int.reduceGE, Int.reduceEq, Int.reduceNe, Option.map_some, Option.map_none, Option.isSome_none]
        have rX : readC (h8.get (2 * h.next)) 0 3 = some [.int .i64 x.c, .int .i64 x.t, .int .i64 x.i] := by rw [kX]; rfl
        have rP := rd_cell kP hp.cell
        have rJ := rd_all ic_len (nth_get (l := a) (k := 2 * i + 1) (by omega)) kB
        have cj0 : (0 : Int) ≤ ((2 * i + 1 : Nat) : Int) := by omega
        have cj1 : ((2 * i + 1 : Nat) : Int) < (a0.length : Int) := by omega
        unfold ic at rJ
        refine X_drawn _ fun an => ?_
        simp (disch := first | assumption | omega | (simp only [wkD, oneCell, Option.isSome_some, *]; done) | (simp only [wkE, ne_eq]; omega)) only [rX, rP, rJ, cj0, cj1, Int.toNat_natCast, wk0, wk1, wk2, wk3, wk4, wk5, X_region, X_seq, X_block, X_loop, X_cond, Y_box, Y_un, Y_store, Y_append, Y_makeMap, Y_buildSlice, ibin_shl, ibin_shr, ibin_and, List.set_cons_zero, List.set_cons_succ, List.getD_cons_zero, List.getD_cons_succ, List.map_cons, List.map_nil, ↓reduceIte, reduceCtorEq, oneCell, List.length_cons, List.length_nil, setAt, readN, bne_iff_ne, ne_eq, Nat.reduceAdd, Nat.reduceLeDiff, List.getElem?_cons_zero, List.getElem?_cons_succ, Nat.reduceMul, Option.isSome_some, layAt, Nat.reduceLT, Option.isNone_some, Option.isNone_none, beq_self_eq_true, Nat.reduceEqDiff, setParams, Int.reduceLT, Int.reduceLE, Int.reduceGT, Int.reduceGE, Int.reduceEq, Int.reduceNe, Option.map_some, Option.map_none, Option.isSome_none]
        refine DB_is (compare_ok (n := n) (by omega) (kC.fine hf) x (nth a (2 * i + 1))) ?_
        rintro v9 h9 ⟨rfl, e9⟩
        simp only at e9
        replace kP := (e9.old pb (Or.inr lp)).trans kP
        replace kB := (e9.old b (Or.inr kN)).trans kB
        replace kX := (e9.old _ (Or.inr lx)).trans kX
        replace kC := kC.trans (e9.chg _)
        replace kN : b < 2 * h9.next := by have := e9.next; omega
        replace kM : h.next < h9.next := by have := e9.next; omega
        have rP := rd_cell kP hp.cell
        have rJ := rd_all ic_len (nth_get (l := a) (k := 2 * i + 1) (by omega)) kB
        unfold ic at rJ
        by_cases hc2 : cmpI x (nth a (2 * i + 1)) ≤ 0
        · have hle := (cmpI_le _ _).1 hc2
          simp (disch := first | assumption | omega | (simp only [wkD, oneCell, Option.isSome_some, *]; done) | (simp only [wkE, ne_eq]; omega)) only [hc2, wk0, wk1, wk2, wk3, wk4, wk5, X_region, X_seq, X_block, X_loop, X_cond, Y_box, Y_un, Y_store, Y_append, Y_makeMap, Y_buildSlice, ibin_shl, ibin_shr, ibin_and, List.set_cons_zero, List.set_cons_succ, List.getD_cons_zero, List.getD_cons_succ, List.map_cons, List.map_nil, ↓reduceIte, reduceCtorEq, oneCell, List.length_cons, List.length_nil, setAt, readN, bne_iff_ne, ne_eq, Nat.reduceAdd, Nat.reduceLeDiff, List.getElem?_cons_zero, List.getElem?_cons_succ, Nat.reduceMul, Option.isSome_some, layAt, Nat.reduceLT, Option.isNone_some, Option.isNone_none, beq_self_eq_true, Nat.reduceEqDiff, setParams, Int.reduceLT, Int.reduceLE, Int.reduceGT, Int.reduceGE, Int.reduceEq, Int.reduceNe, Option.map_some, Option.map_none, Option.isSome_none]
          refine Is_in ?_
          simp (disch := first | assumption | omega | (simp only [wkD, oneCell, Option.isSome_some, *]; done) | (simp only [wkE, ne_eq]; omega)) only [wk0, wk1, wk2, wk3, wk4, wk5, X_region, X_seq, X_block, X_loop, X_cond, Y_box, Y_un, Y_store, Y_append, Y_makeMap, Y_buildSlice, ibin_shl, ibin_shr, ibin_and, List.set_cons_zero, List.set_cons_succ, List.getD_cons_zero, List.getD_cons_succ, List.map_cons, List.map_nil, ↓reduceIte, reduceCtorEq, oneCell, List.length_cons, List.length_nil, setAt, readN, bne_iff_ne, ne_eq, Nat.reduceAdd, Nat.reduceLeDiff, List.getElem?_cons_zero, List.getElem?_cons_succ, Nat.reduceMul, Option.isSome_some, layAt, Nat.reduceLT, Option.isNone_some, Option.isNone_none, beq_self_eq_true, Nat.reduceEqDiff, setParams, Int.reduceLT, Int.reduceLE, Int.reduceGT, Int.reduceGE, Int.reduceEq, Int.reduceNe, Option.map_some, Option.map_none, Option.isSome_none]
          refine X_drawn _ fun an => ?_
          have rX : readC (h9.get (2 * h.next)) 0 3 = some [.int .i64 x.c, .int .i64 x.t, .int .i64 x.i] := by rw [kX]; rfl
          have wI := wr_at (z := 3) ic_len ic_one (x := x) (i := i) u.lt kB (canPut_even bE (by rw [kC.floor]; exact bF))
          unfold ic at wI
          simp (disch := first | assumption | omega | (simp only [wkD, oneCell, Option.isSome_some, *]; done) | (simp only [wkE, ne_eq]; omega)) only [rP, rX, wI, c0, ci', Int.toNat_natCast, wk0, wk1, wk2, wk3, wk4, wk5, X_region, X_seq, X_block, X_loop, X_cond, Y_box, Y_un, Y_store, Y_append, Y_makeMap, Y_buildSlice, ibin_shl, ibin_shr, ibin_and, List.set_cons_zero, List.set_cons_succ, List.getD_cons_zero, List.getD_cons_succ, List.map_cons, List.map_nil, ↓reduceIte, reduceCtorEq, oneCell, List.length_cons, List.length_nil, setAt, readN, bne_iff_ne, ne_eq, Nat.reduceAdd, Nat.reduceLeDiff, List.getElem?_cons_zero, List.getElem?_cons_succ, Nat.reduceMul, Option.isSome_some, layAt, Nat.reduceLT, Option.isNone_some, Option.isNone_none, beq_self_eq_true, Nat.reduceEqDiff, setParams, Int.reduceLT, Int.reduceLE, Int.reduceGT, Int.reduceGE, Int.reduceEq, Int.reduceNe, Option.map_some, Option.map_none, Option.isSome_none]
          obtain ⟨d1, d2, d3⟩ := u.done (fun k k0 k1 k2 => le_trans hle (hmin k k0 k1 k2))
          exact leaf0n ⟨a.set i x, ⟨(get_setB_other bE (Ne.symm bP)).trans kP, hp.cell, Or.inr ⟨b, cpl, rest, by rw [d2, hl0], rfl, by rw [d2, ← hl0]; exact bL, bE, by show h9.floor ≤ _; rw [kC.floor]; exact bF, kN, by rw [d2, ← hl0]; exact bR, get_setB_same bE (by rw [kB]; rfl)⟩, hp.even, by show h9.floor ≤ _; rw [kC.floor]; exact hp.fl, by show pb < 2 * h9.next; have := e9.next; omega, hp.ne⟩, d1, d2, d3, kC.setB _ _ bE (fun _ => rfl)⟩
        · have hnle : ¬ le x (nth a (2 * i + 1)) := fun e => hc2 ((cmpI_le _ _).2 e)
          simp (disch := first | assumption | omega | (simp only [wkD, oneCell, Option.isSome_some, *]; done) | (simp only [wkE, ne_eq]; omega)) only [hc2, wk0, wk1, wk2, wk3, wk4, wk5, X_region, X_seq, X_block, X_loop, X_cond, Y_box, Y_un, Y_store, Y_append, Y_makeMap, Y_buildSlice, ibin_shl, ibin_shr, ibin_and, List.set_cons_zero, List.set_cons_succ, List.getD_cons_zero, List.getD_cons_succ, List.map_cons, List.map_nil, ↓reduceIte, reduceCtorEq, oneCell, List.length_cons, List.length_nil, setAt, readN, bne_iff_ne, ne_eq, Nat.reduceAdd, Nat.reduceLeDiff, List.getElem?_cons_zero, List.getElem?_cons_succ, Nat.reduceMul, Option.isSome_some, layAt, Nat.reduceLT, Option.isNone_some, Option.isNone_none, beq_self_eq_true, Nat.reduceEqDiff, setParams, Int.reduceLT, Int.reduceLE, Int.reduceGT, Int.reduceGE, Int.reduceEq, Int.reduceNe, Option.map_some, Option.map_none, Option.isSome_none]
          refine X_drawn _ fun an => ?_
          have wI := wr_at (z := 3) ic_len ic_one (x := nth a (2 * i + 1)) (i := i) u.lt kB (canPut_even bE (by rw [kC.floor]; exact bF))
          unfold ic at wI
          simp (disch := first | assumption | omega | (simp only [wkD, oneCell, Option.isSome_some, *]; done) | (simp only [wkE, ne_eq]; omega)) only [rP, rJ, wI, c0, ci', cj0, cj1, Int.toNat_natCast, wk0, wk1, wk2, wk3, wk4, wk5, X_region, X_seq, X_block, X_loop, X_cond, Y_box, Y_un, Y_store, Y_append, Y_makeMap, Y_buildSlice, ibin_shl, ibin_shr, ibin_and, List.set_cons_zero, List.set_cons_succ, List.getD_cons_zero, List.getD_cons_succ, List.map_cons, List.map_nil, ↓reduceIte, reduceCtorEq, oneCell, List.length_cons, List.length_nil, setAt, readN, bne_iff_ne, ne_eq, Nat.reduceAdd, Nat.reduceLeDiff, List.getElem?_cons_zero, List.getElem?_cons_succ, Nat.reduceMul, Option.isSome_some, layAt, Nat.reduceLT, Option.isNone_some, Option.isNone_none, beq_self_eq_true, Nat.reduceEqDiff, setParams, Int.reduceLT, Int.reduceLE, Int.reduceGT, Int.reduceGE, Int.reduceEq, Int.reduceNe, Option.map_some, Option.map_none, Option.isSome_none]
          exact Is_in ⟨a0.length - (2 * i + 1), by omega, 2 * i + 1, a.set i (nth a (2 * i + 1)), rfl, rfl, rfl, rfl, rfl, rfl, u.step (j := 2 * i + 1) (by omega) (by omega) (by omega) hmin hnle, (get_setB_other bE (Ne.symm bP)).trans kP, get_setB_same bE (by rw [kB]; rfl), (get_setB_other bE xB).trans kX, kC.setB _ _ bE (fun _ => rfl), kN, kM⟩
    · have h2' : ¬ ((2 * i + 2 : Nat) : Int) < (a0.length : Int) := by omega
      have lp : pb < 2 * h7.next := by have := kC.next; omega
      have lx : 2 * h.next < 2 * h7.next := by omega
      have hmin : ∀ k, 0 < k → k < a.length → (k - 1) / 2 = i → le (nth a (2 * i + 1)) (nth a k) := by
        intro k k0 k1 k2
        have : k = 2 * i + 1 := by omega
        subst this
        exact le_refl _
      simp (disch := first | assumption | omega | (simp only [wkD, oneCell, Option.isSome_some, *]; done) | (simp only [wkE, ne_eq]; omega)) only [y3, h2', rP, wk0, wk1, wk2, wk3, wk4, wk5, X_region, X_seq, X_block, X_loop, X_cond, Y_box, Y_un, Y_store, Y_append, Y_makeMap, Y_buildSlice, ibin_shl, ibin_shr, ibin_and, List.set_cons_zero, List.set_cons_succ, List.getD_cons_zero, List.getD_cons_succ, List.map_cons, List.map_nil, ↓reduceIte, reduceCtorEq, oneCell, List.length_cons, List.length_nil, setAt, readN, bne_iff_ne, ne_eq, Nat.reduceAdd, Nat.reduceLeDiff, List.getElem?_cons_zero, List.getElem?_cons_succ, Nat.reduceMul, Option.isSome_some, layAt, Nat.reduceLT, Option.isNone_some, Option.isNone_none, beq_self_eq_true, Nat.reduceEqDiff, setParams, Int.reduceLT, Int.reduceLE, Int.reduceGT, Int.reduceGE, Int.reduceEq, Int.reduceNe, Option.map_some, Option.map_none, Option.isSome_none]
      have rX : readC (h7.get (2 * h.next)) 0 3 = some [.int .i64 x.c, .int .i64 x.t, .int .i64 x.i] := by rw [kX]; rfl
      have rP := rd_cell kP hp.cell
      have rJ := rd_all ic_len (nth_get (l := a) (k := 2 * i + 1) (by omega)) kB
      have cj0 : (0 : Int) ≤ ((2 * i + 1 : Nat) : Int) := by omega
      have cj1 : ((2 * i + 1 : Nat) : Int) < (a0.length : Int) := by omega
      unfold ic at rJ
      refine X_drawn _ fun an => ?_
      simp (disch := first | assumption | omega | (simp only [wkD, oneCell, Option.isSome_some, *]; done) | (simp only [wkE, ne_eq]; omega)) only [rX, rP, rJ, cj0, cj1, Int.toNat_natCast, wk0, wk1, wk2, wk3, wk4, wk5, X_region, X_seq, X_block, X_loop, X_cond, Y_box, Y_un, Y_store, Y_append, Y_makeMap, Y_buildSlice, ibin_shl, ibin_shr, ibin_and, List.set_cons_zero, List.set_cons_succ, List.getD_cons_zero, List.getD_cons_succ, List.map_cons, List.map_nil, ↓reduceIte, reduceCtorEq, oneCell, List.length_cons, List.length_nil, setAt, readN, bne_iff_ne, ne_eq, Nat.reduceAdd, Nat.reduceLeDiff, List.getElem?_cons_zero, List.getElem?_cons_succ, Nat.reduceMul, Option.isSome_some, layAt, Nat.reduceLT, Option.isNone_some, Option.isNone_none, beq_self_eq_true, Nat.reduceEqDiff, setParams, Int.reduceLT, Int.reduceLE, Int.reduceGT, Int.reduceGE, Int.reduceEq, Int.reduceNe, Option.map_some, Option.map_none, Option.isSome_none]
      refine DB_is (compare_ok (n := n) (by omega) (kC.fine hf) x (nth a (2 * i + 1))) ?_
      rintro v9 h9 ⟨rfl, e9⟩
      simp only at e9
      replace kP := (e9.old pb (Or.inr lp)).trans kP
      replace kB := (e9.old b (Or.inr kN)).trans kB
      replace kX := (e9.old _ (Or.inr lx)).trans kX
      replace kC := kC.trans (e9.chg _)
      replace kN : b < 2 * h9.next := by have := e9.next; omega
      replace kM : h.next < h9.next := by have := e9.next; omega
      have rP := rd_cell kP hp.cell
      have rJ := rd_all ic_len (nth_get (l := a) (k := 2 * i + 1) (by omega)) kB
      unfold ic at rJ
      by_cases hc2 : cmpI x (nth a (2 * i + 1)) ≤ 0
      · have hle := (cmpI_le _ _).1 hc2
        simp (disch := first | assumption | omega | (simp only [wkD, oneCell, Option.isSome_some, *]; done) | (simp only [wkE, ne_eq]; omega)) only [hc2, wk0, wk1, wk2, wk3, wk4, wk5, X_region, X_seq, X_block, X_loop, X_cond, Y_box, Y_un, Y_store, Y_append, Y_makeMap, Y_buildSlice, ibin_shl, ibin_shr, ibin_and, List.set_cons_zero, List.set_cons_succ, List.getD_cons_zero, List.getD_cons_succ, List.map_cons, List.map_nil, ↓reduceIte, reduceCtorEq, oneCell, List.length_cons, List.length_nil, setAt, readN, bne_iff_ne, ne_eq, Nat.reduceAdd, Nat.reduceLeDiff, List.getElem?_cons_zero, List.getElem?_cons_succ, Nat.reduceMul, Option.isSome_some, layAt, Nat.reduceLT, Option.isNone_some, Option.isNone_none, beq_self_eq_true, Nat.reduceEqDiff, setParams, Int.reduceLT, Int.reduceLE, Int.reduceGT, Int.reduceGE, Int.reduceEq, Int.reduceNe, Option.map_some, Option.map_none, Option.isSome_none]
        refine Is_in ?_
        simp (disch := first | assumption | omega | (simp only [wkD, oneCell, Option.isSome_some, *]; done) | (simp only [wkE, ne_eq]; omega)) only [wk0, wk1, wk2, wk3, wk4, wk5, X_region, X_seq, X_block, X_loop, X_cond, Y_box, Y_un, Y_store, Y_append, Y_makeMap, Y_buildSlice, ibin_shl, ibin_shr, ibin_and, List.set_cons_zero, List.set_cons_succ, List.getD_cons_zero, List.getD_cons_succ, List.map_cons, List.map_nil, ↓reduceIte, reduceCtorEq, oneCell, List.length_cons, List.length_nil, setAt, readN, bne_iff_ne, ne_eq, Nat.reduceAdd, Nat.reduceLeDiff, List.getElem?_cons_zero, List.getElem?_cons_succ, Nat.reduceMul, Option.isSome_some, layAt, Nat.reduceLT, Option.isNone_some, Option.isNone_none, beq_self_eq_true, Nat.reduceEqDiff, setParams, Int.reduceLT, Int.reduceLE, Int.reduceGT, Int.reduceGE, Int.reduceEq, Int.reduceNe, Option.map_some, Option.map_none, Option.isSome_none]
        refine X_drawn _ fun an => ?_
        have rX : readC (h9.get (2 * h.next)) 0 3 = some [.int .i64 x.c, .int .i64 x.t, .int .i64 x.i] := by rw [kX]; rfl
        have wI := wr_at (z := 3) ic_len ic_one (x := x) (i := i) u.lt kB (canPut_even bE (by rw [kC.floor]; exact bF))
        unfold ic at wI
        simp (disch := first | assumption | omega | (simp only [wkD, oneCell, Option.isSome_some, *]; done) | (simp only [wkE, ne_eq]; omega)) only [rP, rX, wI, c0, ci', Int.toNat_natCast, wk0, wk1, wk2, wk3, wk4, wk5, X_region, X_seq, X_block, X_loop, X_cond, Y_box, Y_un, Y_store, Y_append, Y_makeMap, Y_buildSlice, ibin_shl, ibin_shr, ibin_and, List.set_cons_zero, List.set_cons_succ, List.getD_cons_zero, List.getD_cons_succ, List.map_cons, List.map_nil, ↓reduceIte, reduceCtorEq, oneCell, List.length_cons, List.length_nil, setAt, readN, bne_iff_ne, ne_eq, Nat.reduceAdd, Nat.reduceLeDiff, List.getElem?_cons_zero, List.getElem?_cons_succ, Nat.reduceMul, Option.isSome_some, layAt, Nat.reduceLT, Option.isNone_some, Option.isNone_none, beq_self_eq_true, Nat.reduceEqDiff, setParams, Int.reduceLT, Int.reduceLE, Int.reduceGT, Int.reduceGE, Int.reduceEq, Int.reduceNe, Option.map_some, Option.map_none, Option.isSome_none]
        obtain ⟨d1, d2, d3⟩ := u.done (fun k k0 k1 k2 => le_trans hle (hmin k k0 k1 k2))
        exact leaf0n ⟨a.set i x, ⟨(get_setB_other bE (Ne.symm bP)).trans kP, hp.cell, Or.inr ⟨b, cpl, rest, by rw [d2, hl0], rfl, by rw [d2, ← hl0]; exact bL, bE, by show h9.floor ≤ _; rw [kC.floor]; exact bF, kN, by rw [d2, ← hl0]; exact bR, get_setB_same bE (by rw [kB]; rfl)⟩, hp.even, by show h9.floor ≤ _; rw [kC.floor]; exact hp.fl, by show pb < 2 * h9.next; have := e9.next; omega, hp.ne⟩, d1, d2, d3, kC.setB _ _ bE (fun _ => rfl)⟩
      · have hnle : ¬ le x (nth a (2 * i + 1)) := fun e => hc2 ((cmpI_le _ _).2 e)
        simp (disch := first | assumption | omega | (simp only [wkD, oneCell, Option.isSome_some, *]; done) | (simp only [wkE, ne_eq]; omega)) only [hc2, wk0, wk1, wk2, wk3, wk4, wk5, X_region, X_seq, X_block, X_loop, X_cond, Y_box, Y_un, Y_store, Y_append, Y_makeMap, Y_buildSlice, ibin_shl, ibin_shr, ibin_and, List.set_cons_zero, List.set_cons_succ, List.getD_cons_zero, List.getD_cons_succ, List.map_cons, List.map_nil, ↓reduceIte, reduceCtorEq, oneCell, List.length_cons, List.length_nil, setAt, readN, bne_iff_ne, ne_eq, Nat.reduceAdd, Nat.reduceLeDiff, List.getElem?_cons_zero, List.getElem?_cons_succ, Nat.reduceMul, Option.isSome_some, layAt, Nat.reduceLT, Option.isNone_some, Option.isNone_none, beq_self_eq_true, Nat.reduceEqDiff, setParams, Int.reduceLT, Int.reduceLE, Int.reduceGT, Int.reduceGE, Int.reduceEq, Int.reduceNe, Option.map_some, Option.map_none, Option.isSome_none]
        refine X_drawn _ fun an => ?_
        have wI := wr_at (z := 3) ic_len ic_one (x := nth a (2 * i + 1)) (i := i) u.lt kB (canPut_even bE (by rw [kC.floor]; exact bF))
        unfold ic at wI
        simp (disch := first | assumption | omega | (simp only [wkD, oneCell, Option.isSome_some, *]; done) | (simp only [wkE, ne_eq]; omega)) only [rP, rJ, wI, c0, ci', cj0, cj1, Int.toNat_natCast, wk0, wk1, wk2, wk3, wk4, wk5, X_region, X_seq, X_block, X_loop, X_cond, Y_box, Y_un, Y_store, Y_append, Y_makeMap, Y_buildSlice, ibin_shl, ibin_shr, ibin_and, List.set_cons_zero, List.set_cons_succ, List.getD_cons_zero, List.getD_cons_succ, List.map_cons, List.map_nil, ↓reduceIte, reduceCtorEq, oneCell, List.length_cons, List.length_nil, setAt, readN, bne_iff_ne, ne_eq, Nat.reduceAdd, Nat.reduceLeDiff, List.getElem?_cons_zero, List.getElem?_cons_succ, Nat.reduceMul, Option.isSome_some, layAt, Nat.reduceLT, Option.isNone_some, Option.isNone_none, beq_self_eq_true, Nat.reduceEqDiff, setParams, Int.reduceLT, Int.reduceLE, Int.reduceGT, Int.reduceGE, Int.reduceEq, Int.reduceNe, Option.map_some, Option.map_none, Option.isSome_none]
        exact Is_in ⟨a0.length - (2 * i + 1), by omega, 2 * i + 1, a.set i (nth a (2 * i + 1)), rfl, rfl, rfl, rfl, rfl, rfl, u.step (j := 2 * i + 1) (by omega) (by omega) (by omega) hmin hnle, (get_setB_other bE (Ne.symm bP)).trans kP, get_setB_same bE (by rw [kB]; rfl), (get_setB_other bE xB).trans kX, kC.setB _ _ bE (fun _ => rfl), kN, kM⟩
  · have h1' : ¬ ((2 * i + 1 : Nat) : Int) < (a0.length : Int) := by omega
    simp (disch := first | assumption | omega | (simp only [wkD, oneCell, Option.isSome_some, *]; done) | (simp only [wkE, ne_eq]; omega)) only [g0, g3, g4, y1, y2, rP, h1', wk0, wk1, wk2, wk3, wk4, wk5, X_region, X_seq, X_block, X_loop, X_cond, Y_box, Y_un, Y_store, Y_append, Y_makeMap, Y_buildSlice, ibin_shl, ibin_shr, ibin_and, List.set_cons_zero, List.set_cons_succ, List.getD_cons_zero, List.getD_cons_succ, List.map_cons, List.map_nil, ↓reduceIte, reduceCtorEq, oneCell, List.length_cons, List.length_nil, setAt, readN, bne_iff_ne, ne_eq, Nat.reduceAdd, Nat.reduceLeDiff, List.getElem?_cons_zero, List.getElem?_cons_succ, Nat.reduceMul, Option.isSome_some, layAt, Nat.reduceLT, Option.isNone_some, Option.isNone_none, beq_self_eq_true, Nat.reduceEqDiff, setParams, Int.reduceLT, Int.reduceLE, Int.reduceGT, Int.reduceGE, Int.reduceEq, Int.reduceNe, Option.map_some, Option.map_none, Option.isSome_none]
    refine Is_in ?_
    simp (disch := first | assumption | omega | (simp only [wkD, oneCell, Option.isSome_some, *]; done) | (simp only [wkE, ne_eq]; omega)) only [wk0, wk1, wk2, wk3, wk4, wk5, X_region, X_seq, X_block, X_loop, X_cond, Y_box, Y_un, Y_store, Y_append, Y_makeMap, Y_buildSlice, ibin_shl, ibin_shr, ibin_and, List.set_cons_zero, List.set_cons_succ, List.getD_cons_zero, List.getD_cons_succ, List.map_cons, List.map_nil, ↓reduceIte, reduceCtorEq, oneCell, List.length_cons, List.length_nil, setAt, readN, bne_iff_ne, ne_eq, Nat.reduceAdd, Nat.reduceLeDiff, List.getElem?_cons_zero, List.getElem?_cons_succ, Nat.reduceMul, Option.isSome_some, layAt, Nat.reduceLT, Option.isNone_some, Option.isNone_none, beq_self_eq_true, Nat.reduceEqDiff, setParams, Int.reduceLT, Int.reduceLE, Int.reduceGT, Int.reduceGE, Int.reduceEq, Int.reduceNe, Option.map_some, Option.map_none, Option.isSome_none]
    refine X_drawn _ fun an => ?_
    have rX : readC (h7.get (2 * h.next)) 0 3 = some [.int .i64 x.c, .int .i64 x.t, .int .i64 x.i] := by rw [kX]; rfl
    have wI := wr_at (z := 3) ic_len ic_one (x := x) (i := i) u.lt kB (canPut_even bE (by rw [kC.floor]; exact bF))
    unfold ic at wI
    simp (disch := first | assumption | omega | (simp only [wkD, oneCell, Option.isSome_some, *]; done) | (simp only [wkE, ne_eq]; omega)) only [g0, g3, g4, rP, rX, wI, c0, ci', Int.toNat_natCast, wk0, wk1, wk2, wk3, wk4, wk5, X_region, X_seq, X_block, X_loop, X_cond, Y_box, Y_un, Y_store, Y_append, Y_makeMap, Y_buildSlice, ibin_shl, ibin_shr, ibin_and, List.set_cons_zero, List.set_cons_succ, List.getD_cons_zero, List.getD_cons_succ, List.map_cons, List.map_nil, ↓reduceIte, reduceCtorEq, oneCell, List.length_cons, List.length_nil, setAt, readN, bne_iff_ne, ne_eq, Nat.reduceAdd, Nat.reduceLeDiff, List.getElem?_cons_zero, List.getElem?_cons_succ, Nat.reduceMul, Option.isSome_some, layAt, Nat.reduceLT, Option.isNone_some, Option.isNone_none, beq_self_eq_true, Nat.reduceEqDiff, setParams, Int.reduceLT, Int.reduceLE, Int.reduceGT, Int.reduceGE, Int.reduceEq, Int.reduceNe, Option.map_some, Option.map_none, Option.isSome_none]
    obtain ⟨d1, d2, d3⟩ := u.done (fun k k0 k1 k2 => by omega)
    exact leaf0n ⟨a.set i x, ⟨(get_setB_other bE (Ne.symm bP)).trans kP, hp.cell, Or.inr ⟨b, cpl, rest, by rw [d2, hl0], rfl, by rw [d2, ← hl0]; exact bL, bE, by show h7.floor ≤ _; rw [kC.floor]; exact bF, kN, by rw [d2, ← hl0]; exact bR, get_setB_same bE (by rw [kB]; rfl)⟩, hp.even, by show h7.floor ≤ _; rw [kC.floor]; exact hp.fl, by show pb < 2 * h7.next; have := kC.next; omega, hp.ne⟩, d1, d2, d3, kC.setB _ _ bE (fun _ => rfl)⟩

theorem count_top {l : List It} (h : 0 < l.length) : 0 < l.count (nth l 0) := by
  have h2 := nth_get h
  exact List.count_pos_iff.2 (List.mem_of_getElem? h2)

theorem pop_ok {n pb off z : Nat} {h : Heap} {cs : List Value} {t : Bool} {v : Value} {sb : Option Nat} {l : List It} (hn : l.length + 20 < n) (hl : l.length < 1000000) (hl0 : 0 < l.length) (hf : h.Fine) (hp : PileAt h pb off cs z t v sb l) (hh : IsHeap l) :
    (callV env (n + 5) (.func (.func 11) #[] #[]) [.pointer (some ⟨pb, off, none⟩)] h).Is fun p => p.1 = .tuple #[iv (nth l 0), .bool true] ∧ (∃ v' l', PileAt p.2 pb off (cs.set off v') z t v' sb l' ∧ IsHeap l' ∧ l'.length = l.length - 1 ∧ (∀ y, l'.count y + one (nth l 0 = y) = l.count y)) ∧ Chg (pS pb sb) h p.2 := by
  refine call_is env11 ?_
  simp (disch := first | assumption | omega | (simp only [wkD, oneCell, Option.isSome_some, *]; done) | (simp only [wkE, ne_eq]; omega)) only [ir11, List.append_nil, List.nil_append, List.cons_append, List.length_cons, List.length_nil, Nat.reduceAdd, Nat.reduceSub, List.replicate_succ, List.replicate_zero, wk0, wk1, wk2, wk3, wk4, wk5, X_region, X_seq, X_block, X_loop, X_cond, Y_box, Y_un, Y_store, Y_append, Y_makeMap, Y_buildSlice, ibin_shl, ibin_shr, ibin_and, List.set_cons_zero, List.set_cons_succ, List.getD_cons_zero, List.getD_cons_succ, List.map_cons, List.map_nil, ↓reduceIte, reduceCtorEq, oneCell, List.length_cons, List.length_nil, setAt, readN, bne_iff_ne, ne_eq, Nat.reduceAdd, Nat.reduceLeDiff, List.getElem?_cons_zero, List.getElem?_cons_succ, Nat.reduceMul, Option.isSome_some, layAt, Nat.reduceLT, Option.isNone_some, Option.isNone_none, beq_self_eq_true, Nat.reduceEqDiff, setParams, Int.reduceLT, Int.reduceLE, Int.reduceGT, Int.reduceGE, Int.reduceEq, Int.reduceNe, Option.map_some, Option.map_none, Option.isSome_none]
  have hcs : off < cs.length := (List.getElem?_eq_some_iff.1 hp.cell).1
  have fA := alloc_fine (o := .cells [.int .i64 0, .int .i64 0, .int .i64 0] 1 false) hf
  have pA : PileAt (h.alloc (.cells [.int .i64 0, .int .i64 0, .int .i64 0] 1 false)) pb off cs z t v sb l := hp.chg ((Chg.refl (fun _ => False) h).alloc _) id (fun _ _ => id)
  have gA : (h.alloc (.cells [.int .i64 0, .int .i64 0, .int .i64 0] 1 false)).get (2 * h.next) = some (.cells [.int .i64 0, .int .i64 0, .int .i64 0] 1 false) := get_alloc_new hf
  have eA : Ext h (h.alloc (.cells [.int .i64 0, .int .i64 0, .int .i64 0] 1 false)) := (Ext.refl h).alloc _
  have hf1 := hf.1
  have nA : h.next < (h.alloc (.cells [.int .i64 0, .int .i64 0, .int .i64 0] 1 false)).next := by rw [alloc_next]; omega
  generalize h.alloc (.cells [.int .i64 0, .int .i64 0, .int .i64 0] 1 false) = k at fA pA gA eA nA ⊢
  refine Z_is (top_ok (n := n + 2) fA pA) ?_
  rintro v1 k1 ⟨rfl, e1⟩
  simp only at e1
  rw [if_pos hl0, decide_eq_true hl0]
  have f1 := e1.fine fA
  have p1 : PileAt k1 pb off cs z t v sb l := pA.chg (e1.chg (fun _ => False)) id (fun _ _ => id)
  have g1 : k1.get (2 * h.next) = some (.cells [.int .i64 0, .int .i64 0, .int .i64 0] 1 false) := (e1.old _ (Or.inr (by omega))).trans gA
  have e1' : Ext h k1 := eA.trans e1
  have n1 : h.next < k1.next := by have := e1.next; omega
  -- the cell of x
  have f2 := alloc_fine (o := .cells [.int .i64 0, .int .i64 0, .int .i64 0] 1 false) f1
  have cX : canPut k1 (2 * k1.next) = true := canPut_new _ f1.1
  unfold iv
  simp (disch := first | assumption | omega | (simp only [wkD, oneCell, Option.isSome_some, *]; done) | (simp only [wkE, ne_eq]; omega)) only [cX, iv, wk0, wk1, wk2, wk3, wk4, wk5, X_region, X_seq, X_block, X_loop, X_cond, Y_box, Y_un, Y_store, Y_append, Y_makeMap, Y_buildSlice, ibin_shl, ibin_shr, ibin_and, List.set_cons_zero, List.set_cons_succ, List.getD_cons_zero, List.getD_cons_succ, List.map_cons, List.map_nil, ↓reduceIte, reduceCtorEq, oneCell, List.length_cons, List.length_nil, setAt, readN, bne_iff_ne, ne_eq, Nat.reduceAdd, Nat.reduceLeDiff, List.getElem?_cons_zero, List.getElem?_cons_succ, Nat.reduceMul, Option.isSome_some, layAt, Nat.reduceLT, Option.isNone_some, Option.isNone_none, beq_self_eq_true, Nat.reduceEqDiff, setParams, Int.reduceLT, Int.reduceLE, Int.reduceGT, Int.reduceGE, Int.reduceEq, Int.reduceNe, Option.map_some, Option.map_none, Option.isSome_none]
  have f3 : ((k1.alloc (.cells [.int .i64 0, .int .i64 0, .int .i64 0] 1 false)).setB (2 * k1.next) (.cells [.int .i64 (nth l 0).c, .int .i64 (nth l 0).t, .int .i64 (nth l 0).i] 1 false)).Fine := setB_fine f2
  have e3 : Ext h ((k1.alloc (.cells [.int .i64 0, .int .i64 0, .int .i64 0] 1 false)).setB (2 * k1.next) (.cells [.int .i64 (nth l 0).c, .int .i64 (nth l 0).t, .int .i64 (nth l 0).i] 1 false)) := (e1'.alloc _).setB _ _ (by omega) (by omega)
  have e31 : Ext k1 ((k1.alloc (.cells [.int .i64 0, .int .i64 0, .int .i64 0] 1 false)).setB (2 * k1.next) (.cells [.int .i64 (nth l 0).c, .int .i64 (nth l 0).t, .int .i64 (nth l 0).i] 1 false)) := ((Ext.refl k1).alloc _).setB _ _ (by omega) (by omega)
  have g3 := (e31.old _ (Or.inr (by omega))).trans g1
  have x3 : ((k1.alloc (.cells [.int .i64 0, .int .i64 0, .int .i64 0] 1 false)).setB (2 * k1.next) (.cells [.int .i64 (nth l 0).c, .int .i64 (nth l 0).t, .int .i64 (nth l 0).i] 1 false)).get (2 * k1.next) = some (.cells (ic (nth l 0)) 1 false) := get_setB_same (by omega) (by rw [get_alloc_new f1]; rfl)
  have p3 := p1.chg (e31.chg (fun _ => False)) id (fun _ _ => id)
  have n3 : ((k1.alloc (.cells [.int .i64 0, .int .i64 0, .int .i64 0] 1 false)).setB (2 * k1.next) (.cells [.int .i64 (nth l 0).c, .int .i64 (nth l 0).t, .int .i64 (nth l 0).i] 1 false)).next = k1.next + 1 := rfl
  generalize ((k1.alloc (.cells [.int .i64 0, .int .i64 0, .int .i64 0] 1 false)).setB (2 * k1.next) (.cells [.int .i64 (nth l 0).c, .int .i64 (nth l 0).t, .int .i64 (nth l 0).i] 1 false)) = k3 at f3 e3 e31 g3 x3 p3 n3 ⊢
  -- the last one
  obtain ⟨b, cpl, rest, hv, hsb, bL, bE, bF, bN, bR, bG⟩ := p3.sl.block hl0
  have rP := rd_cell p3.at_ p3.cell
  have rA := rd_all ic_len (nth_get (l := l) (k := l.length - 1) (by omega)) bG
  have c0 : (0 : Int) ≤ ((l.length - 1 : Nat) : Int) := by omega
  have c1 : ((l.length - 1 : Nat) : Int) < (l.length : Int) := by omega
  have y1 : IntKind.i64.wrap ((l.length : Int) - 1) = ((l.length - 1 : Nat) : Int) := by rw [wrap_i64 (by omega) (by omega)]; omega
  have cY : canPut k3 (2 * k3.next) = true := canPut_new _ f3.1
  subst hv
  unfold ic at rA
  refine X_drawn _ fun an => ?_
  simp (disch := first | assumption | omega | (simp only [wkD, oneCell, Option.isSome_some, *]; done) | (simp only [wkE, ne_eq]; omega)) only [rP, rA, c0, c1, y1, cY, Int.toNat_natCast, Nat.lt_add_one, wk0, wk1, wk2, wk3, wk4, wk5, X_region, X_seq, X_block, X_loop, X_cond, Y_box, Y_un, Y_store, Y_append, Y_makeMap, Y_buildSlice, ibin_shl, ibin_shr, ibin_and, List.set_cons_zero, List.set_cons_succ, List.getD_cons_zero, List.getD_cons_succ, List.map_cons, List.map_nil, ↓reduceIte, reduceCtorEq, oneCell, List.length_cons, List.length_nil, setAt, readN, bne_iff_ne, ne_eq, Nat.reduceAdd, Nat.reduceLeDiff, List.getElem?_cons_zero, List.getElem?_cons_succ, Nat.reduceMul, Option.isSome_some, layAt, Nat.reduceLT, Option.isNone_some, Option.isNone_none, beq_self_eq_true, Nat.reduceEqDiff, setParams, Int.reduceLT, Int.reduceLE, Int.reduceGT, Int.reduceGE, Int.reduceEq, Int.reduceNe, Option.map_some, Option.map_none, Option.isSome_none]
  have e4 : Ext k3 ((k3.alloc (.cells [.int .i64 0, .int .i64 0, .int .i64 0] 1 false)).setB (2 * k3.next) (.cells [.int .i64 (nth l (l.length - 1)).c, .int .i64 (nth l (l.length - 1)).t, .int .i64 (nth l (l.length - 1)).i] 1 false)) := ((Ext.refl k3).alloc _).setB _ _ (by omega) (by omega)
  have y4 : ((k3.alloc (.cells [.int .i64 0, .int .i64 0, .int .i64 0] 1 false)).setB (2 * k3.next) (.cells [.int .i64 (nth l (l.length - 1)).c, .int .i64 (nth l (l.length - 1)).t, .int .i64 (nth l (l.length - 1)).i] 1 false)).get (2 * k3.next) = some (.cells (ic (nth l (l.length - 1))) 1 false) := get_setB_same (by omega) (by rw [get_alloc_new f3]; rfl)
  have n4 : ((k3.alloc (.cells [.int .i64 0, .int .i64 0, .int .i64 0] 1 false)).setB (2 * k3.next) (.cells [.int .i64 (nth l (l.length - 1)).c, .int .i64 (nth l (l.length - 1)).t, .int .i64 (nth l (l.length - 1)).i] 1 false)).next = k3.next + 1 := rfl
  generalize ((k3.alloc (.cells [.int .i64 0, .int .i64 0, .int .i64 0] 1 false)).setB (2 * k3.next) (.cells [.int .i64 (nth l (l.length - 1)).c, .int .i64 (nth l (l.length - 1)).t, .int .i64 (nth l (l.length - 1)).i] 1 false)) = k4 at e4 y4 n4 ⊢
  have f4 := e4.fine f3
  have g4 := (e4.old _ (Or.inr (by omega))).trans g3
  have x4 := (e4.old _ (Or.inr (by omega))).trans x3
  have p4 := p3.chg (e4.chg (fun _ => False)) id (fun _ _ => id)
  have e4' := e3.trans e4
  -- it goes
  obtain ⟨v', s1, s2⟩ := sl_shrink ic_len p4.sl hl0 (by omega)
  have rP4 := rd_cell p4.at_ p4.cell
  obtain ⟨pv, cv, rfl, _, _⟩ := s2.val
  have cO : ∀ (p : Option Addr) (a b : Nat), cellsOf (.slice p a b) = [.slice p a b] := fun _ _ _ => rfl
  have w4 := wr_cell (w := .slice pv l.dropLast.length cv) p4.at_ p4.cell rfl (canPut_even p4.even p4.fl)
  refine X_drawn _ fun an => ?_
  simp (disch := first | assumption | omega | (simp only [wkD, oneCell, Option.isSome_some, *]; done) | (simp only [wkE, ne_eq]; omega)) only [rP4, y1, s1, w4, cO, wk0, wk1, wk2, wk3, wk4, wk5, X_region, X_seq, X_block, X_loop, X_cond, Y_box, Y_un, Y_store, Y_append, Y_makeMap, Y_buildSlice, ibin_shl, ibin_shr, ibin_and, List.set_cons_zero, List.set_cons_succ, List.getD_cons_zero, List.getD_cons_succ, List.map_cons, List.map_nil, ↓reduceIte, reduceCtorEq, oneCell, List.length_cons, List.length_nil, setAt, readN, bne_iff_ne, ne_eq, Nat.reduceAdd, Nat.reduceLeDiff, List.getElem?_cons_zero, List.getElem?_cons_succ, Nat.reduceMul, Option.isSome_some, layAt, Nat.reduceLT, Option.isNone_some, Option.isNone_none, beq_self_eq_true, Nat.reduceEqDiff, setParams, Int.reduceLT, Int.reduceLE, Int.reduceGT, Int.reduceGE, Int.reduceEq, Int.reduceNe, Option.map_some, Option.map_none, Option.isSome_none]
  have hd : l.dropLast.length = l.length - 1 := by simp
  have e5 : Chg (pS pb sb) h (k4.setB pb (.cells (cs.set off (.slice pv l.dropLast.length cv)) z t)) := (e4'.chg _).setB _ _ hp.even (fun _ => Or.inl rfl)
  have e54 : Chg (fun y => y = pb) k4 (k4.setB pb (.cells (cs.set off (.slice pv l.dropLast.length cv)) z t)) := (Chg.refl _ k4).setB _ _ hp.even (fun _ => rfl)
  have lp := hp.lt
  have l1 : 2 * h.next ≠ pb := by omega
  have l2 : 2 * k1.next ≠ pb := by omega
  have l3 : 2 * k3.next ≠ pb := by have := p3.lt; omega
  have g5 := (e54.old _ (Or.inr (by have := e4.next; omega)) l1).trans g4
  have x5 := (e54.old _ (Or.inr (by have := e4.next; omega)) l2).trans x4
  have y5 := (e54.old _ (Or.inr (by have := e4.next; omega)) l3).trans y4
  have p5 : PileAt (k4.setB pb (.cells (cs.set off (.slice pv l.dropLast.length cv)) z t)) pb off (cs.set off (.slice pv l.dropLast.length cv)) z t (.slice pv l.dropLast.length cv) sb l.dropLast := ⟨get_setB_same hp.even (by rw [p4.at_]; rfl), by rw [List.getElem?_set, if_pos rfl, if_pos hcs], s2.chg e54 (fun b' hb e => hp.ne (by rw [← e]; exact hb)), p4.even, p4.fl, p4.lt, p4.ne⟩
  have n5 : (k4.setB pb (.cells (cs.set off (.slice pv l.dropLast.length cv)) z t)).next = k4.next := rfl
  have f5 := e5.fine hf
  generalize k4.setB pb (.cells (cs.set off (.slice pv l.dropLast.length cv)) z t) = k5 at e5 g5 x5 y5 p5 n5 f5 ⊢
  have rP5 := rd_cell p5.at_ p5.cell
  have nb1 : ∀ q : Nat, h.next ≤ q → some (2 * q) ≠ sb := fun q hq e => by
    have := (hp.sl.lt e).1
    omega
  by_cases h1 : 0 < l.length - 1
  · have h1' : (0 : Int) < (l.dropLast.length : Int) := by omega
    have rY : readC (k5.get (2 * k3.next)) 0 3 = some [.int .i64 (nth l (l.length - 1)).c, .int .i64 (nth l (l.length - 1)).t, .int .i64 (nth l (l.length - 1)).i] := by rw [y5]; rfl
    simp (disch := first | assumption | omega | (simp only [wkD, oneCell, Option.isSome_some, *]; done) | (simp only [wkE, ne_eq]; omega)) only [rP5, h1', rY, wk0, wk1, wk2, wk3, wk4, wk5, X_region, X_seq, X_block, X_loop, X_cond, Y_box, Y_un, Y_store, Y_append, Y_makeMap, Y_buildSlice, ibin_shl, ibin_shr, ibin_and, List.set_cons_zero, List.set_cons_succ, List.getD_cons_zero, List.getD_cons_succ, List.map_cons, List.map_nil, ↓reduceIte, reduceCtorEq, oneCell, List.length_cons, List.length_nil, setAt, readN, bne_iff_ne, ne_eq, Nat.reduceAdd, Nat.reduceLeDiff, List.getElem?_cons_zero, List.getElem?_cons_succ, Nat.reduceMul, Option.isSome_some, layAt, Nat.reduceLT, Option.isNone_some, Option.isNone_none, beq_self_eq_true, Nat.reduceEqDiff, setParams, Int.reduceLT, Int.reduceLE, Int.reduceGT, Int.reduceGE, Int.reduceEq, Int.reduceNe, Option.map_some, Option.map_none, Option.isSome_none]
    refine Z_is (down_ok (n := n) (by omega) (by omega) f5 p5 (Down.start hh (by omega))) ?_
    rintro v6 k6 ⟨l', p6, d1, d2, d3, d4⟩
    simp only at p6 d4
    have ln : k4.next ≤ k5.next := by omega
    have g6 := (d4.old _ (Or.inr (by have := e4.next; omega)) (nb1 _ (Nat.le_refl _))).trans g5
    have x6 := (d4.old _ (Or.inr (by have := e4.next; omega)) (nb1 _ (by omega))).trans x5
    have rX : readC (k6.get (2 * k1.next)) 0 3 = some [.int .i64 (nth l 0).c, .int .i64 (nth l 0).t, .int .i64 (nth l 0).i] := by rw [x6]; rfl
    have fl6 : k6.floor ≤ h.next := by rw [d4.floor, e5.floor]; exact hf1
    have wR : ∀ a b c, writeC (k6.get (2 * h.next)) k6 (2 * h.next) 0 [.int .i64 a, .int .i64 b, .int .i64 c] = some (k6.setB (2 * h.next) (.cells [.int .i64 a, .int .i64 b, .int .i64 c] 1 false)) := fun a b c => by
      rw [g6, writeC_cells, if_pos ⟨by simp, by simp [oneCell], canPut_new _ fl6⟩]; rfl
    simp (disch := first | assumption | omega | (simp only [wkD, oneCell, Option.isSome_some, *]; done) | (simp only [wkE, ne_eq]; omega)) only [rX, wR, wk0, wk1, wk2, wk3, wk4, wk5, X_region, X_seq, X_block, X_loop, X_cond, Y_box, Y_un, Y_store, Y_append, Y_makeMap, Y_buildSlice, ibin_shl, ibin_shr, ibin_and, List.set_cons_zero, List.set_cons_succ, List.getD_cons_zero, List.getD_cons_succ, List.map_cons, List.map_nil, ↓reduceIte, reduceCtorEq, oneCell, List.length_cons, List.length_nil, setAt, readN, bne_iff_ne, ne_eq, Nat.reduceAdd, Nat.reduceLeDiff, List.getElem?_cons_zero, List.getElem?_cons_succ, Nat.reduceMul, Option.isSome_some, layAt, Nat.reduceLT, Option.isNone_some, Option.isNone_none, beq_self_eq_true, Nat.reduceEqDiff, setParams, Int.reduceLT, Int.reduceLE, Int.reduceGT, Int.reduceGE, Int.reduceEq, Int.reduceNe, Option.map_some, Option.map_none, Option.isSome_none]
    have c6 : Chg (pS pb sb) h k6 := e5.trans (d4.mono (fun y _ hy => Or.inr hy))
    refine leafC2 (cs := ic (nth l 0)) rfl (by rw [get_setB_same (by omega) (by rw [g6]; rfl)]; rfl) ⟨rfl, ⟨_, l', p6.chg ((Chg.refl (fun y => y = 2 * h.next) k6).setB _ _ (by omega) (fun _ => rfl)) (fun e => l1 e.symm) (fun b' hb e => nb1 h.next (Nat.le_refl _) (by rw [← e]; exact hb)), d1, d2, fun y => ?_⟩, c6.setB _ _ (by omega) (fun hx => by omega)⟩
    have hc : one (nth l 0 = y) ≤ l.count y := by
      unfold one
      split
      · rename_i e; rw [← e]; exact count_top hl0
      · omega
    have := d3 y
    omega
  · have h1' : ¬ (0 : Int) < (l.dropLast.length : Int) := by omega
    have rX : readC (k5.get (2 * k1.next)) 0 3 = some [.int .i64 (nth l 0).c, .int .i64 (nth l 0).t, .int .i64 (nth l 0).i] := by rw [x5]; rfl
    have fl5 : k5.floor ≤ h.next := by rw [e5.floor]; exact hf1
    have wR : ∀ a b c, writeC (k5.get (2 * h.next)) k5 (2 * h.next) 0 [.int .i64 a, .int .i64 b, .int .i64 c] = some (k5.setB (2 * h.next) (.cells [.int .i64 a, .int .i64 b, .int .i64 c] 1 false)) := fun a b c => by
      rw [g5, writeC_cells, if_pos ⟨by simp, by simp [oneCell], canPut_new _ fl5⟩]; rfl
    simp (disch := first | assumption | omega | (simp only [wkD, oneCell, Option.isSome_some, *]; done) | (simp only [wkE, ne_eq]; omega)) only [rP5, h1', rX, wR, wk0, wk1, wk2, wk3, wk4, wk5, X_region, X_seq, X_block, X_loop, X_cond, Y_box, Y_un, Y_store, Y_append, Y_makeMap, Y_buildSlice, ibin_shl, ibin_shr, ibin_and, List.set_cons_zero, List.set_cons_succ, List.getD_cons_zero, List.getD_cons_succ, List.map_cons, List.map_nil, ↓reduceIte, reduceCtorEq, oneCell, List.length_cons, List.length_nil, setAt, readN, bne_iff_ne, ne_eq, Nat.reduceAdd, Nat.reduceLeDiff, List.getElem?_cons_zero, List.getElem?_cons_succ, Nat.reduceMul, Option.isSome_some, layAt, Nat.reduceLT, Option.isNone_some, Option.isNone_none, beq_self_eq_true, Nat.reduceEqDiff, setParams, Int.reduceLT, Int.reduceLE, Int.reduceGT, Int.reduceGE, Int.reduceEq, Int.reduceNe, Option.map_some, Option.map_none, Option.isSome_none]
    refine leafC2 (cs := ic (nth l 0)) rfl (by rw [get_setB_same (by omega) (by rw [g5]; rfl)]; rfl) ⟨rfl, ⟨_, l.dropLast, p5.chg ((Chg.refl (fun y => y = 2 * h.next) k5).setB _ _ (by omega) (fun _ => rfl)) (fun e => l1 e.symm) (fun b' hb e => nb1 h.next (Nat.le_refl _) (by rw [← e]; exact hb)), fun k k0 k1 => by omega, hd, fun y => ?_⟩, e5.setB _ _ (by omega) (fun hx => by omega)⟩
    have hl1 : l.length = 1 := by omega
    match l, hl1 with
    | [a], _ =>
      show List.count y [] + one (a = y) = _
      rw [cnt_single]
      simp
end Go.Proofs.Ytafaefeekilclaa
