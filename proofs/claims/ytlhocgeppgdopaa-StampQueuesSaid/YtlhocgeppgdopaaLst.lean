/-
  A queue of waiters: raising, finding, listing.
-/
import Derived.Test.YtlhocgeppgdopaaPut
namespace Go.Proofs.Ytlhocgeppgdopaa
open Go Go.Ideal Go.ChangeShapes Go.RowKit
set_option maxHeartbeats 0
set_option linter.unusedSimpArgs false
set_option linter.unusedVariables false
set_option maxRecDepth 100000
attribute [local irreducible] callV T.All T.Is run

theorem setAt_one (c : List Value) (i : Nat) (v : Value) : setAt c i [v] = c.set i v := rfl
theorem set_field (p : Int) : ∀ (l : List It) (i : Nat) (rest : List Value), i < l.length → (l.flatMap ic ++ rest).set (i * 3 + 2) (.int .i64 p) = (l.set i { nth l i with p := p }).flatMap ic ++ rest
  | [], i, rest, h => by simp at h
  | a :: l, 0, rest, h => rfl
  | a :: l, i + 1, rest, h => by
    have ih := set_field p l i rest (by simpa using h)
    have e : (i + 1) * 3 + 2 = (i * 3 + 2) + 1 + 1 + 1 := by omega
    rw [e]
    show (Value.int .i64 a.r :: .int .u64 a.s :: .int .i64 a.p :: (l.flatMap ic ++ rest)).set _ _ = _
    rw [List.set_cons_succ, List.set_cons_succ, List.set_cons_succ, ih]
    rfl

/-- What is sorted when one was raised. -/
def RaiseTo (l : List It) (r p : Int) (l2 : List It) : Prop := ∃ i : Nat, IsPlace l r (i : Int) ∧ i < l.length ∧ p ≤ 15 ∧ (nth l i).p < p ∧ l2 = l.set i { nth l i with p := p }
/-- Nobody is raised. -/
def NoRaise (l : List It) (r p : Int) : Prop := IsPlace l r (-1) ∨ ∃ i : Nat, IsPlace l r (i : Int) ∧ i < l.length ∧ (15 < p ∨ p ≤ (nth l i).p)

theorem raise_ok {n qb : Nat} {h : Heap} {v : Value} {sb : Option Nat} {l : List It} {r p : Int} (hn : l.length + 30 < n) (hl : l.length ≤ 8) (hf : h.Fine) (Q : QAt h qb v sb l) :
    (callV env (n + 9) (.func (.func 18) #[] #[]) [.pointer (some ⟨qb, 0, none⟩), .int .i64 r, .int .i64 p] h).Is fun q => (NoRaise l r p ∧ q.1 = .bool false ∧ Ext h q.2) ∨ (q.1 = .bool true ∧ ∃ l2 l', RaiseTo l r p l2 ∧ QAt q.2 qb v sb l' ∧ l'.length = l2.length ∧ (∀ y, l'.count y = l2.count y) ∧ Sorted l' 0 l'.length ∧ Chg (fun y => some y = sb) h q.2) := by
  refine call_is env18 ?_
  simp (disch := first | assumption | omega | (simp only [wkD, oneCell, Option.isSome_some, *]; done) | (simp only [wkE, ne_eq]; omega)) only [ir18, List.append_nil, List.nil_append, List.cons_append, List.length_cons, List.length_nil, Nat.reduceAdd, Nat.reduceSub, List.replicate_succ, List.replicate_zero, wk0, wk1, wk2, wk3, wk4, wk5, X_region, X_seq, X_block, X_loop, X_cond, Y_box, Y_un, Y_store, Y_append, Y_makeMap, Y_buildSlice, ibin_shl, ibin_shr, ibin_and, List.set_cons_zero, List.set_cons_succ, List.getD_cons_zero, List.getD_cons_succ, List.map_cons, List.map_nil, ↓reduceIte, reduceCtorEq, oneCell, List.length_cons, List.length_nil, setAt, readN, bne_iff_ne, ne_eq, Nat.reduceAdd, Nat.reduceLeDiff, List.getElem?_cons_zero, List.getElem?_cons_succ, Nat.reduceMul, Option.isSome_some, layAt, Nat.reduceLT, Option.isNone_some, Option.isNone_none, beq_self_eq_true, Nat.reduceEqDiff, setParams, Int.reduceLT, Int.reduceLE, Int.reduceGT, Int.reduceGE, Int.reduceEq, Int.reduceNe, Option.map_some, Option.map_none, Option.isSome_none]
  refine Z_is (place_ok (n := n + 5) (r := r) (by omega) (by omega) hf Q) ?_
  rintro v2 k2 ⟨⟨kk, hk, rfl⟩, e2⟩
  simp only at e2
  have Q2 := Q.ext e2
  have f2 := e2.fine hf
  have r2 := Q2.rd
  have hpl := hk
  rcases hk with ⟨rfl, hno⟩ | ⟨i, rfl, hi, hr, hno⟩
  · have m1 : (-1 : Int) < 0 := by omega
    simp (disch := first | assumption | omega | (simp only [wkD, oneCell, Option.isSome_some, *]; done) | (simp only [wkE, ne_eq]; omega)) only [m1, wk0, wk1, wk2, wk3, wk4, wk5, X_region, X_seq, X_block, X_loop, X_cond, Y_box, Y_un, Y_store, Y_append, Y_makeMap, Y_buildSlice, ibin_shl, ibin_shr, ibin_and, List.set_cons_zero, List.set_cons_succ, List.getD_cons_zero, List.getD_cons_succ, List.map_cons, List.map_nil, ↓reduceIte, reduceCtorEq, oneCell, List.length_cons, List.length_nil, setAt, readN, bne_iff_ne, ne_eq, Nat.reduceAdd, Nat.reduceLeDiff, List.getElem?_cons_zero, List.getElem?_cons_succ, Nat.reduceMul, Option.isSome_some, layAt, Nat.reduceLT, Option.isNone_some, Option.isNone_none, beq_self_eq_true, Nat.reduceEqDiff, setParams, Int.reduceLT, Int.reduceLE, Int.reduceGT, Int.reduceGE, Int.reduceEq, Int.reduceNe, Option.map_some, Option.map_none, Option.isSome_none]
    exact leaf1 (Or.inl ⟨Or.inl hpl, rfl, e2⟩)
  · have m1 : ¬ (i : Int) < 0 := by omega
    have c0 : (0 : Int) ≤ (i : Int) := by omega
    have c1 : (i : Int) < (l.length : Int) := by omega
    obtain ⟨b, cpl, rest, rfl, rfl, bL, bE, bF, bN, bR, bG⟩ := Q2.sl.block (by omega)
    have rP : readC (k2.get b) (i * 3 + 2) 1 = some [.int .i64 (nth l i).p] := (rd_at ic_len (nth_get hi) bG (k := 2) (m := 1) (by omega)).trans rfl
    by_cases h15 : 15 < p
    · simp (disch := first | assumption | omega | (simp only [wkD, oneCell, Option.isSome_some, *]; done) | (simp only [wkE, ne_eq]; omega)) only [m1, h15, wk0, wk1, wk2, wk3, wk4, wk5, X_region, X_seq, X_block, X_loop, X_cond, Y_box, Y_un, Y_store, Y_append, Y_makeMap, Y_buildSlice, ibin_shl, ibin_shr, ibin_and, List.set_cons_zero, List.set_cons_succ, List.getD_cons_zero, List.getD_cons_succ, List.map_cons, List.map_nil, ↓reduceIte, reduceCtorEq, oneCell, List.length_cons, List.length_nil, setAt, readN, bne_iff_ne, ne_eq, Nat.reduceAdd, Nat.reduceLeDiff, List.getElem?_cons_zero, List.getElem?_cons_succ, Nat.reduceMul, Option.isSome_some, layAt, Nat.reduceLT, Option.isNone_some, Option.isNone_none, beq_self_eq_true, Nat.reduceEqDiff, setParams, Int.reduceLT, Int.reduceLE, Int.reduceGT, Int.reduceGE, Int.reduceEq, Int.reduceNe, Option.map_some, Option.map_none, Option.isSome_none]
      exact leaf1 (Or.inl ⟨Or.inr ⟨i, hpl, hi, Or.inl h15⟩, rfl, e2⟩)
    by_cases hge : p ≤ (nth l i).p
    · simp (disch := first | assumption | omega | (simp only [wkD, oneCell, Option.isSome_some, *]; done) | (simp only [wkE, ne_eq]; omega)) only [m1, h15, r2, rP, c0, c1, hge, Int.toNat_natCast, wk0, wk1, wk2, wk3, wk4, wk5, X_region, X_seq, X_block, X_loop, X_cond, Y_box, Y_un, Y_store, Y_append, Y_makeMap, Y_buildSlice, ibin_shl, ibin_shr, ibin_and, List.set_cons_zero, List.set_cons_succ, List.getD_cons_zero, List.getD_cons_succ, List.map_cons, List.map_nil, ↓reduceIte, reduceCtorEq, oneCell, List.length_cons, List.length_nil, setAt, readN, bne_iff_ne, ne_eq, Nat.reduceAdd, Nat.reduceLeDiff, List.getElem?_cons_zero, List.getElem?_cons_succ, Nat.reduceMul, Option.isSome_some, layAt, Nat.reduceLT, Option.isNone_some, Option.isNone_none, beq_self_eq_true, Nat.reduceEqDiff, setParams, Int.reduceLT, Int.reduceLE, Int.reduceGT, Int.reduceGE, Int.reduceEq, Int.reduceNe, Option.map_some, Option.map_none, Option.isSome_none]
      exact leaf1 (Or.inl ⟨Or.inr ⟨i, hpl, hi, Or.inr hge⟩, rfl, e2⟩)
    have hlen3 : i * 3 + 2 + 1 ≤ (l.flatMap ic ++ rest).length := by
      rw [List.length_append, flatMap_len ic_len]; omega
    have wI : writeC (k2.get b) k2 b (i * 3 + 2) [.int .i64 p] = some (k2.setB b (.cells ((l.set i { nth l i with p := p }).flatMap ic ++ rest) 3 true)) := by
      rw [bG, writeC_cells, if_pos ⟨hlen3, rfl, decide_eq_true ⟨bE, bF⟩⟩, setAt_one, set_field p l i rest hi]
    simp (disch := first | assumption | omega | (simp only [wkD, oneCell, Option.isSome_some, *]; done) | (simp only [wkE, ne_eq]; omega)) only [m1, h15, r2, rP, c0, c1, hge, wI, Int.toNat_natCast, wk0, wk1, wk2, wk3, wk4, wk5, X_region, X_seq, X_block, X_loop, X_cond, Y_box, Y_un, Y_store, Y_append, Y_makeMap, Y_buildSlice, ibin_shl, ibin_shr, ibin_and, List.set_cons_zero, List.set_cons_succ, List.getD_cons_zero, List.getD_cons_succ, List.map_cons, List.map_nil, ↓reduceIte, reduceCtorEq, oneCell, List.length_cons, List.length_nil, setAt, readN, bne_iff_ne, ne_eq, Nat.reduceAdd, Nat.reduceLeDiff, List.getElem?_cons_zero, List.getElem?_cons_succ, Nat.reduceMul, Option.isSome_some, layAt, Nat.reduceLT, Option.isNone_some, Option.isNone_none, beq_self_eq_true, Nat.reduceEqDiff, setParams, Int.reduceLT, Int.reduceLE, Int.reduceGT, Int.reduceGE, Int.reduceEq, Int.reduceNe, Option.map_some, Option.map_none, Option.isSome_none]
    have nb : qb ≠ b := fun e => Q.ne (by rw [e])
    have c3 : Chg (fun y => some y = some b) h (k2.setB b (.cells ((l.set i { nth l i with p := p }).flatMap ic ++ rest) 3 true)) := (e2.chg _).setB _ _ bE (fun _ => rfl)
    have Q5 : QAt (k2.setB b (.cells ((l.set i { nth l i with p := p }).flatMap ic ++ rest) 3 true)) qb (.slice (some ⟨b, 0, some 3⟩) l.length cpl) (some b) (l.set i { nth l i with p := p }) :=
      ⟨(get_setB_other bE nb).trans Q2.at_, Or.inr ⟨b, cpl, rest, by simp, rfl, by simpa using bL, bE, bF, bN, by simpa using bR, get_setB_same bE (by rw [bG]; rfl)⟩, Q.even, Q2.fl, Q2.lt, Q.ne⟩
    refine Z_is (sortq_ok (n := n) (by simp; omega) (by simp; omega) (by simp; omega) (c3.fine hf) Q5) ?_
    rintro v6 k6 ⟨l', q1, q2, q3, q4, q5⟩
    simp (disch := first | assumption | omega | (simp only [wkD, oneCell, Option.isSome_some, *]; done) | (simp only [wkE, ne_eq]; omega)) only [wk0, wk1, wk2, wk3, wk4, wk5, X_region, X_seq, X_block, X_loop, X_cond, Y_box, Y_un, Y_store, Y_append, Y_makeMap, Y_buildSlice, ibin_shl, ibin_shr, ibin_and, List.set_cons_zero, List.set_cons_succ, List.getD_cons_zero, List.getD_cons_succ, List.map_cons, List.map_nil, ↓reduceIte, reduceCtorEq, oneCell, List.length_cons, List.length_nil, setAt, readN, bne_iff_ne, ne_eq, Nat.reduceAdd, Nat.reduceLeDiff, List.getElem?_cons_zero, List.getElem?_cons_succ, Nat.reduceMul, Option.isSome_some, layAt, Nat.reduceLT, Option.isNone_some, Option.isNone_none, beq_self_eq_true, Nat.reduceEqDiff, setParams, Int.reduceLT, Int.reduceLE, Int.reduceGT, Int.reduceGE, Int.reduceEq, Int.reduceNe, Option.map_some, Option.map_none, Option.isSome_none]
    exact leaf1 (Or.inr ⟨rfl, _, l', ⟨i, hpl, hi, by omega, by omega, rfl⟩, q1, q2, q3, q4, c3.trans q5⟩)

theorem find_ok {n qb : Nat} {h : Heap} {v : Value} {sb : Option Nat} {l : List It} {r : Int} (hn : l.length + 30 < n) (hl : l.length ≤ 8) (hf : h.Fine) (Q : QAt h qb v sb l) :
    (callV env (n + 4) (.func (.func 17) #[] #[]) [.pointer (some ⟨qb, 0, none⟩), .int .i64 r] h).Is fun q => ((IsPlace l r (-1) ∧ q.1 = .tuple #[iv it0, .bool false]) ∨ ∃ i : Nat, IsPlace l r (i : Int) ∧ i < l.length ∧ q.1 = .tuple #[iv (nth l i), .bool true]) ∧ Ext h q.2 := by
  refine call_is env17 ?_
  simp (disch := first | assumption | omega | (simp only [wkD, oneCell, Option.isSome_some, *]; done) | (simp only [wkE, ne_eq]; omega)) only [ir17, List.append_nil, List.nil_append, List.cons_append, List.length_cons, List.length_nil, Nat.reduceAdd, Nat.reduceSub, List.replicate_succ, List.replicate_zero, wk0, wk1, wk2, wk3, wk4, wk5, X_region, X_seq, X_block, X_loop, X_cond, Y_box, Y_un, Y_store, Y_append, Y_makeMap, Y_buildSlice, ibin_shl, ibin_shr, ibin_and, List.set_cons_zero, List.set_cons_succ, List.getD_cons_zero, List.getD_cons_succ, List.map_cons, List.map_nil, ↓reduceIte, reduceCtorEq, oneCell, List.length_cons, List.length_nil, setAt, readN, bne_iff_ne, ne_eq, Nat.reduceAdd, Nat.reduceLeDiff, List.getElem?_cons_zero, List.getElem?_cons_succ, Nat.reduceMul, Option.isSome_some, layAt, Nat.reduceLT, Option.isNone_some, Option.isNone_none, beq_self_eq_true, Nat.reduceEqDiff, setParams, Int.reduceLT, Int.reduceLE, Int.reduceGT, Int.reduceGE, Int.reduceEq, Int.reduceNe, Option.map_some, Option.map_none, Option.isSome_none]
  have f1 := alloc_fine (o := .cells [.int .i64 0, .int .u64 0, .int .i64 0] 1 false) hf
  have e1 : Ext h (h.alloc (.cells [.int .i64 0, .int .u64 0, .int .i64 0] 1 false)) := (Ext.refl h).alloc _
  have g1 : (h.alloc (.cells [.int .i64 0, .int .u64 0, .int .i64 0] 1 false)).get (2 * h.next) = some (.cells [.int .i64 0, .int .u64 0, .int .i64 0] 1 false) := get_alloc_new hf
  have n1 : (h.alloc (.cells [.int .i64 0, .int .u64 0, .int .i64 0] 1 false)).next = h.next + 1 := rfl
  have hf1 := hf.1
  generalize h.alloc (.cells [.int .i64 0, .int .u64 0, .int .i64 0] 1 false) = k1 at f1 e1 g1 n1 ⊢
  have Q1 := Q.ext e1
  refine Z_is (place_ok (n := n) (r := r) (by omega) (by omega) f1 Q1) ?_
  rintro v2 k2 ⟨⟨kk, hk, rfl⟩, e2⟩
  simp only at e2
  have Q2 := Q1.ext e2
  have f2 := e2.fine f1
  have r2 := Q2.rd
  have g2 := (e2.old (2 * h.next) (Or.inr (by omega))).trans g1
  have e12 := e1.trans e2
  have cp : canPut k2 (2 * h.next) = true := canPut_new _ (by rw [e12.floor]; exact hf1)
  have w2 : ∀ a b c, writeC (k2.get (2 * h.next)) k2 (2 * h.next) 0 [.int .i64 a, .int .u64 b, .int .i64 c] = some (k2.setB (2 * h.next) (.cells [.int .i64 a, .int .u64 b, .int .i64 c] 1 false)) := fun a b c => by
    rw [g2, writeC_cells, if_pos ⟨by simp, by simp [oneCell], cp⟩]; rfl
  have eZ : ∀ o, Ext h (k2.setB (2 * h.next) o) := fun o => e12.setB _ _ (by omega) (by omega)
  have hpl := hk
  rcases hk with ⟨rfl, hno⟩ | ⟨i, rfl, hi, hr, hno⟩
  · have m1 : (-1 : Int) < 0 := by omega
    simp (disch := first | assumption | omega | (simp only [wkD, oneCell, Option.isSome_some, *]; done) | (simp only [wkE, ne_eq]; omega)) only [m1, w2, wk0, wk1, wk2, wk3, wk4, wk5, X_region, X_seq, X_block, X_loop, X_cond, Y_box, Y_un, Y_store, Y_append, Y_makeMap, Y_buildSlice, ibin_shl, ibin_shr, ibin_and, List.set_cons_zero, List.set_cons_succ, List.getD_cons_zero, List.getD_cons_succ, List.map_cons, List.map_nil, ↓reduceIte, reduceCtorEq, oneCell, List.length_cons, List.length_nil, setAt, readN, bne_iff_ne, ne_eq, Nat.reduceAdd, Nat.reduceLeDiff, List.getElem?_cons_zero, List.getElem?_cons_succ, Nat.reduceMul, Option.isSome_some, layAt, Nat.reduceLT, Option.isNone_some, Option.isNone_none, beq_self_eq_true, Nat.reduceEqDiff, setParams, Int.reduceLT, Int.reduceLE, Int.reduceGT, Int.reduceGE, Int.reduceEq, Int.reduceNe, Option.map_some, Option.map_none, Option.isSome_none]
    exact leafC2 (cs := ic it0) rfl (by rw [get_setB_same (by omega) (by rw [g2]; rfl)]; rfl) ⟨Or.inl ⟨hpl, rfl⟩, eZ _⟩
  · have m1 : ¬ (i : Int) < 0 := by omega
    have c0 : (0 : Int) ≤ (i : Int) := by omega
    have c1 : (i : Int) < (l.length : Int) := by omega
    obtain ⟨b, cpl, rest, rfl, rfl, bL, bE, bF, bN, bR, bG⟩ := Q2.sl.block (by omega)
    have rI := rd_all ic_len (nth_get hi) bG
    unfold ic at rI
    simp (disch := first | assumption | omega | (simp only [wkD, oneCell, Option.isSome_some, *]; done) | (simp only [wkE, ne_eq]; omega)) only [m1, r2, rI, c0, c1, w2, Int.toNat_natCast, wk0, wk1, wk2, wk3, wk4, wk5, X_region, X_seq, X_block, X_loop, X_cond, Y_box, Y_un, Y_store, Y_append, Y_makeMap, Y_buildSlice, ibin_shl, ibin_shr, ibin_and, List.set_cons_zero, List.set_cons_succ, List.getD_cons_zero, List.getD_cons_succ, List.map_cons, List.map_nil, ↓reduceIte, reduceCtorEq, oneCell, List.length_cons, List.length_nil, setAt, readN, bne_iff_ne, ne_eq, Nat.reduceAdd, Nat.reduceLeDiff, List.getElem?_cons_zero, List.getElem?_cons_succ, Nat.reduceMul, Option.isSome_some, layAt, Nat.reduceLT, Option.isNone_some, Option.isNone_none, beq_self_eq_true, Nat.reduceEqDiff, setParams, Int.reduceLT, Int.reduceLE, Int.reduceGT, Int.reduceGE, Int.reduceEq, Int.reduceNe, Option.map_some, Option.map_none, Option.isSome_none]
    exact leafC2 (cs := ic (nth l i)) rfl (by rw [get_setB_same (by omega) (by rw [g2]; rfl)]; rfl) ⟨Or.inr ⟨i, hpl, hi, rfl⟩, eZ _⟩

/-- A list that can be read. -/
def View (h : Heap) (v : Value) (l : List It) : Prop := ∃ p c, v = .slice p l.length c ∧ (0 < l.length → ∃ b sp rest zz t, p = some ⟨b, 0, sp⟩ ∧ (b % 2 = 1 ∨ b < 2 * h.next) ∧ h.get b = some (.cells (l.flatMap ic ++ rest) zz t))

theorem View.ext {h h' : Heap} {v : Value} {l : List It} (V : View h v l) (e : Ext h h') : View h' v l := by
  obtain ⟨p, c, rfl, hb⟩ := V
  refine ⟨p, c, rfl, fun h0 => ?_⟩
  obtain ⟨b, sp, rest, zz, t, b1, b2, b3⟩ := hb h0
  exact ⟨b, sp, rest, zz, t, b1, by have := e.next; omega, (e.old b b2).trans b3⟩
/-- Where there are items, they can be read. -/
theorem View.rd {h : Heap} {v : Value} {l : List It} (V : View h v l) {i : Nat} (hi : i < l.length) : ∃ b c, (∃ sp, v = .slice (some ⟨b, 0, sp⟩) l.length c) ∧ ∀ k m, k + m ≤ 3 → readC (h.get b) (i * 3 + k) m = readN (ic (nth l i)) k m := by
  obtain ⟨p, c, rfl, hb⟩ := V
  obtain ⟨b, sp, rest, zz, t, rfl, b2, b3⟩ := hb (by omega)
  exact ⟨b, c, ⟨sp, rfl⟩, fun k m hk => rd_at ic_len (nth_get hi) b3 hk⟩

theorem slice_firstN {h : Heap} {b c : Nat} {sp : Option Nat} {l : List It} {rest : List Value} {zz : Nat} {t : Bool} (hg : h.get b = some (.cells (l.flatMap ic ++ rest) zz t)) : firstN h 3 l.length (.slice (some ⟨b, 0, sp⟩) l.length c) = some (l.flatMap ic) := by
  rw [firstN_slice]
  have hfl := flatMap_len ic_len l
  by_cases h0 : l.length * 3 = 0
  · rw [if_pos h0]
    have : l.flatMap ic = [] := List.eq_nil_of_length_eq_zero (by omega)
    rw [this]
  · rw [if_neg h0]
    show h.read ⟨b, 0, none⟩ (l.length * 3) = _
    rw [read_eq, hg]
    simp only [readC, readN]
    rw [if_pos (by rw [List.length_append]; omega), List.drop_zero, ← hfl, List.take_left']
    rfl

theorem clone_ok {n : Nat} {h : Heap} {v : Value} {l : List It} (hl : l.length ≤ 1000000) (hf : h.Fine) (V : View h v l) :
    (callV env (n + 1) (.func (.func 36) #[] #[]) [v] h).Is fun q => View q.2 q.1 l ∧ Ext h q.2 := by
  refine call_is env36 ?_
  have V0 := V
  obtain ⟨p, c, rfl, hb⟩ := V
  have sN : ∀ q a b, vEqSlice false (.slice none a b) (.slice q 0 0) = some (.bool (q.isNone != false)) := fun _ _ _ => rfl
  have sS : ∀ q a b, vEqSlice false (.slice (some q) a b) (.slice none 0 0) = some (.bool (false != false)) := fun _ _ _ => rfl
  cases p with
  | none =>
    have hl0 : l = [] := by
      rcases Nat.eq_zero_or_pos l.length with e | e
      · exact List.eq_nil_of_length_eq_zero e
      · obtain ⟨b, sp, rest, zz, t, e1, _⟩ := hb e
        cases e1
    subst hl0
    simp (disch := first | assumption | omega | (simp only [wkD, oneCell, Option.isSome_some, *]; done) | (simp only [wkE, ne_eq]; omega)) only [ir36, List.append_nil, List.nil_append, List.cons_append, List.length_cons, List.length_nil, Nat.reduceAdd, Nat.reduceSub, List.replicate_succ, List.replicate_zero, Y_eqSlice, sN, wk0, wk1, wk2, wk3, wk4, wk5, X_region, X_seq, X_block, X_loop, X_cond, Y_box, Y_un, Y_store, Y_append, Y_makeMap, Y_buildSlice, ibin_shl, ibin_shr, ibin_and, List.set_cons_zero, List.set_cons_succ, List.getD_cons_zero, List.getD_cons_succ, List.map_cons, List.map_nil, ↓reduceIte, reduceCtorEq, oneCell, List.length_cons, List.length_nil, setAt, readN, bne_iff_ne, ne_eq, Nat.reduceAdd, Nat.reduceLeDiff, List.getElem?_cons_zero, List.getElem?_cons_succ, Nat.reduceMul, Option.isSome_some, layAt, Nat.reduceLT, Option.isNone_some, Option.isNone_none, beq_self_eq_true, Nat.reduceEqDiff, setParams, Int.reduceLT, Int.reduceLE, Int.reduceGT, Int.reduceGE, Int.reduceEq, Int.reduceNe, Option.map_some, Option.map_none, Option.isSome_none]
    exact leaf1 ⟨⟨none, 0, rfl, fun h => by simp at h⟩, Ext.refl _⟩
  | some a =>
    have bs : pBuildSlice h 3 0 [.int .i64 0, .int .u64 0, .int .i64 0] [] = some (.slice (some ⟨2 * h.next, 0, none⟩) 0 0, h.alloc (.cells [] 3 false)) := rfl
    have f1 := alloc_fine (o := .cells [] 3 false) hf
    have e1 : Ext h (h.alloc (.cells [] 3 false)) := (Ext.refl h).alloc _
    have g1 : (h.alloc (.cells [] 3 false)).get (2 * h.next) = some (.cells [] 3 false) := get_alloc_new hf
    rcases Nat.eq_zero_or_pos l.length with e | e
    · have hl0 : l = [] := List.eq_nil_of_length_eq_zero e
      subst hl0
      have ap : iappend (h.alloc (.cells [] 3 false)) 3 24 (.slice (some ⟨2 * h.next, 0, none⟩) 0 0) (.slice (some a) 0 c) = some (.slice (some ⟨2 * h.next, 0, none⟩) 0 0, h.alloc (.cells [] 3 false)) := rfl
      simp (disch := first | assumption | omega | (simp only [wkD, oneCell, Option.isSome_some, *]; done) | (simp only [wkE, ne_eq]; omega)) only [ir36, List.append_nil, List.nil_append, List.cons_append, List.length_cons, List.length_nil, Nat.reduceAdd, Nat.reduceSub, List.replicate_succ, List.replicate_zero, Y_eqSlice, sS, bs, ap, wk0, wk1, wk2, wk3, wk4, wk5, X_region, X_seq, X_block, X_loop, X_cond, Y_box, Y_un, Y_store, Y_append, Y_makeMap, Y_buildSlice, ibin_shl, ibin_shr, ibin_and, List.set_cons_zero, List.set_cons_succ, List.getD_cons_zero, List.getD_cons_succ, List.map_cons, List.map_nil, ↓reduceIte, reduceCtorEq, oneCell, List.length_cons, List.length_nil, setAt, readN, bne_iff_ne, ne_eq, Nat.reduceAdd, Nat.reduceLeDiff, List.getElem?_cons_zero, List.getElem?_cons_succ, Nat.reduceMul, Option.isSome_some, layAt, Nat.reduceLT, Option.isNone_some, Option.isNone_none, beq_self_eq_true, Nat.reduceEqDiff, setParams, Int.reduceLT, Int.reduceLE, Int.reduceGT, Int.reduceGE, Int.reduceEq, Int.reduceNe, Option.map_some, Option.map_none, Option.isSome_none]
      exact leaf1 ⟨⟨_, 0, rfl, fun h => by simp at h⟩, e1⟩
    · obtain ⟨b, sp, rest, zz, t, hp, b2, b3⟩ := hb e
      cases hp
      have b3' := (e1.old b b2).trans b3
      have hb' : b < 2 * h.next ∨ b % 2 = 1 := b2.symm
      have ap : iappend (h.alloc (.cells [] 3 false)) 3 24 (.slice (some ⟨2 * h.next, 0, none⟩) 0 0) (.slice (some ⟨b, 0, sp⟩) l.length c) = some (.slice (some ⟨2 * (h.next + 1), 0, some 3⟩) l.length l.length, (h.alloc (.cells [] 3 false)).alloc (.cells (l.flatMap ic) 3 true)) := by
        unfold iappend
        simp only [lenOf?]
        rw [if_neg (by omega)]
        simp only [slice_firstN b3', Nat.zero_add]
        rw [if_neg (by omega), if_pos ⟨by unfold roomMost; omega, by unfold roomMost; omega⟩]
        have fz : firstN (h.alloc (.cells [] 3 false)) 3 0 (.slice (some ⟨2 * h.next, 0, none⟩) 0 0) = some [] := rfl
        have i1 : isCells (h.alloc (.cells [] 3 false)) (2 * h.next) = true := by unfold isCells; rw [g1]
        have i2 : spotOk 3 (⟨2 * h.next, 0, none⟩ : Addr) = true := rfl
        have i3 : reaches (h.alloc (.cells [] 3 false)) 3 ⟨2 * h.next, 0, none⟩ 0 = false := by
          unfold reaches
          simp only [g1]
          rfl
        simp only [fz, i1, i2, i3, Bool.not_true, Bool.or_self, Bool.false_eq_true, if_false, List.nil_append]
        rfl
      simp (disch := first | assumption | omega | (simp only [wkD, oneCell, Option.isSome_some, *]; done) | (simp only [wkE, ne_eq]; omega)) only [ir36, List.append_nil, List.nil_append, List.cons_append, List.length_cons, List.length_nil, Nat.reduceAdd, Nat.reduceSub, List.replicate_succ, List.replicate_zero, Y_eqSlice, sS, bs, ap, wk0, wk1, wk2, wk3, wk4, wk5, X_region, X_seq, X_block, X_loop, X_cond, Y_box, Y_un, Y_store, Y_append, Y_makeMap, Y_buildSlice, ibin_shl, ibin_shr, ibin_and, List.set_cons_zero, List.set_cons_succ, List.getD_cons_zero, List.getD_cons_succ, List.map_cons, List.map_nil, ↓reduceIte, reduceCtorEq, oneCell, List.length_cons, List.length_nil, setAt, readN, bne_iff_ne, ne_eq, Nat.reduceAdd, Nat.reduceLeDiff, List.getElem?_cons_zero, List.getElem?_cons_succ, Nat.reduceMul, Option.isSome_some, layAt, Nat.reduceLT, Option.isNone_some, Option.isNone_none, beq_self_eq_true, Nat.reduceEqDiff, setParams, Int.reduceLT, Int.reduceLE, Int.reduceGT, Int.reduceGE, Int.reduceEq, Int.reduceNe, Option.map_some, Option.map_none, Option.isSome_none]
      refine leaf1 ⟨⟨_, _, rfl, fun _ => ⟨_, _, [], 3, true, rfl, Or.inr ?_, ?_⟩⟩, e1.alloc _⟩
      · show 2 * (h.next + 1) < 2 * (h.next + 1 + 1)
        omega
      · rw [List.append_nil]
        exact get_alloc_new f1

theorem QAt.view {h : Heap} {qb : Nat} {v : Value} {sb : Option Nat} {l : List It} (Q : QAt h qb v sb l) : View h v l := by
  rcases Q.sl with ⟨rfl, rfl, _⟩ | ⟨b, c, rest, rfl, b2, b3, b4, b5, b6, b7, b8⟩
  · exact ⟨none, 0, rfl, fun h => by simp at h⟩
  · exact ⟨_, c, rfl, fun _ => ⟨b, _, rest, 3, true, rfl, Or.inr b6, b8⟩⟩

theorem list_ok {n qb : Nat} {h : Heap} {v : Value} {sb : Option Nat} {l : List It} (hl : l.length ≤ 1000000) (hf : h.Fine) (Q : QAt h qb v sb l) :
    (callV env (n + 2) (.func (.func 16) #[] #[]) [.pointer (some ⟨qb, 0, none⟩)] h).Is fun q => View q.2 q.1 l ∧ Ext h q.2 := by
  refine call_is env16 ?_
  have r1 := Q.rd
  simp (disch := first | assumption | omega | (simp only [wkD, oneCell, Option.isSome_some, *]; done) | (simp only [wkE, ne_eq]; omega)) only [ir16, List.append_nil, List.nil_append, List.cons_append, List.length_cons, List.length_nil, Nat.reduceAdd, Nat.reduceSub, List.replicate_succ, List.replicate_zero, r1, wk0, wk1, wk2, wk3, wk4, wk5, X_region, X_seq, X_block, X_loop, X_cond, Y_box, Y_un, Y_store, Y_append, Y_makeMap, Y_buildSlice, ibin_shl, ibin_shr, ibin_and, List.set_cons_zero, List.set_cons_succ, List.getD_cons_zero, List.getD_cons_succ, List.map_cons, List.map_nil, ↓reduceIte, reduceCtorEq, oneCell, List.length_cons, List.length_nil, setAt, readN, bne_iff_ne, ne_eq, Nat.reduceAdd, Nat.reduceLeDiff, List.getElem?_cons_zero, List.getElem?_cons_succ, Nat.reduceMul, Option.isSome_some, layAt, Nat.reduceLT, Option.isNone_some, Option.isNone_none, beq_self_eq_true, Nat.reduceEqDiff, setParams, Int.reduceLT, Int.reduceLE, Int.reduceGT, Int.reduceGE, Int.reduceEq, Int.reduceNe, Option.map_some, Option.map_none, Option.isSome_none]
  refine Z_is (clone_ok (n := n) hl hf Q.view) ?_
  rintro v2 k2 ⟨q1, q2⟩
  simp (disch := first | assumption | omega | (simp only [wkD, oneCell, Option.isSome_some, *]; done) | (simp only [wkE, ne_eq]; omega)) only [wk0, wk1, wk2, wk3, wk4, wk5, X_region, X_seq, X_block, X_loop, X_cond, Y_box, Y_un, Y_store, Y_append, Y_makeMap, Y_buildSlice, ibin_shl, ibin_shr, ibin_and, List.set_cons_zero, List.set_cons_succ, List.getD_cons_zero, List.getD_cons_succ, List.map_cons, List.map_nil, ↓reduceIte, reduceCtorEq, oneCell, List.length_cons, List.length_nil, setAt, readN, bne_iff_ne, ne_eq, Nat.reduceAdd, Nat.reduceLeDiff, List.getElem?_cons_zero, List.getElem?_cons_succ, Nat.reduceMul, Option.isSome_some, layAt, Nat.reduceLT, Option.isNone_some, Option.isNone_none, beq_self_eq_true, Nat.reduceEqDiff, setParams, Int.reduceLT, Int.reduceLE, Int.reduceGT, Int.reduceGE, Int.reduceEq, Int.reduceNe, Option.map_some, Option.map_none, Option.isSome_none]
  exact leaf1 ⟨q1, q2⟩
end Go.Proofs.Ytlhocgeppgdopaa
