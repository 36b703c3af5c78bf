import Derived.Test.YtmpnldmdchchjaaQueue
namespace Go.Ideal
open Go
section
variable {call : Caller} {fuel : Nat} {ar : Option Nat} {tm : List Value} {df : List Nat} {h : Heap} {K : List Fr} {r : List IOper} {d : Option Nat} {anc : List Nat} {bar : Bool}
end
end Go.Ideal
namespace Go.Proofs.Ytmpnldmdchchjaa
open Go Go.Ideal Go.ChangeShapes Go.RowKit
set_option maxHeartbeats 0
set_option linter.unusedSimpArgs false
set_option linter.unusedVariables false
set_option maxRecDepth 100000
attribute [local irreducible] callV T.All T.Is run
theorem env70 : env 70 = some ir70 := rfl
theorem env58 : env 58 = some ir58 := rfl
theorem QAt.rd {h : Heap} {qb : Nat} {v : Value} {sb : Option Nat} {l : List It} (Q : QAt h qb v sb l) : readC (h.get qb) 0 1 = some [v] := by rw [Q.at_]; rfl
theorem slI (p : Option Addr) (a b : Nat) : cellsOf (.slice p a b) = [.slice p a b] := rfl
theorem sortq_ok {n qb : Nat} {h : Heap} {v : Value} {sb : Option Nat} {l : List It} (hn : l.length + 20 < n) (h0 : 0 < l.length) (hl : l.length ≤ 12) (hf : h.Fine) (Q : QAt h qb v sb l) :
    (callV env (n + 8) (.func (.func 70) #[] #[]) [.pointer (some ⟨qb, 0, none⟩)] h).Is fun p => ∃ l', QAt p.2 qb v sb l' ∧ l'.length = l.length ∧ (∀ y, l'.count y = l.count y) ∧ Sorted l' 0 l'.length ∧ Chg (fun y => some y = sb) h p.2 := by
  refine call_is env70 ?_
  have r1 := Q.rd
  obtain ⟨b, c, rest, rfl, rfl, b3, b4, b5, b6, b7, b8⟩ := Q.sl.block h0
  simp (disch := first | assumption | omega | (simp only [wkD, oneCell, Option.isSome_some, *]; done) | (simp only [wkE, ne_eq]; omega)) only [ir70, List.append_nil, List.nil_append, List.cons_append, List.length_cons, List.length_nil, Nat.reduceAdd, Nat.reduceSub, List.replicate_succ, List.replicate_zero, r1, wk0, wk1, wk2, wk3, wk4, wk5, X_region, X_seq, X_block, X_loop, X_cond, Y_box, Y_un, Y_store, Y_append, Y_makeMap, Y_buildSlice, ibin_shl, ibin_shr, ibin_and, List.set_cons_zero, List.set_cons_succ, List.getD_cons_zero, List.getD_cons_succ, List.map_cons, List.map_nil, ↓reduceIte, reduceCtorEq, oneCell, List.length_cons, List.length_nil, setAt, readN, bne_iff_ne, ne_eq, Nat.reduceAdd, Nat.reduceLeDiff, List.getElem?_cons_zero, List.getElem?_cons_succ, Nat.reduceMul, Option.isSome_some, layAt, Nat.reduceLT, Option.isNone_some, Option.isNone_none, beq_self_eq_true, Nat.reduceEqDiff, setParams, Int.reduceLT, Int.reduceLE, Int.reduceGT, Int.reduceGE, Int.reduceEq, Int.reduceNe, Option.map_some, Option.map_none, Option.isSome_none]
  refine Z_is (sort_few (n := n) hn hl hf ⟨b8, b4, b5, b6⟩) ?_
  rintro v1 h1 ⟨a', A, S, so, C⟩
  simp only at A C
  simp (disch := first | assumption | omega | (simp only [wkD, oneCell, Option.isSome_some, *]; done) | (simp only [wkE, ne_eq]; omega)) only [wk0, wk1, wk2, wk3, wk4, wk5, X_region, X_seq, X_block, X_loop, X_cond, Y_box, Y_un, Y_store, Y_append, Y_makeMap, Y_buildSlice, ibin_shl, ibin_shr, ibin_and, List.set_cons_zero, List.set_cons_succ, List.getD_cons_zero, List.getD_cons_succ, List.map_cons, List.map_nil, ↓reduceIte, reduceCtorEq, oneCell, List.length_cons, List.length_nil, setAt, readN, bne_iff_ne, ne_eq, Nat.reduceAdd, Nat.reduceLeDiff, List.getElem?_cons_zero, List.getElem?_cons_succ, Nat.reduceMul, Option.isSome_some, layAt, Nat.reduceLT, Option.isNone_some, Option.isNone_none, beq_self_eq_true, Nat.reduceEqDiff, setParams, Int.reduceLT, Int.reduceLE, Int.reduceGT, Int.reduceGE, Int.reduceEq, Int.reduceNe, Option.map_some, Option.map_none, Option.isSome_none]
  refine leaf0n ⟨a', ⟨(C.old qb (Or.inr Q.lt) (fun e => Q.ne (by rw [e]))).trans Q.at_, Or.inr ⟨b, c, rest, by rw [S.len], rfl, by rw [S.len]; exact b3, b4, A.fl, A.lt, by rw [S.len]; exact b7, A.at_⟩, Q.even, by show h1.floor ≤ qb / 2 ∨ qb / 2 ∈ h1.may; rw [C.floor, C.may]; exact Q.fl, by show qb < 2 * h1.next; have := C.next; have := Q.lt; omega, Q.ne⟩, S.len, S.cnt, by rw [S.len]; exact so, C.mono (fun x _ hx => by rw [hx])⟩
def BadW (w : It) : Prop := w.r < 0 ∨ 64 ≤ w.r ∨ w.p < 0 ∨ 15 < w.p
instance (w : It) : Decidable (BadW w) := by unfold BadW; infer_instance
def PutTo (l : List It) (w : It) (l2 : List It) : Prop := (IsPlace l w.r (-1) ∧ l.length < 8 ∧ l2 = l ++ [w]) ∨ ∃ i : Nat, IsPlace l w.r (i : Int) ∧ i < l.length ∧ ((nth l i).p < w.p ∧ l2 = l.set i w ∨ ¬ (nth l i).p < w.p ∧ l2 = l)
theorem put_ok {n qb : Nat} {h : Heap} {v : Value} {sb : Option Nat} {l : List It} {x : It} (hn : l.length + 30 < n) (hl : l.length ≤ 8) (hf : h.Fine) (Q : QAt h qb v sb l) :
    (callV env (n + 9) (.func (.func 58) #[] #[]) [.pointer (some ⟨qb, 0, none⟩), iv x] h).Is fun p => (BadW x ∧ p.1 = .tuple #[.bool false, .int .i64 2] ∧ Ext h p.2) ∨ (¬ BadW x ∧ IsPlace l x.r (-1) ∧ 8 ≤ l.length ∧ p.1 = .tuple #[.bool false, .int .i64 0] ∧ Ext h p.2) ∨
      (¬ BadW x ∧ p.1 = .tuple #[.bool true, .int .i64 0] ∧ ∃ l2 v' sb' l', PutTo l x l2 ∧ QAt p.2 qb v' sb' l' ∧ (sb' = sb ∨ ∃ b, sb' = some b ∧ 2 * h.next ≤ b) ∧ l'.length = l2.length ∧ (∀ y, l'.count y = l2.count y) ∧ Sorted l' 0 l'.length ∧ Chg (qS qb sb) h p.2) := by
  refine call_is env58 ?_
  unfold iv
  have hf1 := hf.1
  have f1 := alloc_fine (o := .cells [.int .i64 x.r, .int .u64 x.s, .int .i64 x.p] 1 false) hf
  have gX : (h.alloc (.cells [.int .i64 x.r, .int .u64 x.s, .int .i64 x.p] 1 false)).get (2 * h.next) = some (.cells (ic x) 1 false) := get_alloc_new hf
  have e1 : Ext h (h.alloc (.cells [.int .i64 x.r, .int .u64 x.s, .int .i64 x.p] 1 false)) := (Ext.refl h).alloc _
  by_cases hb : BadW x
  · have bad : (x.r < 0) ∨ (¬ x.r < 0 ∧ 64 ≤ x.r) ∨ (¬ x.r < 0 ∧ ¬ 64 ≤ x.r ∧ x.p < 0) ∨ (¬ x.r < 0 ∧ ¬ 64 ≤ x.r ∧ ¬ x.p < 0 ∧ 15 < x.p) := by unfold BadW at hb; omega
    rcases bad with c1 | ⟨c1, c2⟩ | ⟨c1, c2, c3⟩ | ⟨c1, c2, c3, c4⟩
    · simp (disch := first | assumption | omega | (simp only [wkD, oneCell, Option.isSome_some, *]; done) | (simp only [wkE, ne_eq]; omega)) only [ir58, List.append_nil, List.nil_append, List.cons_append, List.length_cons, List.length_nil, Nat.reduceAdd, Nat.reduceSub, List.replicate_succ, List.replicate_zero, c1, wk0, wk1, wk2, wk3, wk4, wk5, X_region, X_seq, X_block, X_loop, X_cond, Y_box, Y_un, Y_store, Y_append, Y_makeMap, Y_buildSlice, ibin_shl, ibin_shr, ibin_and, List.set_cons_zero, List.set_cons_succ, List.getD_cons_zero, List.getD_cons_succ, List.map_cons, List.map_nil, ↓reduceIte, reduceCtorEq, oneCell, List.length_cons, List.length_nil, setAt, readN, bne_iff_ne, ne_eq, Nat.reduceAdd, Nat.reduceLeDiff, List.getElem?_cons_zero, List.getElem?_cons_succ, Nat.reduceMul, Option.isSome_some, layAt, Nat.reduceLT, Option.isNone_some, Option.isNone_none, beq_self_eq_true, Nat.reduceEqDiff, setParams, Int.reduceLT, Int.reduceLE, Int.reduceGT, Int.reduceGE, Int.reduceEq, Int.reduceNe, Option.map_some, Option.map_none, Option.isSome_none]
      exact leaf2 (Or.inl ⟨hb, rfl, e1⟩)
    · simp (disch := first | assumption | omega | (simp only [wkD, oneCell, Option.isSome_some, *]; done) | (simp only [wkE, ne_eq]; omega)) only [ir58, List.append_nil, List.nil_append, List.cons_append, List.length_cons, List.length_nil, Nat.reduceAdd, Nat.reduceSub, List.replicate_succ, List.replicate_zero, c1, c2, wk0, wk1, wk2, wk3, wk4, wk5, X_region, X_seq, X_block, X_loop, X_cond, Y_box, Y_un, Y_store, Y_append, Y_makeMap, Y_buildSlice, ibin_shl, ibin_shr, ibin_and, List.set_cons_zero, List.set_cons_succ, List.getD_cons_zero, List.getD_cons_succ, List.map_cons, List.map_nil, ↓reduceIte, reduceCtorEq, oneCell, List.length_cons, List.length_nil, setAt, readN, bne_iff_ne, ne_eq, Nat.reduceAdd, Nat.reduceLeDiff, List.getElem?_cons_zero, List.getElem?_cons_succ, Nat.reduceMul, Option.isSome_some, layAt, Nat.reduceLT, Option.isNone_some, Option.isNone_none, beq_self_eq_true, Nat.reduceEqDiff, setParams, Int.reduceLT, Int.reduceLE, Int.reduceGT, Int.reduceGE, Int.reduceEq, Int.reduceNe, Option.map_some, Option.map_none, Option.isSome_none]
      exact leaf2 (Or.inl ⟨hb, rfl, e1⟩)
    · simp (disch := first | assumption | omega | (simp only [wkD, oneCell, Option.isSome_some, *]; done) | (simp only [wkE, ne_eq]; omega)) only [ir58, List.append_nil, List.nil_append, List.cons_append, List.length_cons, List.length_nil, Nat.reduceAdd, Nat.reduceSub, List.replicate_succ, List.replicate_zero, c1, c2, c3, wk0, wk1, wk2, wk3, wk4, wk5, X_region, X_seq, X_block, X_loop, X_cond, Y_box, Y_un, Y_store, Y_append, Y_makeMap, Y_buildSlice, ibin_shl, ibin_shr, ibin_and, List.set_cons_zero, List.set_cons_succ, List.getD_cons_zero, List.getD_cons_succ, List.map_cons, List.map_nil, ↓reduceIte, reduceCtorEq, oneCell, List.length_cons, List.length_nil, setAt, readN, bne_iff_ne, ne_eq, Nat.reduceAdd, Nat.reduceLeDiff, List.getElem?_cons_zero, List.getElem?_cons_succ, Nat.reduceMul, Option.isSome_some, layAt, Nat.reduceLT, Option.isNone_some, Option.isNone_none, beq_self_eq_true, Nat.reduceEqDiff, setParams, Int.reduceLT, Int.reduceLE, Int.reduceGT, Int.reduceGE, Int.reduceEq, Int.reduceNe, Option.map_some, Option.map_none, Option.isSome_none]
      exact leaf2 (Or.inl ⟨hb, rfl, e1⟩)
    · simp (disch := first | assumption | omega | (simp only [wkD, oneCell, Option.isSome_some, *]; done) | (simp only [wkE, ne_eq]; omega)) only [ir58, List.append_nil, List.nil_append, List.cons_append, List.length_cons, List.length_nil, Nat.reduceAdd, Nat.reduceSub, List.replicate_succ, List.replicate_zero, c1, c2, c3, c4, wk0, wk1, wk2, wk3, wk4, wk5, X_region, X_seq, X_block, X_loop, X_cond, Y_box, Y_un, Y_store, Y_append, Y_makeMap, Y_buildSlice, ibin_shl, ibin_shr, ibin_and, List.set_cons_zero, List.set_cons_succ, List.getD_cons_zero, List.getD_cons_succ, List.map_cons, List.map_nil, ↓reduceIte, reduceCtorEq, oneCell, List.length_cons, List.length_nil, setAt, readN, bne_iff_ne, ne_eq, Nat.reduceAdd, Nat.reduceLeDiff, List.getElem?_cons_zero, List.getElem?_cons_succ, Nat.reduceMul, Option.isSome_some, layAt, Nat.reduceLT, Option.isNone_some, Option.isNone_none, beq_self_eq_true, Nat.reduceEqDiff, setParams, Int.reduceLT, Int.reduceLE, Int.reduceGT, Int.reduceGE, Int.reduceEq, Int.reduceNe, Option.map_some, Option.map_none, Option.isSome_none]
      exact leaf2 (Or.inl ⟨hb, rfl, e1⟩)
  have n1 : ¬ x.r < 0 := fun e => hb (Or.inl e)
  have n2 : ¬ 64 ≤ x.r := fun e => hb (Or.inr (Or.inl e))
  have n3 : ¬ x.p < 0 := fun e => hb (Or.inr (Or.inr (Or.inl e)))
  have n4 : ¬ 15 < x.p := fun e => hb (Or.inr (Or.inr (Or.inr e)))
  simp (disch := first | assumption | omega | (simp only [wkD, oneCell, Option.isSome_some, *]; done) | (simp only [wkE, ne_eq]; omega)) only [ir58, List.append_nil, List.nil_append, List.cons_append, List.length_cons, List.length_nil, Nat.reduceAdd, Nat.reduceSub, List.replicate_succ, List.replicate_zero, n1, n2, n3, n4, wk0, wk1, wk2, wk3, wk4, wk5, X_region, X_seq, X_block, X_loop, X_cond, Y_box, Y_un, Y_store, Y_append, Y_makeMap, Y_buildSlice, ibin_shl, ibin_shr, ibin_and, List.set_cons_zero, List.set_cons_succ, List.getD_cons_zero, List.getD_cons_succ, List.map_cons, List.map_nil, ↓reduceIte, reduceCtorEq, oneCell, List.length_cons, List.length_nil, setAt, readN, bne_iff_ne, ne_eq, Nat.reduceAdd, Nat.reduceLeDiff, List.getElem?_cons_zero, List.getElem?_cons_succ, Nat.reduceMul, Option.isSome_some, layAt, Nat.reduceLT, Option.isNone_some, Option.isNone_none, beq_self_eq_true, Nat.reduceEqDiff, setParams, Int.reduceLT, Int.reduceLE, Int.reduceGT, Int.reduceGE, Int.reduceEq, Int.reduceNe, Option.map_some, Option.map_none, Option.isSome_none]
  have nx : (h.alloc (.cells [.int .i64 x.r, .int .u64 x.s, .int .i64 x.p] 1 false)).next = h.next + 1 := rfl
  generalize h.alloc (.cells [.int .i64 x.r, .int .u64 x.s, .int .i64 x.p] 1 false) = k1 at f1 gX e1 nx ⊢
  have Q1 := Q.ext e1
  refine Z_is (place_ok (n := n + 5) (r := x.r) (by omega) (by omega) f1 Q1) ?_
  rintro v2 k2 ⟨⟨kk, hk, rfl⟩, e2⟩
  simp only at e2
  have Q2 := Q1.ext e2
  have f2 := e2.fine f1
  have e12 := e1.trans e2
  have gX2 := (e2.old (2 * h.next) (Or.inr (by omega))).trans gX
  have r2 := Q2.rd
  have rX : readC (k2.get (2 * h.next)) 0 3 = some [.int .i64 x.r, .int .u64 x.s, .int .i64 x.p] := by rw [gX2]; rfl
  have rXp : readC (k2.get (2 * h.next)) 2 1 = some [.int .i64 x.p] := by rw [gX2]; rfl
  have n12 := e2.next
  -- at the end: sorting
  have fin : ∀ (k5 : Heap) (v5 : Value) (s5 : Option Nat) (l5 : List It), PutTo l x l5 → QAt k5 qb v5 s5 l5 → (s5 = sb ∨ ∃ b, s5 = some b ∧ 2 * h.next ≤ b) → 0 < l5.length → l5.length ≤ 8 → Chg (qS qb sb) h k5 →
      (callV env (n + 8) (.func (.func 70) #[] #[]) [.pointer (some ⟨qb, 0, none⟩)] k5).Is fun p => ∃ l', QAt p.2 qb v5 s5 l' ∧ l'.length = l5.length ∧ (∀ y, l'.count y = l5.count y) ∧ Sorted l' 0 l'.length ∧ Chg (qS qb sb) h p.2 := by
    intro k5 v5 s5 l5 _ q5 hs5 h5 h58 c5
    refine T.Is.mono (fun p hp => ?_) (sortq_ok (n := n) (by omega) h5 (by omega) (c5.fine hf) q5)
    obtain ⟨l', a1, a2, a3, a4, a5⟩ := hp
    refine ⟨l', a1, a2, a3, a4, c5.then a5 (fun y hy he => ?_)⟩
    rcases hs5 with rfl | ⟨b, rfl, hb⟩
    · exact Or.inr he
    · cases he
      exfalso
      have := (q5.sl.lt rfl).2
      omega
  have hpl := hk
  rcases hk with ⟨rfl, hno⟩ | ⟨i, rfl, hi, hr, hno⟩
  · have m1 : (-1 : Int) < 0 := by omega
    obtain ⟨pv, cv, rfl, _, _⟩ := Q2.sl.val
    by_cases h8 : 8 ≤ l.length
    · have h8' : (8 : Int) ≤ (l.length : Int) := by omega
      simp (disch := first | assumption | omega | (simp only [wkD, oneCell, Option.isSome_some, *]; done) | (simp only [wkE, ne_eq]; omega)) only [m1, r2, h8', wk0, wk1, wk2, wk3, wk4, wk5, X_region, X_seq, X_block, X_loop, X_cond, Y_box, Y_un, Y_store, Y_append, Y_makeMap, Y_buildSlice, ibin_shl, ibin_shr, ibin_and, List.set_cons_zero, List.set_cons_succ, List.getD_cons_zero, List.getD_cons_succ, List.map_cons, List.map_nil, ↓reduceIte, reduceCtorEq, oneCell, List.length_cons, List.length_nil, setAt, readN, bne_iff_ne, ne_eq, Nat.reduceAdd, Nat.reduceLeDiff, List.getElem?_cons_zero, List.getElem?_cons_succ, Nat.reduceMul, Option.isSome_some, layAt, Nat.reduceLT, Option.isNone_some, Option.isNone_none, beq_self_eq_true, Nat.reduceEqDiff, setParams, Int.reduceLT, Int.reduceLE, Int.reduceGT, Int.reduceGE, Int.reduceEq, Int.reduceNe, Option.map_some, Option.map_none, Option.isSome_none]
      exact leaf2 (Or.inr (Or.inl ⟨hb, hpl, h8, rfl, e12⟩))
    · have h8' : ¬ (8 : Int) ≤ (l.length : Int) := by omega
      simp (disch := first | assumption | omega | (simp only [wkD, oneCell, Option.isSome_some, *]; done) | (simp only [wkE, ne_eq]; omega)) only [m1, r2, h8', wk0, wk1, wk2, wk3, wk4, wk5, X_region, X_seq, X_block, X_loop, X_cond, Y_box, Y_un, Y_store, Y_append, Y_makeMap, Y_buildSlice, ibin_shl, ibin_shr, ibin_and, List.set_cons_zero, List.set_cons_succ, List.getD_cons_zero, List.getD_cons_succ, List.map_cons, List.map_nil, ↓reduceIte, reduceCtorEq, oneCell, List.length_cons, List.length_nil, setAt, readN, bne_iff_ne, ne_eq, Nat.reduceAdd, Nat.reduceLeDiff, List.getElem?_cons_zero, List.getElem?_cons_succ, Nat.reduceMul, Option.isSome_some, layAt, Nat.reduceLT, Option.isNone_some, Option.isNone_none, beq_self_eq_true, Nat.reduceEqDiff, setParams, Int.reduceLT, Int.reduceLE, Int.reduceGT, Int.reduceGE, Int.reduceEq, Int.reduceNe, Option.map_some, Option.map_none, Option.isSome_none]
      refine X_drawn _ fun an => ?_
      have bs : pBuildSlice k2 3 1 [.int .i64 0, .int .u64 0, .int .i64 0] [(0, 3, .agg #[.int .i64 x.r, .int .u64 x.s, .int .i64 x.p])] = some (.slice (some ⟨2 * k2.next, 0, none⟩) 1 1, k2.alloc (.cells (ic x) 3 false)) := by
        unfold pBuildSlice; rfl
      have f3 := alloc_fine (o := .cells (ic x) 3 false) f2
      have e3 := e12.alloc (.cells (ic x) 3 false)
      have Q3 := Q.ext e3
      obtain ⟨v', k4, sb', a1, a2, a3, a4⟩ := sl_append (z := 3) (bytes := 24) (by omega) ic_len ic_one f3 Q3.sl (get_alloc_new f2) (by unfold roomMost; omega) (by omega)
      obtain ⟨b, cpl, rest, hv', rfl, bL, bE, bF, bN, bR, bG⟩ := a2.block (by simp)
      subst hv'
      have hlen : (l ++ [x]).length = l.length + 1 := by simp
      have c4 : Chg (qS qb sb) h k4 := (e3.chg _).then a4 (fun y _ hy => Or.inr hy)
      have g4 : k4.get qb = some (.cells [.slice pv l.length cv] 1 false) := (a4.old _ (Or.inr Q3.lt) (fun e => Q.ne e)).trans Q3.at_
      have fl4 : k4.floor ≤ qb / 2 ∨ qb / 2 ∈ k4.may := by rw [c4.floor, c4.may]; exact Q.fl
      have w4 : ∀ w, oneCell w = true → writeC (k4.get qb) k4 qb 0 [w] = some (k4.setB qb (.cells [w] 1 false)) := fun w hw => by
        rw [g4, writeC_cells, if_pos ⟨by simp, by simp [hw], decide_eq_true ⟨Q.even, fl4⟩⟩]; rfl
      have w4' := w4 (.slice (some ⟨b, 0, some 3⟩) (l ++ [x]).length cpl) rfl
      simp (disch := first | assumption | omega | (simp only [wkD, oneCell, Option.isSome_some, *]; done) | (simp only [wkE, ne_eq]; omega)) only [r2, rX, bs, a1, w4', slI, Nat.lt_add_one, wk0, wk1, wk2, wk3, wk4, wk5, X_region, X_seq, X_block, X_loop, X_cond, Y_box, Y_un, Y_store, Y_append, Y_makeMap, Y_buildSlice, ibin_shl, ibin_shr, ibin_and, List.set_cons_zero, List.set_cons_succ, List.getD_cons_zero, List.getD_cons_succ, List.map_cons, List.map_nil, ↓reduceIte, reduceCtorEq, oneCell, List.length_cons, List.length_nil, setAt, readN, bne_iff_ne, ne_eq, Nat.reduceAdd, Nat.reduceLeDiff, List.getElem?_cons_zero, List.getElem?_cons_succ, Nat.reduceMul, Option.isSome_some, layAt, Nat.reduceLT, Option.isNone_some, Option.isNone_none, beq_self_eq_true, Nat.reduceEqDiff, setParams, Int.reduceLT, Int.reduceLE, Int.reduceGT, Int.reduceGE, Int.reduceEq, Int.reduceNe, Option.map_some, Option.map_none, Option.isSome_none]
      have hsb : some b = sb ∨ ∃ b', some b = some b' ∧ 2 * h.next ≤ b' := by
        rcases a3 with e | e
        · exact Or.inl e
        · cases e
          exact Or.inr ⟨_, rfl, by rw [alloc_next]; omega⟩
      have nb : some qb ≠ some b := by
        rcases hsb with e | ⟨b', e, hb'⟩
        · rw [e]; exact Q.ne
        · cases e
          have := Q.lt
          intro e; cases e; omega
      have Q5 : QAt (k4.setB qb (.cells [.slice (some ⟨b, 0, some 3⟩) (l ++ [x]).length cpl] 1 false)) qb (.slice (some ⟨b, 0, some 3⟩) (l ++ [x]).length cpl) (some b) (l ++ [x]) :=
        ⟨get_setB_same Q.even (by rw [g4]; rfl), a2.get (fun b' hb' => get_setB_other Q.even (by rintro rfl; exact nb hb')) (Nat.le_refl _) rfl rfl, Q.even, fl4, by show qb < 2 * k4.next; have := Q.lt; have := c4.next; omega, nb⟩
      have hpt : PutTo l x (l ++ [x]) := Or.inl ⟨hpl, by omega, rfl⟩
      refine Z_is (fin _ _ _ _ hpt Q5 hsb (by omega) (by omega) (c4.setB _ _ Q.even (fun _ => Or.inl rfl))) ?_
      rintro v6 k6 ⟨l', q1, q2, q3, q4, q5⟩
      simp (disch := first | assumption | omega | (simp only [wkD, oneCell, Option.isSome_some, *]; done) | (simp only [wkE, ne_eq]; omega)) only [wk0, wk1, wk2, wk3, wk4, wk5, X_region, X_seq, X_block, X_loop, X_cond, Y_box, Y_un, Y_store, Y_append, Y_makeMap, Y_buildSlice, ibin_shl, ibin_shr, ibin_and, List.set_cons_zero, List.set_cons_succ, List.getD_cons_zero, List.getD_cons_succ, List.map_cons, List.map_nil, ↓reduceIte, reduceCtorEq, oneCell, List.length_cons, List.length_nil, setAt, readN, bne_iff_ne, ne_eq, Nat.reduceAdd, Nat.reduceLeDiff, List.getElem?_cons_zero, List.getElem?_cons_succ, Nat.reduceMul, Option.isSome_some, layAt, Nat.reduceLT, Option.isNone_some, Option.isNone_none, beq_self_eq_true, Nat.reduceEqDiff, setParams, Int.reduceLT, Int.reduceLE, Int.reduceGT, Int.reduceGE, Int.reduceEq, Int.reduceNe, Option.map_some, Option.map_none, Option.isSome_none]
      exact leaf2 (Or.inr (Or.inr ⟨hb, rfl, _, _, _, l', hpt, q1, hsb, q2, q3, q4, q5⟩))
  · have m1 : ¬ (i : Int) < 0 := by omega
    have c0 : (0 : Int) ≤ (i : Int) := by omega
    have c1 : (i : Int) < (l.length : Int) := by omega
    obtain ⟨b, cpl, rest, rfl, rfl, bL, bE, bF, bN, bR, bG⟩ := Q2.sl.block (by omega)
    have rP : readC (k2.get b) (i * 3 + 2) 1 = some [.int .i64 (nth l i).p] := (rd_at ic_len (nth_get hi) bG (k := 2) (m := 1) (by omega)).trans rfl
    simp (disch := first | assumption | omega | (simp only [wkD, oneCell, Option.isSome_some, *]; done) | (simp only [wkE, ne_eq]; omega)) only [m1, wk0, wk1, wk2, wk3, wk4, wk5, X_region, X_seq, X_block, X_loop, X_cond, Y_box, Y_un, Y_store, Y_append, Y_makeMap, Y_buildSlice, ibin_shl, ibin_shr, ibin_and, List.set_cons_zero, List.set_cons_succ, List.getD_cons_zero, List.getD_cons_succ, List.map_cons, List.map_nil, ↓reduceIte, reduceCtorEq, oneCell, List.length_cons, List.length_nil, setAt, readN, bne_iff_ne, ne_eq, Nat.reduceAdd, Nat.reduceLeDiff, List.getElem?_cons_zero, List.getElem?_cons_succ, Nat.reduceMul, Option.isSome_some, layAt, Nat.reduceLT, Option.isNone_some, Option.isNone_none, beq_self_eq_true, Nat.reduceEqDiff, setParams, Int.reduceLT, Int.reduceLE, Int.reduceGT, Int.reduceGE, Int.reduceEq, Int.reduceNe, Option.map_some, Option.map_none, Option.isSome_none]
    refine X_drawn _ fun an => ?_
    by_cases hp : (nth l i).p < x.p
    · simp (disch := first | assumption | omega | (simp only [wkD, oneCell, Option.isSome_some, *]; done) | (simp only [wkE, ne_eq]; omega)) only [r2, rP, rXp, c0, c1, hp, Int.toNat_natCast, wk0, wk1, wk2, wk3, wk4, wk5, X_region, X_seq, X_block, X_loop, X_cond, Y_box, Y_un, Y_store, Y_append, Y_makeMap, Y_buildSlice, ibin_shl, ibin_shr, ibin_and, List.set_cons_zero, List.set_cons_succ, List.getD_cons_zero, List.getD_cons_succ, List.map_cons, List.map_nil, ↓reduceIte, reduceCtorEq, oneCell, List.length_cons, List.length_nil, setAt, readN, bne_iff_ne, ne_eq, Nat.reduceAdd, Nat.reduceLeDiff, List.getElem?_cons_zero, List.getElem?_cons_succ, Nat.reduceMul, Option.isSome_some, layAt, Nat.reduceLT, Option.isNone_some, Option.isNone_none, beq_self_eq_true, Nat.reduceEqDiff, setParams, Int.reduceLT, Int.reduceLE, Int.reduceGT, Int.reduceGE, Int.reduceEq, Int.reduceNe, Option.map_some, Option.map_none, Option.isSome_none]
      refine X_drawn _ fun an => ?_
      have wI := wr_at (z := 3) ic_len ic_one (x := x) (i := i) hi bG (decide_eq_true ⟨bE, bF⟩)
      unfold ic at wI
      simp (disch := first | assumption | omega | (simp only [wkD, oneCell, Option.isSome_some, *]; done) | (simp only [wkE, ne_eq]; omega)) only [r2, rX, wI, c0, c1, Int.toNat_natCast, wk0, wk1, wk2, wk3, wk4, wk5, X_region, X_seq, X_block, X_loop, X_cond, Y_box, Y_un, Y_store, Y_append, Y_makeMap, Y_buildSlice, ibin_shl, ibin_shr, ibin_and, List.set_cons_zero, List.set_cons_succ, List.getD_cons_zero, List.getD_cons_succ, List.map_cons, List.map_nil, ↓reduceIte, reduceCtorEq, oneCell, List.length_cons, List.length_nil, setAt, readN, bne_iff_ne, ne_eq, Nat.reduceAdd, Nat.reduceLeDiff, List.getElem?_cons_zero, List.getElem?_cons_succ, Nat.reduceMul, Option.isSome_some, layAt, Nat.reduceLT, Option.isNone_some, Option.isNone_none, beq_self_eq_true, Nat.reduceEqDiff, setParams, Int.reduceLT, Int.reduceLE, Int.reduceGT, Int.reduceGE, Int.reduceEq, Int.reduceNe, Option.map_some, Option.map_none, Option.isSome_none]
      have hpt : PutTo l x (l.set i x) := Or.inr ⟨i, hpl, hi, Or.inl ⟨hp, rfl⟩⟩
      have nb : qb ≠ b := fun e => Q.ne (by rw [e])
      have c3 : Chg (qS qb (some b)) h (k2.setB b (.cells ((l.set i x).flatMap ic ++ rest) 3 true)) := (e12.chg _).setB _ _ bE (fun _ => Or.inr rfl)
      have Q5 : QAt (k2.setB b (.cells ((l.set i x).flatMap ic ++ rest) 3 true)) qb (.slice (some ⟨b, 0, some 3⟩) l.length cpl) (some b) (l.set i x) :=
        ⟨(get_setB_other bE nb).trans Q2.at_, Or.inr ⟨b, cpl, rest, by simp, rfl, by simpa using bL, bE, bF, bN, by simpa using bR, get_setB_same bE (by rw [bG]; rfl)⟩, Q.even, Q2.fl, Q2.lt, Q.ne⟩
      refine Z_is (fin _ _ _ _ hpt Q5 (Or.inl rfl) (by simp; omega) (by simpa using hl) c3) ?_
      rintro v6 k6 ⟨l', q1, q2, q3, q4, q5⟩
      simp (disch := first | assumption | omega | (simp only [wkD, oneCell, Option.isSome_some, *]; done) | (simp only [wkE, ne_eq]; omega)) only [wk0, wk1, wk2, wk3, wk4, wk5, X_region, X_seq, X_block, X_loop, X_cond, Y_box, Y_un, Y_store, Y_append, Y_makeMap, Y_buildSlice, ibin_shl, ibin_shr, ibin_and, List.set_cons_zero, List.set_cons_succ, List.getD_cons_zero, List.getD_cons_succ, List.map_cons, List.map_nil, ↓reduceIte, reduceCtorEq, oneCell, List.length_cons, List.length_nil, setAt, readN, bne_iff_ne, ne_eq, Nat.reduceAdd, Nat.reduceLeDiff, List.getElem?_cons_zero, List.getElem?_cons_succ, Nat.reduceMul, Option.isSome_some, layAt, Nat.reduceLT, Option.isNone_some, Option.isNone_none, beq_self_eq_true, Nat.reduceEqDiff, setParams, Int.reduceLT, Int.reduceLE, Int.reduceGT, Int.reduceGE, Int.reduceEq, Int.reduceNe, Option.map_some, Option.map_none, Option.isSome_none]
      exact leaf2 (Or.inr (Or.inr ⟨hb, rfl, _, _, _, l', hpt, q1, Or.inl rfl, q2, q3, q4, q5⟩))
    · simp (disch := first | assumption | omega | (simp only [wkD, oneCell, Option.isSome_some, *]; done) | (simp only [wkE, ne_eq]; omega)) only [r2, rP, rXp, c0, c1, hp, Int.toNat_natCast, wk0, wk1, wk2, wk3, wk4, wk5, X_region, X_seq, X_block, X_loop, X_cond, Y_box, Y_un, Y_store, Y_append, Y_makeMap, Y_buildSlice, ibin_shl, ibin_shr, ibin_and, List.set_cons_zero, List.set_cons_succ, List.getD_cons_zero, List.getD_cons_succ, List.map_cons, List.map_nil, ↓reduceIte, reduceCtorEq, oneCell, List.length_cons, List.length_nil, setAt, readN, bne_iff_ne, ne_eq, Nat.reduceAdd, Nat.reduceLeDiff, List.getElem?_cons_zero, List.getElem?_cons_succ, Nat.reduceMul, Option.isSome_some, layAt, Nat.reduceLT, Option.isNone_some, Option.isNone_none, beq_self_eq_true, Nat.reduceEqDiff, setParams, Int.reduceLT, Int.reduceLE, Int.reduceGT, Int.reduceGE, Int.reduceEq, Int.reduceNe, Option.map_some, Option.map_none, Option.isSome_none]
      have hpt : PutTo l x l := Or.inr ⟨i, hpl, hi, Or.inr ⟨hp, rfl⟩⟩
      refine Z_is (fin _ _ _ _ hpt Q2 (Or.inl rfl) (by omega) hl (e12.chg _)) ?_
      rintro v6 k6 ⟨l', q1, q2, q3, q4, q5⟩
      simp (disch := first | assumption | omega | (simp only [wkD, oneCell, Option.isSome_some, *]; done) | (simp only [wkE, ne_eq]; omega)) only [wk0, wk1, wk2, wk3, wk4, wk5, X_region, X_seq, X_block, X_loop, X_cond, Y_box, Y_un, Y_store, Y_append, Y_makeMap, Y_buildSlice, ibin_shl, ibin_shr, ibin_and, List.set_cons_zero, List.set_cons_succ, List.getD_cons_zero, List.getD_cons_succ, List.map_cons, List.map_nil, ↓reduceIte, reduceCtorEq, oneCell, List.length_cons, List.length_nil, setAt, readN, bne_iff_ne, ne_eq, Nat.reduceAdd, Nat.reduceLeDiff, List.getElem?_cons_zero, List.getElem?_cons_succ, Nat.reduceMul, Option.isSome_some, layAt, Nat.reduceLT, Option.isNone_some, Option.isNone_none, beq_self_eq_true, Nat.reduceEqDiff, setParams, Int.reduceLT, Int.reduceLE, Int.reduceGT, Int.reduceGE, Int.reduceEq, Int.reduceNe, Option.map_some, Option.map_none, Option.isSome_none]
      exact leaf2 (Or.inr (Or.inr ⟨hb, rfl, _, _, _, l', hpt, q1, Or.inl rfl, q2, q3, q4, q5⟩))
end Go.Proofs.Ytmpnldmdchchjaa
