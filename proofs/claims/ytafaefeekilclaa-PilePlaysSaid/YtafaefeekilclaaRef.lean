/-
  The reference's pile: a list in order, of which the first ones are cut off.
-/
import Derived.Test.YtafaefeekilclaaFk
import Derived.Test.YtafaefeekilclaaLst
namespace Go.Proofs.Ytafaefeekilclaa
open Go Go.Ideal Go.ChangeShapes Go.RowKit
set_option maxHeartbeats 0
set_option linter.unusedSimpArgs false
set_option linter.unusedVariables false
set_option maxRecDepth 100000
attribute [local irreducible] callV T.All T.Is run
theorem env15 : env 15 = some ir15 := rfl
theorem env16 : env 16 = some ir16 := rfl
theorem env17 : env 17 = some ir17 := rfl
theorem env19 : env 19 = some ir19 := rfl
theorem ahead_ok {n : Nat} {h : Heap} (hf : h.Fine) (x y : It) : (callV env (n + 1) (.func (.func 12) #[] #[]) [iv x, iv y] h).Is fun p => p.1 = .bool (decide (¬ le y x)) ∧ Ext h p.2 := by
  refine call_is env12 ?_
  unfold iv
  have gx : ((h.alloc (.cells [.int .i64 x.c, .int .i64 x.t, .int .i64 x.i] 1 false)).alloc (.cells [.int .i64 y.c, .int .i64 y.t, .int .i64 y.i] 1 false)).get (2 * h.next) = some (.cells [.int .i64 x.c, .int .i64 x.t, .int .i64 x.i] 1 false) := (get_alloc_old (by simp only [alloc_next]; omega)).trans (get_alloc_new hf)
  have gy : ((h.alloc (.cells [.int .i64 x.c, .int .i64 x.t, .int .i64 x.i] 1 false)).alloc (.cells [.int .i64 y.c, .int .i64 y.t, .int .i64 y.i] 1 false)).get (2 * (h.next + 1)) = some (.cells [.int .i64 y.c, .int .i64 y.t, .int .i64 y.i] 1 false) := get_alloc_new (alloc_fine hf)
  have e2 : Ext h ((h.alloc (.cells [.int .i64 x.c, .int .i64 x.t, .int .i64 x.i] 1 false)).alloc (.cells [.int .i64 y.c, .int .i64 y.t, .int .i64 y.i] 1 false)) := ((Ext.refl h).alloc _).alloc _
  by_cases h1 : x.c = y.c
  · have d1 : decide (x.c = y.c) = true := decide_eq_true h1
    by_cases h2 : x.t = y.t
    · have d2 : decide (x.t = y.t) = true := decide_eq_true h2
      simp (disch := first | assumption | omega | (simp only [wkD, oneCell, Option.isSome_some, *]; done) | (simp only [wkE, ne_eq]; omega)) only [ir12, List.append_nil, List.nil_append, List.cons_append, List.length_cons, List.length_nil, Nat.reduceAdd, Nat.reduceSub, List.replicate_succ, List.replicate_zero, gx, gy, d1, d2, wk0, wk1, wk2, wk3, wk4, wk5, X_region, X_seq, X_block, X_loop, X_cond, Y_box, Y_un, Y_store, Y_append, Y_makeMap, Y_buildSlice, ibin_shl, ibin_shr, ibin_and, List.set_cons_zero, List.set_cons_succ, List.getD_cons_zero, List.getD_cons_succ, List.map_cons, List.map_nil, ↓reduceIte, reduceCtorEq, oneCell, List.length_cons, List.length_nil, setAt, readN, bne_iff_ne, ne_eq, Nat.reduceAdd, Nat.reduceLeDiff, List.getElem?_cons_zero, List.getElem?_cons_succ, Nat.reduceMul, Option.isSome_some, layAt, Nat.reduceLT, Option.isNone_some, Option.isNone_none, beq_self_eq_true, Nat.reduceEqDiff, setParams, Int.reduceLT, Int.reduceLE, Int.reduceGT, Int.reduceGE, Int.reduceEq, Int.reduceNe, Option.map_some, Option.map_none, Option.isSome_none]
      exact leaf1 ⟨by show Value.bool _ = Value.bool _; congr 1; rw [decide_eq_decide]; unfold le; omega, e2⟩
    · have d2 : decide (x.t = y.t) = false := decide_eq_false h2
      simp (disch := first | assumption | omega | (simp only [wkD, oneCell, Option.isSome_some, *]; done) | (simp only [wkE, ne_eq]; omega)) only [ir12, List.append_nil, List.nil_append, List.cons_append, List.length_cons, List.length_nil, Nat.reduceAdd, Nat.reduceSub, List.replicate_succ, List.replicate_zero, gx, gy, d1, d2, wk0, wk1, wk2, wk3, wk4, wk5, X_region, X_seq, X_block, X_loop, X_cond, Y_box, Y_un, Y_store, Y_append, Y_makeMap, Y_buildSlice, ibin_shl, ibin_shr, ibin_and, List.set_cons_zero, List.set_cons_succ, List.getD_cons_zero, List.getD_cons_succ, List.map_cons, List.map_nil, ↓reduceIte, reduceCtorEq, oneCell, List.length_cons, List.length_nil, setAt, readN, bne_iff_ne, ne_eq, Nat.reduceAdd, Nat.reduceLeDiff, List.getElem?_cons_zero, List.getElem?_cons_succ, Nat.reduceMul, Option.isSome_some, layAt, Nat.reduceLT, Option.isNone_some, Option.isNone_none, beq_self_eq_true, Nat.reduceEqDiff, setParams, Int.reduceLT, Int.reduceLE, Int.reduceGT, Int.reduceGE, Int.reduceEq, Int.reduceNe, Option.map_some, Option.map_none, Option.isSome_none]
      exact leaf1 ⟨by show Value.bool _ = Value.bool _; congr 1; rw [decide_eq_decide]; unfold le; omega, e2⟩
  · simp (disch := first | assumption | omega | (simp only [wkD, oneCell, Option.isSome_some, *]; done) | (simp only [wkE, ne_eq]; omega)) only [ir12, List.append_nil, List.nil_append, List.cons_append, List.length_cons, List.length_nil, Nat.reduceAdd, Nat.reduceSub, List.replicate_succ, List.replicate_zero, gx, gy, h1, wk0, wk1, wk2, wk3, wk4, wk5, X_region, X_seq, X_block, X_loop, X_cond, Y_box, Y_un, Y_store, Y_append, Y_makeMap, Y_buildSlice, ibin_shl, ibin_shr, ibin_and, List.set_cons_zero, List.set_cons_succ, List.getD_cons_zero, List.getD_cons_succ, List.map_cons, List.map_nil, ↓reduceIte, reduceCtorEq, oneCell, List.length_cons, List.length_nil, setAt, readN, bne_iff_ne, ne_eq, Nat.reduceAdd, Nat.reduceLeDiff, List.getElem?_cons_zero, List.getElem?_cons_succ, Nat.reduceMul, Option.isSome_some, layAt, Nat.reduceLT, Option.isNone_some, Option.isNone_none, beq_self_eq_true, Nat.reduceEqDiff, setParams, Int.reduceLT, Int.reduceLE, Int.reduceGT, Int.reduceGE, Int.reduceEq, Int.reduceNe, Option.map_some, Option.map_none, Option.isSome_none]
    exact leaf1 ⟨by show Value.bool _ = Value.bool _; congr 1; rw [decide_eq_decide]; unfold le; omega, e2⟩


theorem eqV (x y : It) : vEqAgg true [.int, .int, .int] (iv x) (iv y) = some (.bool (decide (x ≠ y))) := by
  obtain ⟨a, b, c⟩ := x
  obtain ⟨d, e, f⟩ := y
  have ha : ((a == d) = decide (a = d)) := rfl
  have hb : ((b == e) = decide (b = e)) := rfl
  have hc : ((c == f) = decide (c = f)) := rfl
  unfold vEqAgg aggEq iv
  by_cases h1 : a = d <;> by_cases h2 : b = e <;> by_cases h3 : c = f <;> simp [cellsEq, cellEq, ha, hb, hc, h1, h2, h3]
theorem ins_first {x : It} : ∀ {S : List It}, (∀ y ∈ S, le x y) → ins x S = x :: S
  | [], _ => rfl
  | y :: S, h => by rw [ins, if_pos (h y (by simp))]
theorem ins_split (x : It) : ∀ (S : List It) (k : Nat), Sorted S → (∀ j, j < k → le (nth S j) x) → (k < S.length → ¬ le (nth S k) x) → k ≤ S.length → S.take k ++ x :: S.drop k = ins x S
  | [], k, _, _, _, hk => by
    have : k = 0 := by simpa using hk
    subst this; rfl
  | y :: l, 0, _, _, h, _ => by
    have h1 : ¬ le y x := h (by simp)
    rw [ins, if_pos ((le_total x y).resolve_right h1)]
    rfl
  | y :: l, k + 1, hs, h1, h2, hk => by
    have hy : le y x := h1 0 (by omega)
    have ih := ins_split x l k hs.2 (fun j hj => h1 (j + 1) (by omega)) (fun hj => h2 (by simpa using hj)) (by simpa using hk)
    show y :: (l.take k ++ x :: l.drop k) = _
    rw [ih, ins]
    split
    · rename_i hx
      have e : x = y := le_anti hx hy
      subst e
      rw [ins_first hs.1]
    · rfl

/-- A slice of items in a block of its own, behind items that were cut off. -/
def Vr (v : Value) (l : List It) : Rs := Rs.ex fun w : Value => Rs.ex fun pre : List It => Rs.and (∃ p c, w = .slice p (pre ++ l).length c ∧ v = .slice (p.map fun a : Addr => { block := a.block, off := a.off + pre.length * 3, spot := a.spot }) l.length (c - pre.length)) (Sc 3 ic w (pre ++ l))
def Qq (qb : Nat) (S : List It) : Rs := Rs.ex fun v : Value => Rs.star (Ob qb (.cells [v] 1 false)) (Vr v S)
def spotsOk (p : Option Addr) : Prop := p.all (spotOk 3) = true

section
variable {ro : Nat → Option (List Value × Nat)} {h : Heap} {R : List Rs} {qb : Nat} {S l : List It} {v : Value}

theorem Has.vr (O : Has ro h (Vr v l :: R)) : Vw 3 ic h v l ∧ ∃ p c, v = .slice p l.length c ∧ l.length ≤ c ∧ spotsOk p := by
  obtain ⟨w, O1⟩ := Has.ex.1 O
  obtain ⟨pre, O2⟩ := Has.ex.1 O1
  obtain ⟨⟨p, c, rfl, rfl⟩, O3⟩ := Has.and.1 O2
  rcases O3.scOpen with ⟨e, hw, _⟩ | ⟨b, c', rest, sp, zz, t, hw, b2, b3, b4, O4⟩
  · injection hw with h1 h2 h3
    subst h1
    have hl : l = [] := (List.append_eq_nil_iff.1 e).2
    subst hl
    exact ⟨Vw.nil _ _ _, none, _, rfl, by simp, rfl⟩
  · injection hw with h1 h2 h3
    subst h1 h3
    have hc : l.length ≤ c - pre.length := by rw [List.length_append] at b2; omega
    obtain ⟨q1, q2, q3, q4, q5⟩ := O4.info (i := 0) rfl
    refine ⟨⟨_, _, rfl, hc, fun _ => ⟨b, 0 + pre.length * 3, sp, pre.flatMap ic, rest, zz, t, rfl, by rcases b4 with ⟨e, _⟩ | e <;> simp [e], by rw [flatMap_len ic_len, Nat.zero_add], ?_, Or.inr q4⟩⟩, _, _, rfl, hc, ?_⟩
    · rw [List.flatMap_append, List.append_assoc] at q1
      exact q1
    · show spotOk 3 _ = true
      rcases b4 with ⟨e, _⟩ | e
      · subst e; exact spotOk_some
      · subst e; exact spotOk_none
theorem Has.mkVr (O : Has ro h (Sc 3 ic v l :: R)) : Has ro h (Vr v l :: R) := by
  obtain ⟨p, c, rfl, _⟩ := O.scVal 0 rfl
  refine Has.ex.2 ⟨_, Has.ex.2 ⟨[], Has.and.2 ⟨⟨p, c, rfl, ?_⟩, O⟩⟩⟩
  cases p <;> rfl
theorem Has.vrTail {p : Option Addr} {n c : Nat} {x : It} (O : Has ro h (Vr (.slice p n c) (x :: l) :: R)) : Has ro h (Vr (.slice (p.map fun a : Addr => { block := a.block, off := a.off + 1 * 3, spot := a.spot }) (n - 1) (c - 1)) l :: R) := by
  obtain ⟨w, O1⟩ := Has.ex.1 O
  obtain ⟨pre, O2⟩ := Has.ex.1 O1
  obtain ⟨⟨p', c', rfl, hv⟩, O3⟩ := Has.and.1 O2
  injection hv with h1 h2 h3
  subst h1 h2 h3
  have e : pre ++ x :: l = (pre ++ [x]) ++ l := by simp
  rw [e] at O3
  refine Has.ex.2 ⟨_, Has.ex.2 ⟨pre ++ [x], Has.and.2 ⟨⟨p', c', rfl, ?_⟩, O3⟩⟩⟩
  have e1 : c' - pre.length - 1 = c' - (pre ++ [x]).length := by rw [List.length_append]; rfl
  have e2 : (x :: l).length - 1 = l.length := rfl
  rw [e1, e2]
  cases p' with
  | none => rfl
  | some a =>
    have e3 : a.off + pre.length * 3 + 1 * 3 = a.off + (pre ++ [x]).length * 3 := by
      rw [List.length_append]
      simp only [List.length_cons, List.length_nil]
      omega
    simp only [Option.map_some, e3]

theorem vw_take {p : Option Addr} {n c k : Nat} (V : Vw 3 ic h (.slice p n c) l) (hs : spotsOk p) (hk : k ≤ l.length) : vSlice 3 (.slice p n c) none (some (.int .i64 (k : Int))) none false = some (.slice p k c) ∧ Vw 3 ic h (.slice p k c) (l.take k) := by
  obtain ⟨p', c', hv, hc, g⟩ := V
  injection hv with h1 h2 h3
  subst h1 h2 h3
  have hl : (l.take k).length = k := by rw [List.length_take]; omega
  constructor
  · cases p with
    | none =>
      have e := bounds_h (len := l.length) (cap := c) (hi := k) (k' := .i64) (by omega)
      simp only [vSlice, e]
      rfl
    | some a =>
      obtain ⟨b, off, sp⟩ := a
      exact vSlice_h (by omega) hs
  · refine ⟨p, c, by rw [hl], by omega, fun h0 => ?_⟩
    obtain ⟨b, off, sp, A, B, zz, t, g1, g2, g3, g4, g5⟩ := g (by omega)
    refine ⟨b, off, sp, A, (l.drop k).flatMap ic ++ B, zz, t, g1, g2, g3, ?_, g5⟩
    rw [g4, ← List.append_assoc ((l.take k).flatMap ic), ← List.flatMap_append, List.take_append_drop]
theorem vw_drop {p : Option Addr} {n c k : Nat} (V : Vw 3 ic h (.slice p n c) l) (hs : spotsOk p) (hk : k ≤ l.length) : vSlice 3 (.slice p n c) (some (.int .i64 (k : Int))) none none false = some (.slice (p.map fun a : Addr => { block := a.block, off := a.off + k * 3, spot := a.spot }) (n - k) (c - k)) ∧ Vw 3 ic h (.slice (p.map fun a : Addr => { block := a.block, off := a.off + k * 3, spot := a.spot }) (n - k) (c - k)) (l.drop k) := by
  obtain ⟨p', c', hv, hc, g⟩ := V
  injection hv with h1 h2 h3
  subst h1 h2 h3
  have hl : (l.drop k).length = l.length - k := List.length_drop
  constructor
  · cases p with
    | none =>
      have e := bounds_l (len := l.length) (cap := c) (lo := k) (k := .i64) (by omega)
      simp only [vSlice, e]
      rfl
    | some a =>
      obtain ⟨b, off, sp⟩ := a
      exact vSlice_l (by omega) hs
  · refine ⟨_, _, by rw [hl], by omega, fun h0 => ?_⟩
    obtain ⟨b, off, sp, A, B, zz, t, rfl, g2, g3, g4, g5⟩ := g (by omega)
    refine ⟨b, off + k * 3, sp, A ++ (l.take k).flatMap ic, B, zz, t, rfl, g2, ?_, ?_, g5⟩
    · rw [List.length_append, flatMap_len ic_len, List.length_take, g3]; congr 2; omega
    · rw [g4, List.append_assoc, ← List.append_assoc ((l.take k).flatMap ic), ← List.flatMap_append, List.take_append_drop]
theorem rdW {p : Option Addr} {n c : Nat} (V : Vw 3 ic h (.slice p n c) l) {i : Nat} (hi : i < l.length) : ∃ (b off : Nat) (sp : Option Nat), p = some ⟨b, off, sp⟩ ∧ readC (h.get b) (off + i * 3) 3 = some (ic (nth l i)) := by
  obtain ⟨b, off, sp, c, hv, _, k⟩ := V.rd ic_len (nth_get hi)
  cases hv
  exact ⟨b, off, sp, rfl, k⟩

theorem Has.qq (O : Has ro h (Qq qb S :: R)) : ∃ p c, S.length ≤ c ∧ spotsOk p ∧ Vw 3 ic h (.slice p S.length c) S ∧ Has ro h (Ob qb (.cells [.slice p S.length c] 1 false) :: Vr (.slice p S.length c) S :: R) := by
  obtain ⟨v, O1⟩ := Has.ex.1 O
  replace O1 := Has.star.1 O1
  obtain ⟨V, p, c, rfl, hc, hs⟩ := Has.vr O1.swap2.swap2.swap2
  exact ⟨p, c, hc, hs, V, O1⟩
theorem Has.mkQq (O : Has ro h (Ob qb (.cells [v] 1 false) :: Vr v S :: R)) : Has ro h (Qq qb S :: R) := Has.ex.2 ⟨v, Has.star.2 O⟩
theorem Has.newQq (O : Has ro h (Ob qb (.cells [.slice none 0 0] 1 false) :: R)) : Has ro h (Qq qb [] :: R) := Has.mkQq (Has.mkVr O.scNil).swap2

theorem same_ok {n : Nat} {v w : Value} (V : Vw 3 ic h v S) (W : Vw 3 ic h w S) (hn : S.length + 20 < n) (hl : S.length < 100000) :
    (callV env (n + 1) (.func (.func 19) #[] #[]) [v, w] h).Is fun p => p = (.bool true, h) := by
  refine call_is env19 ?_
  obtain ⟨p, c, rfl, _⟩ := V.len
  obtain ⟨q, d, rfl, _⟩ := W.len
  have d0 : decide ((S.length : Int) = (S.length : Int)) = true := decide_eq_true rfl
  simp (disch := first | assumption | omega | (simp only [wkD, oneCell, Option.isSome_some, *]; done) | (simp only [wkE, ne_eq]; omega)) only [ir19, List.append_nil, List.nil_append, List.cons_append, List.length_cons, List.length_nil, Nat.reduceAdd, Nat.reduceSub, List.replicate_succ, List.replicate_zero, d0, wk0, wk1, wk2, wk3, wk4, wk5, X_region, X_seq, X_block, X_loop, X_cond, Y_box, Y_un, Y_store, Y_append, Y_makeMap, Y_buildSlice, ibin_shl, ibin_shr, ibin_and, List.set_cons_zero, List.set_cons_succ, List.getD_cons_zero, List.getD_cons_succ, List.map_cons, List.map_nil, ↓reduceIte, reduceCtorEq, oneCell, List.length_cons, List.length_nil, setAt, readN, bne_iff_ne, ne_eq, Nat.reduceAdd, Nat.reduceLeDiff, List.getElem?_cons_zero, List.getElem?_cons_succ, Nat.reduceMul, Option.isSome_some, layAt, Nat.reduceLT, Option.isNone_some, Option.isNone_none, beq_self_eq_true, Nat.reduceEqDiff, setParams, Int.reduceLT, Int.reduceLE, Int.reduceGT, Int.reduceGE, Int.reduceEq, Int.reduceNe, Option.map_some, Option.map_none, Option.isSome_none]
  refine L_is (fun k s => ∃ (i : Nat), s.defers = [] ∧ s.tmps.length = 26 ∧ s.tmps.getD 0 undefV = .slice p S.length c ∧ s.tmps.getD 1 undefV = .slice q S.length d ∧ s.tmps.getD 12 undefV = .int .i64 (S.length : Int) ∧ s.tmps.getD 13 undefV = .int .i64 (i : Int) ∧ k = S.length - i ∧ i ≤ S.length ∧ s.h = h) S.length ?_ (by omega) ?_
  · exact ⟨0, rfl, rfl, rfl, rfl, rfl, rfl, rfl, by omega, rfl⟩
  rintro q_ tm df h2 ⟨i, hd, hlen_, g0, g1, g12, g13, hq, hi, hh⟩
  simp only at hd g0 g1 g12 g13 hh
  subst hd
  obtain ⟨w, hg_, rfl⟩ := explode hlen_
  simp only [hg_] at g0 g1 g12 g13
  clear hlen_ hg_
  subst hh
  by_cases hlt : i < S.length
  · have hlt' : (i : Int) < (S.length : Int) := by omega
    have c0 : (0 : Int) ≤ (i : Int) := by omega
    have y1 : IntKind.i64.wrap ((i : Int) + 1) = ((i + 1 : Nat) : Int) := by rw [wrap_i64 (by omega) (by omega)]; omega
    obtain ⟨b1, o1, sp1, rfl, r1⟩ := rdW V hlt
    obtain ⟨b2, o2, sp2, rfl, r2⟩ := rdW W hlt
    simp (disch := first | assumption | omega | (simp only [wkD, oneCell, Option.isSome_some, *]; done) | (simp only [wkE, ne_eq]; omega)) only [g0, g1, g12, g13, hlt', wk0, wk1, wk2, wk3, wk4, wk5, X_region, X_seq, X_block, X_loop, X_cond, Y_box, Y_un, Y_store, Y_append, Y_makeMap, Y_buildSlice, ibin_shl, ibin_shr, ibin_and, List.set_cons_zero, List.set_cons_succ, List.getD_cons_zero, List.getD_cons_succ, List.map_cons, List.map_nil, ↓reduceIte, reduceCtorEq, oneCell, List.length_cons, List.length_nil, setAt, readN, bne_iff_ne, ne_eq, Nat.reduceAdd, Nat.reduceLeDiff, List.getElem?_cons_zero, List.getElem?_cons_succ, Nat.reduceMul, Option.isSome_some, layAt, Nat.reduceLT, Option.isNone_some, Option.isNone_none, beq_self_eq_true, Nat.reduceEqDiff, setParams, Int.reduceLT, Int.reduceLE, Int.reduceGT, Int.reduceGE, Int.reduceEq, Int.reduceNe, Option.map_some, Option.map_none, Option.isSome_none]
    refine X_drawn _ fun an => ?_
    simp (disch := first | assumption | omega | (simp only [wkD, oneCell, Option.isSome_some, *]; done) | (simp only [wkE, ne_eq]; omega)) only [g0, g1, g12, g13, hlt', c0, r1, r2, Int.toNat_natCast, agg_ic, eqV, y1, wk0, wk1, wk2, wk3, wk4, wk5, X_region, X_seq, X_block, X_loop, X_cond, Y_box, Y_un, Y_store, Y_append, Y_makeMap, Y_buildSlice, ibin_shl, ibin_shr, ibin_and, List.set_cons_zero, List.set_cons_succ, List.getD_cons_zero, List.getD_cons_succ, List.map_cons, List.map_nil, ↓reduceIte, reduceCtorEq, oneCell, List.length_cons, List.length_nil, setAt, readN, bne_iff_ne, ne_eq, Nat.reduceAdd, Nat.reduceLeDiff, List.getElem?_cons_zero, List.getElem?_cons_succ, Nat.reduceMul, Option.isSome_some, layAt, Nat.reduceLT, Option.isNone_some, Option.isNone_none, beq_self_eq_true, Nat.reduceEqDiff, setParams, Int.reduceLT, Int.reduceLE, Int.reduceGT, Int.reduceGE, Int.reduceEq, Int.reduceNe, Option.map_some, Option.map_none, Option.isSome_none]
    exact Is_in ⟨S.length - (i + 1), by omega, i + 1, rfl, rfl, rfl, rfl, rfl, rfl, rfl, by omega, rfl⟩
  · have hlt' : ¬ (i : Int) < (S.length : Int) := by omega
    simp (disch := first | assumption | omega | (simp only [wkD, oneCell, Option.isSome_some, *]; done) | (simp only [wkE, ne_eq]; omega)) only [g0, g1, g12, g13, hlt', wk0, wk1, wk2, wk3, wk4, wk5, X_region, X_seq, X_block, X_loop, X_cond, Y_box, Y_un, Y_store, Y_append, Y_makeMap, Y_buildSlice, ibin_shl, ibin_shr, ibin_and, List.set_cons_zero, List.set_cons_succ, List.getD_cons_zero, List.getD_cons_succ, List.map_cons, List.map_nil, ↓reduceIte, reduceCtorEq, oneCell, List.length_cons, List.length_nil, setAt, readN, bne_iff_ne, ne_eq, Nat.reduceAdd, Nat.reduceLeDiff, List.getElem?_cons_zero, List.getElem?_cons_succ, Nat.reduceMul, Option.isSome_some, layAt, Nat.reduceLT, Option.isNone_some, Option.isNone_none, beq_self_eq_true, Nat.reduceEqDiff, setParams, Int.reduceLT, Int.reduceLE, Int.reduceGT, Int.reduceGE, Int.reduceEq, Int.reduceNe, Option.map_some, Option.map_none, Option.isSome_none]
    refine Is_in ?_
    simp (disch := first | assumption | omega | (simp only [wkD, oneCell, Option.isSome_some, *]; done) | (simp only [wkE, ne_eq]; omega)) only [g0, g1, g12, g13, wk0, wk1, wk2, wk3, wk4, wk5, X_region, X_seq, X_block, X_loop, X_cond, Y_box, Y_un, Y_store, Y_append, Y_makeMap, Y_buildSlice, ibin_shl, ibin_shr, ibin_and, List.set_cons_zero, List.set_cons_succ, List.getD_cons_zero, List.getD_cons_succ, List.map_cons, List.map_nil, ↓reduceIte, reduceCtorEq, oneCell, List.length_cons, List.length_nil, setAt, readN, bne_iff_ne, ne_eq, Nat.reduceAdd, Nat.reduceLeDiff, List.getElem?_cons_zero, List.getElem?_cons_succ, Nat.reduceMul, Option.isSome_some, layAt, Nat.reduceLT, Option.isNone_some, Option.isNone_none, beq_self_eq_true, Nat.reduceEqDiff, setParams, Int.reduceLT, Int.reduceLE, Int.reduceGT, Int.reduceGE, Int.reduceEq, Int.reduceNe, Option.map_some, Option.map_none, Option.isSome_none]
    exact leaf1 rfl

theorem rtop_h {n : Nat} (O : Has ro h (Qq qb S :: R)) : (callV env (n + 1) (.func (.func 16) #[] #[]) [.pointer (some ⟨qb, 0, none⟩)] h).Is fun p => p.1 = .tuple #[iv (hd S), .bool (!S.isEmpty)] ∧ Has ro p.2 (Qq qb S :: R) := by
  refine call_is env16 ?_
  simp (disch := first | assumption | omega | (simp only [wkD, oneCell, Option.isSome_some, *]; done) | (simp only [wkE, ne_eq]; omega)) only [ir16, List.append_nil, List.nil_append, List.cons_append, List.length_cons, List.length_nil, Nat.reduceAdd, Nat.reduceSub, List.replicate_succ, List.replicate_zero, wk0, wk1, wk2, wk3, wk4, wk5, X_region, X_seq, X_block, X_loop, X_cond, Y_un, Y_store, Y_append, Y_makeMap, Y_buildSlice, ibin_shl, ibin_shr, ibin_and, List.set_cons_zero, List.set_cons_succ, List.getD_cons_zero, List.getD_cons_succ, List.map_cons, List.map_nil, ↓reduceIte, reduceCtorEq, oneCell, List.length_cons, List.length_nil, setAt, readN, bne_iff_ne, ne_eq, Nat.reduceAdd, Nat.reduceLeDiff, List.getElem?_cons_zero, List.getElem?_cons_succ, Nat.reduceMul, Option.isSome_some, layAt, Nat.reduceLT, Option.isNone_some, Option.isNone_none, beq_self_eq_true, Nat.reduceEqDiff, setParams, Int.reduceLT, Int.reduceLE, Int.reduceGT, Int.reduceGE, Int.reduceEq, Int.reduceNe, Option.map_some, Option.map_none, Option.isSome_none]
  refine Y_boxO O ?_
  intro xb h1 O1 e1
  obtain ⟨p, c, hc, hs, V, O2⟩ := Has.qq (O1.at 1 rfl)
  simp only [List.eraseIdx_cons_succ, List.eraseIdx_cons_zero] at O2
  have gq := O2.get 0 rfl
  have gx := O2.get 2 rfl
  have px := O2.can 2 rfl
  cases hS : S with
  | nil =>
    subst hS
    have O3 := O2.set 2 rfl (.cells (ic it0) 1 false)
    simp only [List.set_cons_succ, List.set_cons_zero] at O3
    have cz : [Value.int .i64 0, .int .i64 0, .int .i64 0] = ic it0 := rfl
    simp (disch := first | assumption | omega | (simp only [wkD, oneCell, Option.isSome_some, *]; done) | (simp only [wkE, ne_eq]; omega)) only [gq, List.length_nil, Int.natCast_zero, cellsOf_agg, wk0, wk1, wk2, wk3, wk4, wk5, X_region, X_seq, X_block, X_loop, X_cond, Y_box, Y_un, Y_store, Y_append, Y_makeMap, Y_buildSlice, ibin_shl, ibin_shr, ibin_and, List.set_cons_zero, List.set_cons_succ, List.getD_cons_zero, List.getD_cons_succ, List.map_cons, List.map_nil, ↓reduceIte, reduceCtorEq, oneCell, List.length_cons, List.length_nil, setAt, readN, bne_iff_ne, ne_eq, Nat.reduceAdd, Nat.reduceLeDiff, List.getElem?_cons_zero, List.getElem?_cons_succ, Nat.reduceMul, Option.isSome_some, layAt, Nat.reduceLT, Option.isNone_some, Option.isNone_none, beq_self_eq_true, Nat.reduceEqDiff, setParams, Int.reduceLT, Int.reduceLE, Int.reduceGT, Int.reduceGE, Int.reduceEq, Int.reduceNe, Option.map_some, Option.map_none, Option.isSome_none]
    simp (disch := first | assumption | omega | (simp only [wkD, oneCell, Option.isSome_some, *]; done) | (simp only [wkE, ne_eq]; omega)) only [gx, px, cz, set_ic', ic_len, ic_one, wk0, wk1, wk2, wk3, wk4, wk5, X_region, X_seq, X_block, X_loop, X_cond, Y_box, Y_un, Y_store, Y_append, Y_makeMap, Y_buildSlice, ibin_shl, ibin_shr, ibin_and, List.set_cons_zero, List.set_cons_succ, List.getD_cons_zero, List.getD_cons_succ, List.map_cons, List.map_nil, ↓reduceIte, reduceCtorEq, oneCell, List.length_cons, List.length_nil, setAt, readN, bne_iff_ne, ne_eq, Nat.reduceAdd, Nat.reduceLeDiff, List.getElem?_cons_zero, List.getElem?_cons_succ, Nat.reduceMul, Option.isSome_some, layAt, Nat.reduceLT, Option.isNone_some, Option.isNone_none, beq_self_eq_true, Nat.reduceEqDiff, setParams, Int.reduceLT, Int.reduceLE, Int.reduceGT, Int.reduceGE, Int.reduceEq, Int.reduceNe, Option.map_some, Option.map_none, Option.isSome_none]
    refine leafO _ (answer2 _ _ _ _ (cellN O3 2 rfl rfl rfl) rfl) ⟨rfl, ?_⟩
    exact Has.mkQq (O3.rid 2 rfl)
  | cons x S' =>
    rw [← hS]
    have h0 : 0 < S.length := by rw [hS]; simp
    have d0 : decide ((S.length : Int) = 0) = false := decide_eq_false (by omega)
    have hx : nth S 0 = x := by rw [hS]; rfl
    have hh : hd S = x := by rw [hS]; rfl
    have he : S.isEmpty = false := by rw [hS]; rfl
    clear hS
    obtain ⟨b1, o1, sp1, rfl, r1⟩ := rdW V h0
    rw [hx] at r1
    rw [Nat.zero_mul, Nat.add_zero] at r1
    have c0 : (0 : Int) < (S.length : Int) := by omega
    have O3 := O2.set 2 rfl (.cells (ic x) 1 false)
    simp only [List.set_cons_succ, List.set_cons_zero] at O3
    simp (disch := first | assumption | omega | (simp only [wkD, oneCell, Option.isSome_some, *]; done) | (simp only [wkE, ne_eq]; omega)) only [gq, d0, r1, c0, agg_ic, gx, px, set_ic', iv_cells, ic_len, ic_one, wk0, wk1, wk2, wk3, wk4, wk5, X_region, X_seq, X_block, X_loop, X_cond, Y_box, Y_un, Y_store, Y_append, Y_makeMap, Y_buildSlice, ibin_shl, ibin_shr, ibin_and, List.set_cons_zero, List.set_cons_succ, List.getD_cons_zero, List.getD_cons_succ, List.map_cons, List.map_nil, ↓reduceIte, reduceCtorEq, oneCell, List.length_cons, List.length_nil, setAt, readN, bne_iff_ne, ne_eq, Nat.reduceAdd, Nat.reduceLeDiff, List.getElem?_cons_zero, List.getElem?_cons_succ, Nat.reduceMul, Option.isSome_some, layAt, Nat.reduceLT, Option.isNone_some, Option.isNone_none, beq_self_eq_true, Nat.reduceEqDiff, setParams, Int.reduceLT, Int.reduceLE, Int.reduceGT, Int.reduceGE, Int.reduceEq, Int.reduceNe, Option.map_some, Option.map_none, Option.isSome_none]
    refine leafO _ (answer2 _ _ _ _ (cellN O3 2 rfl rfl rfl) rfl) ⟨by rw [hh, he]; rfl, ?_⟩
    exact Has.mkQq (O3.rid 2 rfl)
theorem rpush_h {n : Nat} (hn : S.length + 20 < n) (hl : S.length < 60000) (hs : Sorted S) (O : Has ro h (Qq qb S :: R)) (x : It) :
    (callV env (n + 2) (.func (.func 15) #[] #[]) [.pointer (some ⟨qb, 0, none⟩), iv x] h).Is fun p => Has ro p.2 (Qq qb (ins x S) :: R) := by
  refine call_is env15 ?_
  simp (disch := first | assumption | omega | (simp only [wkD, oneCell, Option.isSome_some, *]; done) | (simp only [wkE, ne_eq]; omega)) only [ir15, List.append_nil, List.nil_append, List.cons_append, List.length_cons, List.length_nil, Nat.reduceAdd, Nat.reduceSub, List.replicate_succ, List.replicate_zero, wk0, wk1, wk2, wk3, wk4, wk5, X_region, X_seq, X_block, X_loop, X_cond, Y_un, Y_store, Y_append, Y_makeMap, Y_buildSlice, ibin_shl, ibin_shr, ibin_and, List.set_cons_zero, List.set_cons_succ, List.getD_cons_zero, List.getD_cons_succ, List.map_cons, List.map_nil, ↓reduceIte, reduceCtorEq, oneCell, List.length_cons, List.length_nil, setAt, readN, bne_iff_ne, ne_eq, Nat.reduceAdd, Nat.reduceLeDiff, List.getElem?_cons_zero, List.getElem?_cons_succ, Nat.reduceMul, Option.isSome_some, layAt, Nat.reduceLT, Option.isNone_some, Option.isNone_none, beq_self_eq_true, Nat.reduceEqDiff, setParams, Int.reduceLT, Int.reduceLE, Int.reduceGT, Int.reduceGE, Int.reduceEq, Int.reduceNe, Option.map_some, Option.map_none, Option.isSome_none]
  refine Y_boxO O ?_
  intro xb h1 O1 e1
  replace O1 : Has ro h1 (Ob xb (.cells (ic x) 1 false) :: Qq qb S :: R) := O1
  obtain ⟨p, c, hc, hsp, V, O2⟩ := Has.qq (O1.at 1 rfl)
  simp only [List.eraseIdx_cons_succ, List.eraseIdx_cons_zero] at O2
  clear O1 V O e1
  simp (disch := first | assumption | omega | (simp only [wkD, oneCell, Option.isSome_some, *]; done) | (simp only [wkE, ne_eq]; omega)) only [wk0, wk1, wk2, wk3, wk4, wk5, X_region, X_seq, X_block, X_loop, X_cond, Y_box, Y_un, Y_store, Y_append, Y_makeMap, Y_buildSlice, ibin_shl, ibin_shr, ibin_and, List.set_cons_zero, List.set_cons_succ, List.getD_cons_zero, List.getD_cons_succ, List.map_cons, List.map_nil, ↓reduceIte, reduceCtorEq, oneCell, List.length_cons, List.length_nil, setAt, readN, bne_iff_ne, ne_eq, Nat.reduceAdd, Nat.reduceLeDiff, List.getElem?_cons_zero, List.getElem?_cons_succ, Nat.reduceMul, Option.isSome_some, layAt, Nat.reduceLT, Option.isNone_some, Option.isNone_none, beq_self_eq_true, Nat.reduceEqDiff, setParams, Int.reduceLT, Int.reduceLE, Int.reduceGT, Int.reduceGE, Int.reduceEq, Int.reduceNe, Option.map_some, Option.map_none, Option.isSome_none]
  refine L_cut1 (fun s => ∃ k : Nat, s.tmps.length = 49 ∧ s.tmps.getD 0 undefV = .pointer (some ⟨qb, 0, none⟩) ∧ s.tmps.getD 3 undefV = .pointer (some ⟨xb, 0, none⟩) ∧ s.tmps.getD 4 undefV = .int .i64 (k : Int) ∧ Has ro s.h (Ob qb (.cells [.slice p S.length c] 1 false) :: Vr (.slice p S.length c) S :: Ob xb (.cells (ic x) 1 false) :: R) ∧ k ≤ S.length ∧ (∀ j, j < k → le (nth S j) x) ∧ (k < S.length → ¬ le (nth S k) x)) ?_ ?_
  · refine L_is (fun q s => ∃ (i : Nat), s.defers = [] ∧ s.tmps.length = 49 ∧ s.tmps.getD 0 undefV = .pointer (some ⟨qb, 0, none⟩) ∧ s.tmps.getD 3 undefV = .pointer (some ⟨xb, 0, none⟩) ∧ s.tmps.getD 4 undefV = .int .i64 (i : Int) ∧ q = S.length - i ∧ i ≤ S.length ∧ (∀ j, j < i → le (nth S j) x) ∧ Has ro s.h (Ob qb (.cells [.slice p S.length c] 1 false) :: Vr (.slice p S.length c) S :: Ob xb (.cells (ic x) 1 false) :: R)) S.length ?_ (by omega) ?_
    · exact ⟨0, rfl, rfl, rfl, rfl, rfl, rfl, by omega, fun j hj => by omega, O2⟩
    clear O2
    rintro q_ tm df h2 ⟨i, hd, hlen_, g0, g3, g4, hq, hi, hle, O⟩
    simp only at hd g0 g3 g4 O
    subst hd
    obtain ⟨w, hg_, rfl⟩ := explode hlen_
    simp only [hg_] at g0 g3 g4
    clear hlen_ hg_
    have gq := O.get 0 rfl
    have gx := O.get 2 rfl
    by_cases hlt : i < S.length
    · have hlt' : (i : Int) < (S.length : Int) := by omega
      have c0 : (0 : Int) ≤ (i : Int) := by omega
      have y1 : IntKind.i64.wrap ((i : Int) + 1) = ((i + 1 : Nat) : Int) := by rw [wrap_i64 (by omega) (by omega)]; omega
      obtain ⟨b1, o1, sp1, rfl, r1⟩ := rdW (Has.vr (O.at 1 rfl)).1 hlt
      simp (disch := first | assumption | omega | (simp only [wkD, oneCell, Option.isSome_some, *]; done) | (simp only [wkE, ne_eq]; omega)) only [g0, g3, g4, gq, hlt', wk0, wk1, wk2, wk3, wk4, wk5, X_region, X_seq, X_block, X_loop, X_cond, Y_box, Y_un, Y_store, Y_append, Y_makeMap, Y_buildSlice, ibin_shl, ibin_shr, ibin_and, List.set_cons_zero, List.set_cons_succ, List.getD_cons_zero, List.getD_cons_succ, List.map_cons, List.map_nil, ↓reduceIte, reduceCtorEq, oneCell, List.length_cons, List.length_nil, setAt, readN, bne_iff_ne, ne_eq, Nat.reduceAdd, Nat.reduceLeDiff, List.getElem?_cons_zero, List.getElem?_cons_succ, Nat.reduceMul, Option.isSome_some, layAt, Nat.reduceLT, Option.isNone_some, Option.isNone_none, beq_self_eq_true, Nat.reduceEqDiff, setParams, Int.reduceLT, Int.reduceLE, Int.reduceGT, Int.reduceGE, Int.reduceEq, Int.reduceNe, Option.map_some, Option.map_none, Option.isSome_none]
      refine X_drawn _ fun an => ?_
      simp (disch := first | assumption | omega | (simp only [wkD, oneCell, Option.isSome_some, *]; done) | (simp only [wkE, ne_eq]; omega)) only [g0, g3, g4, gq, gx, c0, hlt', r1, ic_len, tk_ic, rd_full, agg_ic, Int.toNat_natCast, wk0, wk1, wk2, wk3, wk4, wk5, X_region, X_seq, X_block, X_loop, X_cond, Y_box, Y_un, Y_store, Y_append, Y_makeMap, Y_buildSlice, ibin_shl, ibin_shr, ibin_and, List.set_cons_zero, List.set_cons_succ, List.getD_cons_zero, List.getD_cons_succ, List.map_cons, List.map_nil, ↓reduceIte, reduceCtorEq, oneCell, List.length_cons, List.length_nil, setAt, readN, bne_iff_ne, ne_eq, Nat.reduceAdd, Nat.reduceLeDiff, List.getElem?_cons_zero, List.getElem?_cons_succ, Nat.reduceMul, Option.isSome_some, layAt, Nat.reduceLT, Option.isNone_some, Option.isNone_none, beq_self_eq_true, Nat.reduceEqDiff, setParams, Int.reduceLT, Int.reduceLE, Int.reduceGT, Int.reduceGE, Int.reduceEq, Int.reduceNe, Option.map_some, Option.map_none, Option.isSome_none]
      refine DB_is (ahead_ok (n := n) O.fine x (nth S i)) ?_
      rintro v3 h3 ⟨rfl, e3⟩
      simp only at e3
      have O3 := O.ext e3
      by_cases hx : le (nth S i) x
      · have d1 : decide (¬ le (nth S i) x) = false := decide_eq_false (fun e => e hx)
        simp (disch := first | assumption | omega | (simp only [wkD, oneCell, Option.isSome_some, *]; done) | (simp only [wkE, ne_eq]; omega)) only [g0, g3, g4, d1, y1, wk0, wk1, wk2, wk3, wk4, wk5, X_region, X_seq, X_block, X_loop, X_cond, Y_box, Y_un, Y_store, Y_append, Y_makeMap, Y_buildSlice, ibin_shl, ibin_shr, ibin_and, List.set_cons_zero, List.set_cons_succ, List.getD_cons_zero, List.getD_cons_succ, List.map_cons, List.map_nil, ↓reduceIte, reduceCtorEq, oneCell, List.length_cons, List.length_nil, setAt, readN, bne_iff_ne, ne_eq, Nat.reduceAdd, Nat.reduceLeDiff, List.getElem?_cons_zero, List.getElem?_cons_succ, Nat.reduceMul, Option.isSome_some, layAt, Nat.reduceLT, Option.isNone_some, Option.isNone_none, beq_self_eq_true, Nat.reduceEqDiff, setParams, Int.reduceLT, Int.reduceLE, Int.reduceGT, Int.reduceGE, Int.reduceEq, Int.reduceNe, Option.map_some, Option.map_none, Option.isSome_none]
        exact Is_in ⟨S.length - (i + 1), by omega, i + 1, rfl, rfl, rfl, rfl, rfl, rfl, by omega, fun j hj => by
          by_cases e : j = i
          · subst e; exact hx
          · exact hle j (by omega), O3⟩
      · have d1 : decide (¬ le (nth S i) x) = true := decide_eq_true hx
        simp (disch := first | assumption | omega | (simp only [wkD, oneCell, Option.isSome_some, *]; done) | (simp only [wkE, ne_eq]; omega)) only [g0, g3, g4, d1, wk0, wk1, wk2, wk3, wk4, wk5, X_region, X_seq, X_block, X_loop, X_cond, Y_box, Y_un, Y_store, Y_append, Y_makeMap, Y_buildSlice, ibin_shl, ibin_shr, ibin_and, List.set_cons_zero, List.set_cons_succ, List.getD_cons_zero, List.getD_cons_succ, List.map_cons, List.map_nil, ↓reduceIte, reduceCtorEq, oneCell, List.length_cons, List.length_nil, setAt, readN, bne_iff_ne, ne_eq, Nat.reduceAdd, Nat.reduceLeDiff, List.getElem?_cons_zero, List.getElem?_cons_succ, Nat.reduceMul, Option.isSome_some, layAt, Nat.reduceLT, Option.isNone_some, Option.isNone_none, beq_self_eq_true, Nat.reduceEqDiff, setParams, Int.reduceLT, Int.reduceLE, Int.reduceGT, Int.reduceGE, Int.reduceEq, Int.reduceNe, Option.map_some, Option.map_none, Option.isSome_none]
        refine Is_in ?_
        simp (disch := first | assumption | omega | (simp only [wkD, oneCell, Option.isSome_some, *]; done) | (simp only [wkE, ne_eq]; omega)) only [g0, g3, g4, wk0, wk1, wk2, wk3, wk4, wk5, X_region, X_seq, X_block, X_loop, X_cond, Y_box, Y_un, Y_store, Y_append, Y_makeMap, Y_buildSlice, ibin_shl, ibin_shr, ibin_and, List.set_cons_zero, List.set_cons_succ, List.getD_cons_zero, List.getD_cons_succ, List.map_cons, List.map_nil, ↓reduceIte, reduceCtorEq, oneCell, List.length_cons, List.length_nil, setAt, readN, bne_iff_ne, ne_eq, Nat.reduceAdd, Nat.reduceLeDiff, List.getElem?_cons_zero, List.getElem?_cons_succ, Nat.reduceMul, Option.isSome_some, layAt, Nat.reduceLT, Option.isNone_some, Option.isNone_none, beq_self_eq_true, Nat.reduceEqDiff, setParams, Int.reduceLT, Int.reduceLE, Int.reduceGT, Int.reduceGE, Int.reduceEq, Int.reduceNe, Option.map_some, Option.map_none, Option.isSome_none]
        exact mid_in ⟨i, rfl, rfl, rfl, rfl, O3, hi, hle, fun _ => hx⟩
    · have hlt' : ¬ (i : Int) < (S.length : Int) := by omega
      simp (disch := first | assumption | omega | (simp only [wkD, oneCell, Option.isSome_some, *]; done) | (simp only [wkE, ne_eq]; omega)) only [g0, g3, g4, gq, hlt', wk0, wk1, wk2, wk3, wk4, wk5, X_region, X_seq, X_block, X_loop, X_cond, Y_box, Y_un, Y_store, Y_append, Y_makeMap, Y_buildSlice, ibin_shl, ibin_shr, ibin_and, List.set_cons_zero, List.set_cons_succ, List.getD_cons_zero, List.getD_cons_succ, List.map_cons, List.map_nil, ↓reduceIte, reduceCtorEq, oneCell, List.length_cons, List.length_nil, setAt, readN, bne_iff_ne, ne_eq, Nat.reduceAdd, Nat.reduceLeDiff, List.getElem?_cons_zero, List.getElem?_cons_succ, Nat.reduceMul, Option.isSome_some, layAt, Nat.reduceLT, Option.isNone_some, Option.isNone_none, beq_self_eq_true, Nat.reduceEqDiff, setParams, Int.reduceLT, Int.reduceLE, Int.reduceGT, Int.reduceGE, Int.reduceEq, Int.reduceNe, Option.map_some, Option.map_none, Option.isSome_none]
      refine Is_in ?_
      simp (disch := first | assumption | omega | (simp only [wkD, oneCell, Option.isSome_some, *]; done) | (simp only [wkE, ne_eq]; omega)) only [g0, g3, g4, wk0, wk1, wk2, wk3, wk4, wk5, X_region, X_seq, X_block, X_loop, X_cond, Y_box, Y_un, Y_store, Y_append, Y_makeMap, Y_buildSlice, ibin_shl, ibin_shr, ibin_and, List.set_cons_zero, List.set_cons_succ, List.getD_cons_zero, List.getD_cons_succ, List.map_cons, List.map_nil, ↓reduceIte, reduceCtorEq, oneCell, List.length_cons, List.length_nil, setAt, readN, bne_iff_ne, ne_eq, Nat.reduceAdd, Nat.reduceLeDiff, List.getElem?_cons_zero, List.getElem?_cons_succ, Nat.reduceMul, Option.isSome_some, layAt, Nat.reduceLT, Option.isNone_some, Option.isNone_none, beq_self_eq_true, Nat.reduceEqDiff, setParams, Int.reduceLT, Int.reduceLE, Int.reduceGT, Int.reduceGE, Int.reduceEq, Int.reduceNe, Option.map_some, Option.map_none, Option.isSome_none]
      exact mid_in ⟨i, rfl, rfl, rfl, rfl, O, hi, hle, fun h => absurd h hlt⟩
  clear O2
  rintro tm h2 ⟨k, hlen_, g0, g3, g4, O, hk, hle, hnl⟩
  simp only at g0 g3 g4 O
  obtain ⟨w, hg_, rfl⟩ := explode hlen_
  simp only [hg_] at g0 g3 g4
  clear hlen_ hg_
  obtain ⟨vt, V1⟩ := vw_take (Has.vr (O.at 1 rfl)).1 hsp hk
  obtain ⟨w1, h3, ap1, O3⟩ := sc_appendV (bytes := 24) (by omega) ic_len ic_one (O.scNil (g := ic) (z := 3)) V1 (by rw [List.length_take]; simp only [List.length_nil]; unfold roomMost; omega) (by omega)
  rw [List.nil_append] at O3
  have gq := O.get 0 rfl
  have gx3 := O3.get 3 rfl
  simp (disch := first | assumption | omega | (simp only [wkD, oneCell, Option.isSome_some, *]; done) | (simp only [wkE, ne_eq]; omega)) only [g0, g3, g4, gq, vt, ap1, gx3, ic_len, tk_ic, rd_full, agg_ic, wk0, wk1, wk2, wk3, wk4, wk5, X_region, X_seq, X_block, X_loop, X_cond, Y_box, Y_un, Y_store, Y_append, Y_makeMap, ibin_shl, ibin_shr, ibin_and, List.set_cons_zero, List.set_cons_succ, List.getD_cons_zero, List.getD_cons_succ, List.map_cons, List.map_nil, ↓reduceIte, reduceCtorEq, oneCell, List.length_cons, List.length_nil, setAt, readN, bne_iff_ne, ne_eq, Nat.reduceAdd, Nat.reduceLeDiff, List.getElem?_cons_zero, List.getElem?_cons_succ, Nat.reduceMul, Option.isSome_some, layAt, Nat.reduceLT, Option.isNone_some, Option.isNone_none, beq_self_eq_true, Nat.reduceEqDiff, setParams, Int.reduceLT, Int.reduceLE, Int.reduceGT, Int.reduceGE, Int.reduceEq, Int.reduceNe, Option.map_some, Option.map_none, Option.isSome_none]
  refine Y_buildSliceO O3 (cs := ic x) rfl ?_
  intro b4 h4 O4 e4
  have V4 : Vw 3 ic h4 (.slice (some ⟨b4, 0, none⟩) 1 1) [x] := O4.one 0 rfl
  obtain ⟨w2, h5, ap2, O5⟩ := sc_appendV (bytes := 24) (by omega) ic_len ic_one (O4.at 1 rfl) V4 (by rw [List.length_take]; simp only [List.length_cons, List.length_nil]; unfold roomMost; omega) (by omega)
  simp only [List.eraseIdx_cons_succ, List.eraseIdx_cons_zero] at O5
  obtain ⟨vd, V6⟩ := vw_drop (Has.vr (O5.at 3 rfl)).1 hsp hk
  obtain ⟨w3, h6, ap3, O6⟩ := sc_appendV (bytes := 24) (by omega) ic_len ic_one O5 V6 (by rw [List.length_append, List.length_take, List.length_drop]; simp only [List.length_cons, List.length_nil]; unfold roomMost; omega) (by omega)
  have e : S.take k ++ [x] ++ S.drop k = ins x S := by rw [List.append_assoc]; exact ins_split x S k hs hle hnl hk
  rw [e] at O6
  have gq5 := O5.get 2 rfl
  have gq6 := O6.get 2 rfl
  have p6 := O6.can 2 rfl
  have O7 := O6.set 2 rfl (.cells [w3] 1 false)
  simp only [List.set_cons_succ, List.set_cons_zero] at O7
  have O8 := Has.mkQq (Has.mkVr (((O7.rid 1 rfl).rid 2 rfl).rid 2 rfl)).swap2
  obtain ⟨pw, cw, rfl, z1⟩ := O7.scVal 0 rfl
  clear z1
  simp (disch := first | assumption | omega | (simp only [wkD, oneCell, Option.isSome_some, *]; done) | (simp only [wkE, ne_eq]; omega)) only [g0, g3, g4, gq5, vd, ap2, ap3, gq6, p6, slI', wk0, wk1, wk2, wk3, wk4, wk5, X_region, X_seq, X_block, X_loop, X_cond, Y_box, Y_un, Y_store, Y_append, Y_makeMap, Y_buildSlice, ibin_shl, ibin_shr, ibin_and, List.set_cons_zero, List.set_cons_succ, List.getD_cons_zero, List.getD_cons_succ, List.map_cons, List.map_nil, ↓reduceIte, reduceCtorEq, oneCell, List.length_cons, List.length_nil, setAt, readN, bne_iff_ne, ne_eq, Nat.reduceAdd, Nat.reduceLeDiff, List.getElem?_cons_zero, List.getElem?_cons_succ, Nat.reduceMul, Option.isSome_some, layAt, Nat.reduceLT, Option.isNone_some, Option.isNone_none, beq_self_eq_true, Nat.reduceEqDiff, setParams, Int.reduceLT, Int.reduceLE, Int.reduceGT, Int.reduceGE, Int.reduceEq, Int.reduceNe, Option.map_some, Option.map_none, Option.isSome_none]
  exact leaf0n O8

theorem rleast_h {n : Nat} {m : Int} (hn : S.length + 20 < n) (hl : S.length < 60000) (O : Has ro h (Qq qb S :: R)) :
    (callV env (n + 1) (.func (.func 17) #[] #[]) [.pointer (some ⟨qb, 0, none⟩), .int .i64 m] h).Is fun p => Has ro p.2 (Sc 3 ic p.1 (S.take m.toNat) :: Qq qb (S.drop m.toNat) :: R) := by
  refine call_is env17 ?_
  simp (disch := first | assumption | omega | (simp only [wkD, oneCell, Option.isSome_some, *]; done) | (simp only [wkE, ne_eq]; omega)) only [ir17, List.append_nil, List.nil_append, List.cons_append, List.length_cons, List.length_nil, Nat.reduceAdd, Nat.reduceSub, List.replicate_succ, List.replicate_zero, wk0, wk1, wk2, wk3, wk4, wk5, X_region, X_seq, X_block, X_loop, X_cond, Y_box, Y_un, Y_store, Y_append, Y_makeMap, Y_buildSlice, ibin_shl, ibin_shr, ibin_and, List.set_cons_zero, List.set_cons_succ, List.getD_cons_zero, List.getD_cons_succ, List.map_cons, List.map_nil, ↓reduceIte, reduceCtorEq, oneCell, List.length_cons, List.length_nil, setAt, readN, bne_iff_ne, ne_eq, Nat.reduceAdd, Nat.reduceLeDiff, List.getElem?_cons_zero, List.getElem?_cons_succ, Nat.reduceMul, Option.isSome_some, layAt, Nat.reduceLT, Option.isNone_some, Option.isNone_none, beq_self_eq_true, Nat.reduceEqDiff, setParams, Int.reduceLT, Int.reduceLE, Int.reduceGT, Int.reduceGE, Int.reduceEq, Int.reduceNe, Option.map_some, Option.map_none, Option.isSome_none]
  refine L_cut1 (fun s => ∃ v : Value, s.tmps.length = 38 ∧ s.tmps.getD 5 undefV = v ∧ Has ro s.h (Sc 3 ic v (S.take m.toNat) :: Qq qb (S.drop m.toNat) :: R)) ?_ ?_
  · refine L_is (fun q s => ∃ (t S' : List It) (v : Value), s.defers = [] ∧ s.tmps.length = 38 ∧ s.tmps.getD 0 undefV = .pointer (some ⟨qb, 0, none⟩) ∧ s.tmps.getD 1 undefV = .int .i64 m ∧ s.tmps.getD 5 undefV = v ∧ s.tmps.getD 6 undefV = .int .i64 (t.length : Int) ∧ q = S'.length ∧ S = t ++ S' ∧ t.length ≤ m.toNat ∧ Has ro s.h (Sc 3 ic v t :: Qq qb S' :: R)) S.length ?_ (by omega) ?_
    · exact ⟨[], S, _, rfl, rfl, rfl, rfl, rfl, rfl, rfl, rfl, by simp, O.scNil⟩
    clear O
    rintro q_ tm df h2 ⟨t, S', v, hd, hlen_, g0, g1, g5, g6, hq, hS, htm, O⟩
    simp only at hd g0 g1 g5 g6 O
    subst hd
    obtain ⟨w, hg_, rfl⟩ := explode hlen_
    simp only [hg_] at g0 g1 g5 g6
    clear hlen_ hg_
    have hSl : S.length = t.length + S'.length := by rw [hS, List.length_append]
    by_cases hA : (t.length : Int) < m ∧ 0 < S'.length
    · obtain ⟨hA1, hA2⟩ := hA
      cases hS' : S' with
      | nil => rw [hS'] at hA2; simp at hA2
      | cons x S'' =>
      obtain ⟨p, c, hc, hsp, V, O2⟩ := Has.qq (O.at 1 rfl)
      simp only [List.eraseIdx_cons_succ, List.eraseIdx_cons_zero] at O2
      have gq := O2.get 0 rfl
      have hA2' : (0 : Int) < (S'.length : Int) := by omega
      obtain ⟨b1, o1, sp1, rfl, r1⟩ := rdW V hA2
      have hx : nth S' 0 = x := by rw [hS']; rfl
      rw [hx, Nat.zero_mul, Nat.add_zero] at r1
      have y1 : IntKind.i64.wrap ((t.length : Int) + 1) = ((t ++ [x]).length : Int) := by rw [wrap_i64 (by omega) (by omega)]; simp
      simp (disch := first | assumption | omega | (simp only [wkD, oneCell, Option.isSome_some, *]; done) | (simp only [wkE, ne_eq]; omega)) only [g0, g1, g5, g6, gq, hA1, hA2', r1, agg_ic, wk0, wk1, wk2, wk3, wk4, wk5, X_region, X_seq, X_block, X_loop, X_cond, Y_box, Y_un, Y_store, Y_append, Y_makeMap, ibin_shl, ibin_shr, ibin_and, List.set_cons_zero, List.set_cons_succ, List.getD_cons_zero, List.getD_cons_succ, List.map_cons, List.map_nil, ↓reduceIte, reduceCtorEq, oneCell, List.length_cons, List.length_nil, setAt, readN, bne_iff_ne, ne_eq, Nat.reduceAdd, Nat.reduceLeDiff, List.getElem?_cons_zero, List.getElem?_cons_succ, Nat.reduceMul, Option.isSome_some, layAt, Nat.reduceLT, Option.isNone_some, Option.isNone_none, beq_self_eq_true, Nat.reduceEqDiff, setParams, Int.reduceLT, Int.reduceLE, Int.reduceGT, Int.reduceGE, Int.reduceEq, Int.reduceNe, Option.map_some, Option.map_none, Option.isSome_none]
      refine Y_buildSliceO O2 (cs := ic x) rfl ?_
      intro b3 h3 O3 e3
      have V3 : Vw 3 ic h3 (.slice (some ⟨b3, 0, none⟩) 1 1) [x] := O3.one 0 rfl
      obtain ⟨w2, h4, ap, O4⟩ := sc_appendV (bytes := 24) (by omega) ic_len ic_one (O3.at 3 rfl) V3 (by simp only [List.length_cons, List.length_nil]; unfold roomMost; omega) (by omega)
      simp only [List.eraseIdx_cons_succ, List.eraseIdx_cons_zero] at O4
      have g4 := O4.get 2 rfl
      have p4 := O4.can 2 rfl
      obtain ⟨vd, _⟩ := vw_drop (k := 1) (Has.vr (O4.at 3 rfl)).1 hsp (by omega)
      have O5 := O4.set 2 rfl (.cells [.slice (some ⟨b1, o1 + 1 * 3, sp1⟩) (S'.length - 1) (c - 1)] 1 false)
      simp only [List.set_cons_succ, List.set_cons_zero] at O5
      have vd' : vSlice 3 (.slice (some ⟨b1, o1, sp1⟩) S'.length c) (some (.int .i64 1)) none none false = some (.slice (some ⟨b1, o1 + 1 * 3, sp1⟩) (S'.length - 1) (c - 1)) := vd
      simp (disch := first | assumption | omega | (simp only [wkD, oneCell, Option.isSome_some, *]; done) | (simp only [wkE, ne_eq]; omega)) only [g0, g1, g5, g6, ap, g4, p4, vd', slI', y1, wk0, wk1, wk2, wk3, wk4, wk5, X_region, X_seq, X_block, X_loop, X_cond, Y_box, Y_un, Y_store, Y_append, Y_makeMap, Y_buildSlice, ibin_shl, ibin_shr, ibin_and, List.set_cons_zero, List.set_cons_succ, List.getD_cons_zero, List.getD_cons_succ, List.map_cons, List.map_nil, ↓reduceIte, reduceCtorEq, oneCell, List.length_cons, List.length_nil, setAt, readN, bne_iff_ne, ne_eq, Nat.reduceAdd, Nat.reduceLeDiff, List.getElem?_cons_zero, List.getElem?_cons_succ, Nat.reduceMul, Option.isSome_some, layAt, Nat.reduceLT, Option.isNone_some, Option.isNone_none, beq_self_eq_true, Nat.reduceEqDiff, setParams, Int.reduceLT, Int.reduceLE, Int.reduceGT, Int.reduceGE, Int.reduceEq, Int.reduceNe, Option.map_some, Option.map_none, Option.isSome_none]
      have e1 : S'.length - 1 = S''.length := by rw [hS']; rfl
      have O6 := O5.at 3 rfl
      simp only [List.eraseIdx_cons_succ, List.eraseIdx_cons_zero] at O6
      subst hS'
      have O7 := Has.mkQq (Has.vrTail O6 |>.at 3 rfl)
      simp only [List.eraseIdx_cons_succ, List.eraseIdx_cons_zero] at O7
      exact Is_in ⟨S''.length, by simp at hq; omega, t ++ [x], S'', w2, rfl, rfl, rfl, rfl, rfl, rfl, rfl, by rw [hS]; simp, by simp; omega, (O7.rid 2 rfl).swap2⟩
    · have et : S.take m.toNat = t ∧ S.drop m.toNat = S' := by
        by_cases hz : S' = []
        · subst hz
          rw [List.append_nil] at hS
          subst hS
          exact ⟨List.take_of_length_le htm, List.drop_of_length_le htm⟩
        · have h0 : 0 < S'.length := List.length_pos_iff.2 hz
          have e : m.toNat = t.length := by
            have : ¬ (t.length : Int) < m := fun h => hA ⟨h, h0⟩
            omega
          rw [hS, e]
          exact ⟨List.take_left, List.drop_left⟩
      obtain ⟨p, c, hc, hsp, V, O2⟩ := Has.qq (O.at 1 rfl)
      simp only [List.eraseIdx_cons_succ, List.eraseIdx_cons_zero] at O2
      have gq := O2.get 0 rfl
      by_cases hA1 : (t.length : Int) < m
      · have hA2 : ¬ (0 : Int) < (S'.length : Int) := fun h => hA ⟨hA1, by omega⟩
        simp (disch := first | assumption | omega | (simp only [wkD, oneCell, Option.isSome_some, *]; done) | (simp only [wkE, ne_eq]; omega)) only [g0, g1, g5, g6, gq, hA1, hA2, wk0, wk1, wk2, wk3, wk4, wk5, X_region, X_seq, X_block, X_loop, X_cond, Y_box, Y_un, Y_store, Y_append, Y_makeMap, Y_buildSlice, ibin_shl, ibin_shr, ibin_and, List.set_cons_zero, List.set_cons_succ, List.getD_cons_zero, List.getD_cons_succ, List.map_cons, List.map_nil, ↓reduceIte, reduceCtorEq, oneCell, List.length_cons, List.length_nil, setAt, readN, bne_iff_ne, ne_eq, Nat.reduceAdd, Nat.reduceLeDiff, List.getElem?_cons_zero, List.getElem?_cons_succ, Nat.reduceMul, Option.isSome_some, layAt, Nat.reduceLT, Option.isNone_some, Option.isNone_none, beq_self_eq_true, Nat.reduceEqDiff, setParams, Int.reduceLT, Int.reduceLE, Int.reduceGT, Int.reduceGE, Int.reduceEq, Int.reduceNe, Option.map_some, Option.map_none, Option.isSome_none]
        refine Is_in ?_
        simp (disch := first | assumption | omega | (simp only [wkD, oneCell, Option.isSome_some, *]; done) | (simp only [wkE, ne_eq]; omega)) only [g0, g1, g5, g6, wk0, wk1, wk2, wk3, wk4, wk5, X_region, X_seq, X_block, X_loop, X_cond, Y_box, Y_un, Y_store, Y_append, Y_makeMap, Y_buildSlice, ibin_shl, ibin_shr, ibin_and, List.set_cons_zero, List.set_cons_succ, List.getD_cons_zero, List.getD_cons_succ, List.map_cons, List.map_nil, ↓reduceIte, reduceCtorEq, oneCell, List.length_cons, List.length_nil, setAt, readN, bne_iff_ne, ne_eq, Nat.reduceAdd, Nat.reduceLeDiff, List.getElem?_cons_zero, List.getElem?_cons_succ, Nat.reduceMul, Option.isSome_some, layAt, Nat.reduceLT, Option.isNone_some, Option.isNone_none, beq_self_eq_true, Nat.reduceEqDiff, setParams, Int.reduceLT, Int.reduceLE, Int.reduceGT, Int.reduceGE, Int.reduceEq, Int.reduceNe, Option.map_some, Option.map_none, Option.isSome_none]
        exact mid_in ⟨v, rfl, rfl, by rw [et.1, et.2]; exact O⟩
      · simp (disch := first | assumption | omega | (simp only [wkD, oneCell, Option.isSome_some, *]; done) | (simp only [wkE, ne_eq]; omega)) only [g0, g1, g5, g6, gq, hA1, wk0, wk1, wk2, wk3, wk4, wk5, X_region, X_seq, X_block, X_loop, X_cond, Y_box, Y_un, Y_store, Y_append, Y_makeMap, Y_buildSlice, ibin_shl, ibin_shr, ibin_and, List.set_cons_zero, List.set_cons_succ, List.getD_cons_zero, List.getD_cons_succ, List.map_cons, List.map_nil, ↓reduceIte, reduceCtorEq, oneCell, List.length_cons, List.length_nil, setAt, readN, bne_iff_ne, ne_eq, Nat.reduceAdd, Nat.reduceLeDiff, List.getElem?_cons_zero, List.getElem?_cons_succ, Nat.reduceMul, Option.isSome_some, layAt, Nat.reduceLT, Option.isNone_some, Option.isNone_none, beq_self_eq_true, Nat.reduceEqDiff, setParams, Int.reduceLT, Int.reduceLE, Int.reduceGT, Int.reduceGE, Int.reduceEq, Int.reduceNe, Option.map_some, Option.map_none, Option.isSome_none]
        refine Is_in ?_
        simp (disch := first | assumption | omega | (simp only [wkD, oneCell, Option.isSome_some, *]; done) | (simp only [wkE, ne_eq]; omega)) only [g0, g1, g5, g6, wk0, wk1, wk2, wk3, wk4, wk5, X_region, X_seq, X_block, X_loop, X_cond, Y_box, Y_un, Y_store, Y_append, Y_makeMap, Y_buildSlice, ibin_shl, ibin_shr, ibin_and, List.set_cons_zero, List.set_cons_succ, List.getD_cons_zero, List.getD_cons_succ, List.map_cons, List.map_nil, ↓reduceIte, reduceCtorEq, oneCell, List.length_cons, List.length_nil, setAt, readN, bne_iff_ne, ne_eq, Nat.reduceAdd, Nat.reduceLeDiff, List.getElem?_cons_zero, List.getElem?_cons_succ, Nat.reduceMul, Option.isSome_some, layAt, Nat.reduceLT, Option.isNone_some, Option.isNone_none, beq_self_eq_true, Nat.reduceEqDiff, setParams, Int.reduceLT, Int.reduceLE, Int.reduceGT, Int.reduceGE, Int.reduceEq, Int.reduceNe, Option.map_some, Option.map_none, Option.isSome_none]
        exact mid_in ⟨v, rfl, rfl, by rw [et.1, et.2]; exact O⟩
  clear O
  rintro tm h2 ⟨v, hlen_, g5, O⟩
  simp only at g5 O
  obtain ⟨w, hg_, rfl⟩ := explode hlen_
  simp only [hg_] at g5
  clear hlen_ hg_
  simp (disch := first | assumption | omega | (simp only [wkD, oneCell, Option.isSome_some, *]; done) | (simp only [wkE, ne_eq]; omega)) only [g5, wk0, wk1, wk2, wk3, wk4, wk5, X_region, X_seq, X_block, X_loop, X_cond, Y_box, Y_un, Y_store, Y_append, Y_makeMap, Y_buildSlice, ibin_shl, ibin_shr, ibin_and, List.set_cons_zero, List.set_cons_succ, List.getD_cons_zero, List.getD_cons_succ, List.map_cons, List.map_nil, ↓reduceIte, reduceCtorEq, oneCell, List.length_cons, List.length_nil, setAt, readN, bne_iff_ne, ne_eq, Nat.reduceAdd, Nat.reduceLeDiff, List.getElem?_cons_zero, List.getElem?_cons_succ, Nat.reduceMul, Option.isSome_some, layAt, Nat.reduceLT, Option.isNone_some, Option.isNone_none, beq_self_eq_true, Nat.reduceEqDiff, setParams, Int.reduceLT, Int.reduceLE, Int.reduceGT, Int.reduceGE, Int.reduceEq, Int.reduceNe, Option.map_some, Option.map_none, Option.isSome_none]
  exact leaf1 O
end
end Go.Proofs.Ytafaefeekilclaa
