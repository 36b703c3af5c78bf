/-
  The reference's queue: a list in which the waiters lie as they came.
-/
import Derived.Test.YtlhocgeppgdopaaFk
import Derived.Test.YtlhocgeppgdopaaHt
namespace Go.Proofs.Ytlhocgeppgdopaa
open Go Go.Ideal Go.ChangeShapes Go.RowKit
set_option maxHeartbeats 0
set_option linter.unusedSimpArgs false
set_option linter.unusedVariables false
set_option maxRecDepth 100000
attribute [local irreducible] callV T.All T.Is run
theorem env24 : env 24 = some ir24 := rfl
theorem env25 : env 25 = some ir25 := rfl
theorem env26 : env 26 = some ir26 := rfl
theorem env27 : env 27 = some ir27 := rfl
theorem env29 : env 29 = some ir29 := rfl
theorem env31 : env 31 = some ir31 := rfl
theorem slI' (p : Option Addr) (a b : Nat) : cellsOf (.slice p a b) = [.slice p a b] := rfl

def Qs (qb : Nat) (B : List It) : Rs := Rs.ex fun v : Value => Rs.star (Ob qb (.cells [v] 1 false)) (Sc 3 ic v B)
def spotsOk (p : Option Addr) : Prop := p.all (spotOk 3) = true

section
variable {ro : Nat → Option (List Value × Nat)} {h : Heap} {R : List Rs} {qb : Nat} {B l : List It} {v : Value}

theorem Has.scSpot (O : Has ro h (Sc 3 ic v l :: R)) : ∃ p c, v = .slice p l.length c ∧ l.length ≤ c ∧ spotsOk p := by
  rcases O.scOpen with ⟨rfl, rfl, _⟩ | ⟨b, c, rest, sp, zz, t, b1, b2, b3, b4, O2⟩
  · exact ⟨none, 0, rfl, Nat.le_refl _, rfl⟩
  · refine ⟨_, c, b1, b2, ?_⟩
    show spotOk 3 _ = true
    rcases b4 with ⟨e, _⟩ | e
    · subst e; exact spotOk_some
    · subst e; exact spotOk_none
theorem vw_take {p : Option Addr} {n c k : Nat} (V : Vw 3 ic h (.slice p n c) l) (hs : spotsOk p) (hk : k ≤ l.length) : vSlice 3 (.slice p n c) none (some (.int .i64 (k : Int))) none false = some (.slice p k c) ∧ Vw 3 ic h (.slice p k c) (l.take k) := by
  obtain ⟨p', c', hv, hc, g⟩ := V
  injection hv with h1 h2 h3
  subst h1 h2 h3
  have hl : (l.take k).length = k := by rw [List.length_take]; omega
  constructor
  · cases p with
    | none =>
      have e := bounds_h (len := l.length) (cap := c) (hi := k) (k' := .i64) (by omega)
      simp only [vSlice, e]
      rfl
    | some a =>
      obtain ⟨b, off, sp⟩ := a
      exact vSlice_h (by omega) hs
  · refine ⟨p, c, by rw [hl], by omega, fun h0 => ?_⟩
    obtain ⟨b, off, sp, A, B, zz, t, g1, g2, g3, g4, g5⟩ := g (by omega)
    refine ⟨b, off, sp, A, (l.drop k).flatMap ic ++ B, zz, t, g1, g2, g3, ?_, g5⟩
    rw [g4, ← List.append_assoc ((l.take k).flatMap ic), ← List.flatMap_append, List.take_append_drop]
theorem vw_drop {p : Option Addr} {n c k : Nat} (V : Vw 3 ic h (.slice p n c) l) (hs : spotsOk p) (hk : k ≤ l.length) : vSlice 3 (.slice p n c) (some (.int .i64 (k : Int))) none none false = some (.slice (p.map fun a : Addr => { block := a.block, off := a.off + k * 3, spot := a.spot }) (n - k) (c - k)) ∧ Vw 3 ic h (.slice (p.map fun a : Addr => { block := a.block, off := a.off + k * 3, spot := a.spot }) (n - k) (c - k)) (l.drop k) := by
  obtain ⟨p', c', hv, hc, g⟩ := V
  injection hv with h1 h2 h3
  subst h1 h2 h3
  have hl : (l.drop k).length = l.length - k := List.length_drop
  constructor
  · cases p with
    | none =>
      have e := bounds_l (len := l.length) (cap := c) (lo := k) (k := .i64) (by omega)
      simp only [vSlice, e]
      rfl
    | some a =>
      obtain ⟨b, off, sp⟩ := a
      exact vSlice_l (by omega) hs
  · refine ⟨_, _, by rw [hl], by omega, fun h0 => ?_⟩
    obtain ⟨b, off, sp, A, B, zz, t, rfl, g2, g3, g4, g5⟩ := g (by omega)
    refine ⟨b, off + k * 3, sp, A ++ (l.take k).flatMap ic, B, zz, t, rfl, g2, ?_, ?_, g5⟩
    · rw [List.length_append, flatMap_len ic_len, List.length_take, g3]; congr 2; omega
    · rw [g4, List.append_assoc, ← List.append_assoc ((l.take k).flatMap ic), ← List.flatMap_append, List.take_append_drop]
theorem rdW {p : Option Addr} {n c : Nat} (V : Vw 3 ic h (.slice p n c) l) {i : Nat} (hi : i < l.length) : ∃ (b off : Nat) (sp : Option Nat), p = some ⟨b, off, sp⟩ ∧ readC (h.get b) (off + i * 3) 3 = some (ic (nth l i)) ∧ readC (h.get b) (off + i * 3) 1 = some [.int .i64 (nth l i).r] ∧ readC (h.get b) (off + i * 3 + 2) 1 = some [.int .i64 (nth l i).p] := by
  obtain ⟨b, off, sp, c, hv, k0, k⟩ := V.rd ic_len (nth_get hi)
  cases hv
  exact ⟨b, off, sp, rfl, k, k0 0 1 (by omega), k0 2 1 (by omega)⟩
theorem Has.qs (O : Has ro h (Qs qb B :: R)) : ∃ p c, B.length ≤ c ∧ spotsOk p ∧ Vw 3 ic h (.slice p B.length c) B ∧ Has ro h (Ob qb (.cells [.slice p B.length c] 1 false) :: Sc 3 ic (.slice p B.length c) B :: R) := by
  obtain ⟨v, O1⟩ := Has.ex.1 O
  replace O1 := Has.star.1 O1
  obtain ⟨p, c, rfl, hc, hs⟩ := Has.scSpot O1.swap2
  exact ⟨p, c, hc, hs, O1.vw 1 rfl, O1⟩
theorem Has.mkQs (O : Has ro h (Ob qb (.cells [v] 1 false) :: Sc 3 ic v B :: R)) : Has ro h (Qs qb B :: R) := Has.ex.2 ⟨v, Has.star.2 O⟩
theorem Has.newQs (O : Has ro h (Ob qb (.cells [.slice none 0 0] 1 false) :: R)) : Has ro h (Qs qb [] :: R) := Has.mkQs O.scNil.swap2
/-- One item is written over. -/
theorem Has.scWr {p : Option Addr} {c i : Nat} (O : Has ro h (Sc 3 ic (.slice p l.length c) l :: R)) (hi : i < l.length) : ∃ b sp, p = some ⟨b, 0, sp⟩ ∧ (∀ x, ∃ h1, writeC (h.get b) h b (i * 3) (ic x) = some h1 ∧ Has ro h1 (Sc 3 ic (.slice p l.length c) (l.set i x) :: R)) ∧ ∀ u, ∃ h1, writeC (h.get b) h b (i * 3 + 2) [.int .i64 u] = some h1 ∧ Has ro h1 (Sc 3 ic (.slice p l.length c) (l.set i { nth l i with p := u }) :: R) := by
  rcases O.scOpen with ⟨e, _, _⟩ | ⟨b, c', rest, sp, zz, t, hv, b2, b3, b4, OB⟩
  · rw [e] at hi; simp at hi
  · injection hv with h1 h2 h3
    subst h1 h3
    have g := OB.get 0 rfl
    have pc := OB.can 0 rfl
    refine ⟨b, sp, rfl, fun x => ⟨_, wr_at ic_len ic_one hi g pc, ?_⟩, fun u => ⟨h.setB b (.cells ((l.set i { nth l i with p := u }).flatMap ic ++ rest) zz t), ?_, ?_⟩⟩
    · have := OB.set 0 rfl (.cells ((l.set i x).flatMap ic ++ rest) zz t)
      simp only [List.set_cons_zero] at this
      exact Has.scClose (by rw [List.length_set]) (by rw [List.length_set]; exact b2) (by rw [List.length_set]; exact b3) b4 this
    · have hfl := flatMap_len ic_len l
      rw [g, writeC_cells, if_pos ⟨by rw [List.length_append, hfl]; simp only [List.length_cons, List.length_nil]; omega, rfl, pc⟩, setAt_one, set_field u l i rest hi]
    · have := OB.set 0 rfl (.cells ((l.set i { nth l i with p := u }).flatMap ic ++ rest) zz t)
      simp only [List.set_cons_zero] at this
      exact Has.scClose (by rw [List.length_set]) (by rw [List.length_set]; exact b2) (by rw [List.length_set]; exact b3) b4 this

theorem rahead_h {n : Nat} (hf : h.Fine) (x y : It) : (callV env (n + 1) (.func (.func 31) #[] #[]) [iv x, iv y] h).Is fun p => p.1 = .bool (decide (¬ le y x)) ∧ Ext h p.2 := by
  refine call_is env31 ?_
  unfold iv
  have gx : ((h.alloc (.cells [.int .i64 x.r, .int .u64 x.s, .int .i64 x.p] 1 false)).alloc (.cells [.int .i64 y.r, .int .u64 y.s, .int .i64 y.p] 1 false)).get (2 * h.next) = some (.cells [.int .i64 x.r, .int .u64 x.s, .int .i64 x.p] 1 false) := (get_alloc_old (by simp only [alloc_next]; omega)).trans (get_alloc_new hf)
  have gy : ((h.alloc (.cells [.int .i64 x.r, .int .u64 x.s, .int .i64 x.p] 1 false)).alloc (.cells [.int .i64 y.r, .int .u64 y.s, .int .i64 y.p] 1 false)).get (2 * (h.next + 1)) = some (.cells [.int .i64 y.r, .int .u64 y.s, .int .i64 y.p] 1 false) := get_alloc_new (alloc_fine hf)
  have e2 : Ext h ((h.alloc (.cells [.int .i64 x.r, .int .u64 x.s, .int .i64 x.p] 1 false)).alloc (.cells [.int .i64 y.r, .int .u64 y.s, .int .i64 y.p] 1 false)) := ((Ext.refl h).alloc _).alloc _
  by_cases h1 : x.p = y.p
  · have d1 : decide (x.p = y.p) = true := decide_eq_true h1
    by_cases h2 : x.s = y.s
    · have d2 : decide (x.s = y.s) = true := decide_eq_true h2
      simp (disch := first | assumption | omega | (simp only [wkD, oneCell, Option.isSome_some, *]; done) | (simp only [wkE, ne_eq]; omega)) only [ir31, List.append_nil, List.nil_append, List.cons_append, List.length_cons, List.length_nil, Nat.reduceAdd, Nat.reduceSub, List.replicate_succ, List.replicate_zero, gx, gy, d1, d2, wk0, wk1, wk2, wk3, wk4, wk5, X_region, X_seq, X_block, X_loop, X_cond, Y_box, Y_un, Y_store, Y_append, Y_makeMap, Y_buildSlice, ibin_shl, ibin_shr, ibin_and, List.set_cons_zero, List.set_cons_succ, List.getD_cons_zero, List.getD_cons_succ, List.map_cons, List.map_nil, ↓reduceIte, reduceCtorEq, oneCell, List.length_cons, List.length_nil, setAt, readN, bne_iff_ne, ne_eq, Nat.reduceAdd, Nat.reduceLeDiff, List.getElem?_cons_zero, List.getElem?_cons_succ, Nat.reduceMul, Option.isSome_some, layAt, Nat.reduceLT, Option.isNone_some, Option.isNone_none, beq_self_eq_true, Nat.reduceEqDiff, setParams, Int.reduceLT, Int.reduceLE, Int.reduceGT, Int.reduceGE, Int.reduceEq, Int.reduceNe, Option.map_some, Option.map_none, Option.isSome_none]
      exact leaf1 ⟨by show Value.bool _ = Value.bool _; congr 1; rw [decide_eq_decide]; unfold le; omega, e2⟩
    · have d2 : decide (x.s = y.s) = false := decide_eq_false h2
      simp (disch := first | assumption | omega | (simp only [wkD, oneCell, Option.isSome_some, *]; done) | (simp only [wkE, ne_eq]; omega)) only [ir31, List.append_nil, List.nil_append, List.cons_append, List.length_cons, List.length_nil, Nat.reduceAdd, Nat.reduceSub, List.replicate_succ, List.replicate_zero, gx, gy, d1, d2, wk0, wk1, wk2, wk3, wk4, wk5, X_region, X_seq, X_block, X_loop, X_cond, Y_box, Y_un, Y_store, Y_append, Y_makeMap, Y_buildSlice, ibin_shl, ibin_shr, ibin_and, List.set_cons_zero, List.set_cons_succ, List.getD_cons_zero, List.getD_cons_succ, List.map_cons, List.map_nil, ↓reduceIte, reduceCtorEq, oneCell, List.length_cons, List.length_nil, setAt, readN, bne_iff_ne, ne_eq, Nat.reduceAdd, Nat.reduceLeDiff, List.getElem?_cons_zero, List.getElem?_cons_succ, Nat.reduceMul, Option.isSome_some, layAt, Nat.reduceLT, Option.isNone_some, Option.isNone_none, beq_self_eq_true, Nat.reduceEqDiff, setParams, Int.reduceLT, Int.reduceLE, Int.reduceGT, Int.reduceGE, Int.reduceEq, Int.reduceNe, Option.map_some, Option.map_none, Option.isSome_none]
      exact leaf1 ⟨by show Value.bool _ = Value.bool _; congr 1; rw [decide_eq_decide]; unfold le; omega, e2⟩
  · simp (disch := first | assumption | omega | (simp only [wkD, oneCell, Option.isSome_some, *]; done) | (simp only [wkE, ne_eq]; omega)) only [ir31, List.append_nil, List.nil_append, List.cons_append, List.length_cons, List.length_nil, Nat.reduceAdd, Nat.reduceSub, List.replicate_succ, List.replicate_zero, gx, gy, h1, wk0, wk1, wk2, wk3, wk4, wk5, X_region, X_seq, X_block, X_loop, X_cond, Y_box, Y_un, Y_store, Y_append, Y_makeMap, Y_buildSlice, ibin_shl, ibin_shr, ibin_and, List.set_cons_zero, List.set_cons_succ, List.getD_cons_zero, List.getD_cons_succ, List.map_cons, List.map_nil, ↓reduceIte, reduceCtorEq, oneCell, List.length_cons, List.length_nil, setAt, readN, bne_iff_ne, ne_eq, Nat.reduceAdd, Nat.reduceLeDiff, List.getElem?_cons_zero, List.getElem?_cons_succ, Nat.reduceMul, Option.isSome_some, layAt, Nat.reduceLT, Option.isNone_some, Option.isNone_none, beq_self_eq_true, Nat.reduceEqDiff, setParams, Int.reduceLT, Int.reduceLE, Int.reduceGT, Int.reduceGE, Int.reduceEq, Int.reduceNe, Option.map_some, Option.map_none, Option.isSome_none]
    exact leaf1 ⟨by show Value.bool _ = Value.bool _; congr 1; rw [decide_eq_decide]; unfold le; omega, e2⟩

theorem rfind_h {n : Nat} {r : Int} (hn : B.length + 20 < n) (hl : B.length < 60000) (O : Has ro h (Qs qb B :: R)) :
    (callV env (n + 1) (.func (.func 29) #[] #[]) [.pointer (some ⟨qb, 0, none⟩), .int .i64 r] h).Is fun q => ∃ k, q = (.int .i64 k, h) ∧ IsPlace B r k := by
  refine call_is env29 ?_
  obtain ⟨p, c, hc, hsp, V, O2⟩ := Has.qs O
  have gq := O2.get 0 rfl
  simp (disch := first | assumption | omega | (simp only [wkD, oneCell, Option.isSome_some, *]; done) | (simp only [wkE, ne_eq]; omega)) only [ir29, List.append_nil, List.nil_append, List.cons_append, List.length_cons, List.length_nil, Nat.reduceAdd, Nat.reduceSub, List.replicate_succ, List.replicate_zero, wk0, wk1, wk2, wk3, wk4, wk5, X_region, X_seq, X_block, X_loop, X_cond, Y_box, Y_un, Y_store, Y_append, Y_makeMap, Y_buildSlice, ibin_shl, ibin_shr, ibin_and, List.set_cons_zero, List.set_cons_succ, List.getD_cons_zero, List.getD_cons_succ, List.map_cons, List.map_nil, ↓reduceIte, reduceCtorEq, oneCell, List.length_cons, List.length_nil, setAt, readN, bne_iff_ne, ne_eq, Nat.reduceAdd, Nat.reduceLeDiff, List.getElem?_cons_zero, List.getElem?_cons_succ, Nat.reduceMul, Option.isSome_some, layAt, Nat.reduceLT, Option.isNone_some, Option.isNone_none, beq_self_eq_true, Nat.reduceEqDiff, setParams, Int.reduceLT, Int.reduceLE, Int.reduceGT, Int.reduceGE, Int.reduceEq, Int.reduceNe, Option.map_some, Option.map_none, Option.isSome_none]
  refine L_is (fun q s => ∃ (i : Nat), s.defers = [] ∧ s.tmps.length = 26 ∧ s.tmps.getD 0 undefV = .pointer (some ⟨qb, 0, none⟩) ∧ s.tmps.getD 1 undefV = .int .i64 r ∧ s.tmps.getD 5 undefV = .int .i64 (i : Int) ∧ q = B.length - i ∧ i ≤ B.length ∧ (∀ j, j < i → (nth B j).r ≠ r) ∧ s.h = h) B.length ?_ (by omega) ?_
  · exact ⟨0, rfl, rfl, rfl, rfl, rfl, rfl, by omega, fun j hj => by omega, rfl⟩
  rintro q_ tm df h2 ⟨i, hd, hlen_, g0, g1, g5, hq, hi, hno, hh⟩
  simp only at hd g0 g1 g5 hh
  subst hd
  obtain ⟨w, hg_, rfl⟩ := explode hlen_
  simp only [hg_] at g0 g1 g5
  clear hlen_ hg_
  subst hh
  by_cases hlt : i < B.length
  · have hlt' : (i : Int) < (B.length : Int) := by omega
    have c0 : (0 : Int) ≤ (i : Int) := by omega
    have y1 : IntKind.i64.wrap ((i : Int) + 1) = ((i + 1 : Nat) : Int) := by rw [wrap_i64 (by omega) (by omega)]; omega
    obtain ⟨b1, o1, sp1, rfl, r1, r2, r3⟩ := rdW V hlt
    by_cases hx : (nth B i).r = r
    · have d1 : decide ((nth B i).r = r) = true := decide_eq_true hx
      simp (disch := first | assumption | omega | (simp only [wkD, oneCell, Option.isSome_some, *]; done) | (simp only [wkE, ne_eq]; omega)) only [g0, g1, g5, gq, hlt', c0, r2, Int.toNat_natCast, d1, wk0, wk1, wk2, wk3, wk4, wk5, X_region, X_seq, X_block, X_loop, X_cond, Y_box, Y_un, Y_store, Y_append, Y_makeMap, Y_buildSlice, ibin_shl, ibin_shr, ibin_and, List.set_cons_zero, List.set_cons_succ, List.getD_cons_zero, List.getD_cons_succ, List.map_cons, List.map_nil, ↓reduceIte, reduceCtorEq, oneCell, List.length_cons, List.length_nil, setAt, readN, bne_iff_ne, ne_eq, Nat.reduceAdd, Nat.reduceLeDiff, List.getElem?_cons_zero, List.getElem?_cons_succ, Nat.reduceMul, Option.isSome_some, layAt, Nat.reduceLT, Option.isNone_some, Option.isNone_none, beq_self_eq_true, Nat.reduceEqDiff, setParams, Int.reduceLT, Int.reduceLE, Int.reduceGT, Int.reduceGE, Int.reduceEq, Int.reduceNe, Option.map_some, Option.map_none, Option.isSome_none]
      refine Is_in ?_
      simp (disch := first | assumption | omega | (simp only [wkD, oneCell, Option.isSome_some, *]; done) | (simp only [wkE, ne_eq]; omega)) only [g0, g1, g5, wk0, wk1, wk2, wk3, wk4, wk5, X_region, X_seq, X_block, X_loop, X_cond, Y_box, Y_un, Y_store, Y_append, Y_makeMap, Y_buildSlice, ibin_shl, ibin_shr, ibin_and, List.set_cons_zero, List.set_cons_succ, List.getD_cons_zero, List.getD_cons_succ, List.map_cons, List.map_nil, ↓reduceIte, reduceCtorEq, oneCell, List.length_cons, List.length_nil, setAt, readN, bne_iff_ne, ne_eq, Nat.reduceAdd, Nat.reduceLeDiff, List.getElem?_cons_zero, List.getElem?_cons_succ, Nat.reduceMul, Option.isSome_some, layAt, Nat.reduceLT, Option.isNone_some, Option.isNone_none, beq_self_eq_true, Nat.reduceEqDiff, setParams, Int.reduceLT, Int.reduceLE, Int.reduceGT, Int.reduceGE, Int.reduceEq, Int.reduceNe, Option.map_some, Option.map_none, Option.isSome_none]
      exact leaf1 ⟨(i : Int), rfl, Or.inr ⟨i, rfl, hlt, hx, hno⟩⟩
    · have d1 : decide ((nth B i).r = r) = false := decide_eq_false hx
      simp (disch := first | assumption | omega | (simp only [wkD, oneCell, Option.isSome_some, *]; done) | (simp only [wkE, ne_eq]; omega)) only [g0, g1, g5, gq, hlt', c0, r2, Int.toNat_natCast, d1, y1, wk0, wk1, wk2, wk3, wk4, wk5, X_region, X_seq, X_block, X_loop, X_cond, Y_box, Y_un, Y_store, Y_append, Y_makeMap, Y_buildSlice, ibin_shl, ibin_shr, ibin_and, List.set_cons_zero, List.set_cons_succ, List.getD_cons_zero, List.getD_cons_succ, List.map_cons, List.map_nil, ↓reduceIte, reduceCtorEq, oneCell, List.length_cons, List.length_nil, setAt, readN, bne_iff_ne, ne_eq, Nat.reduceAdd, Nat.reduceLeDiff, List.getElem?_cons_zero, List.getElem?_cons_succ, Nat.reduceMul, Option.isSome_some, layAt, Nat.reduceLT, Option.isNone_some, Option.isNone_none, beq_self_eq_true, Nat.reduceEqDiff, setParams, Int.reduceLT, Int.reduceLE, Int.reduceGT, Int.reduceGE, Int.reduceEq, Int.reduceNe, Option.map_some, Option.map_none, Option.isSome_none]
      exact Is_in ⟨B.length - (i + 1), by omega, i + 1, rfl, rfl, rfl, rfl, rfl, rfl, by omega, fun j hj => by
        by_cases e : j = i
        · subst e; exact hx
        · exact hno j (by omega), rfl⟩
  · have hlt' : ¬ (i : Int) < (B.length : Int) := by omega
    simp (disch := first | assumption | omega | (simp only [wkD, oneCell, Option.isSome_some, *]; done) | (simp only [wkE, ne_eq]; omega)) only [g0, g1, g5, gq, hlt', wk0, wk1, wk2, wk3, wk4, wk5, X_region, X_seq, X_block, X_loop, X_cond, Y_box, Y_un, Y_store, Y_append, Y_makeMap, Y_buildSlice, ibin_shl, ibin_shr, ibin_and, List.set_cons_zero, List.set_cons_succ, List.getD_cons_zero, List.getD_cons_succ, List.map_cons, List.map_nil, ↓reduceIte, reduceCtorEq, oneCell, List.length_cons, List.length_nil, setAt, readN, bne_iff_ne, ne_eq, Nat.reduceAdd, Nat.reduceLeDiff, List.getElem?_cons_zero, List.getElem?_cons_succ, Nat.reduceMul, Option.isSome_some, layAt, Nat.reduceLT, Option.isNone_some, Option.isNone_none, beq_self_eq_true, Nat.reduceEqDiff, setParams, Int.reduceLT, Int.reduceLE, Int.reduceGT, Int.reduceGE, Int.reduceEq, Int.reduceNe, Option.map_some, Option.map_none, Option.isSome_none]
    refine Is_in ?_
    simp (disch := first | assumption | omega | (simp only [wkD, oneCell, Option.isSome_some, *]; done) | (simp only [wkE, ne_eq]; omega)) only [g0, g1, g5, wk0, wk1, wk2, wk3, wk4, wk5, X_region, X_seq, X_block, X_loop, X_cond, Y_box, Y_un, Y_store, Y_append, Y_makeMap, Y_buildSlice, ibin_shl, ibin_shr, ibin_and, List.set_cons_zero, List.set_cons_succ, List.getD_cons_zero, List.getD_cons_succ, List.map_cons, List.map_nil, ↓reduceIte, reduceCtorEq, oneCell, List.length_cons, List.length_nil, setAt, readN, bne_iff_ne, ne_eq, Nat.reduceAdd, Nat.reduceLeDiff, List.getElem?_cons_zero, List.getElem?_cons_succ, Nat.reduceMul, Option.isSome_some, layAt, Nat.reduceLT, Option.isNone_some, Option.isNone_none, beq_self_eq_true, Nat.reduceEqDiff, setParams, Int.reduceLT, Int.reduceLE, Int.reduceGT, Int.reduceGE, Int.reduceEq, Int.reduceNe, Option.map_some, Option.map_none, Option.isSome_none]
    exact leaf1 ⟨-1, rfl, Or.inl ⟨rfl, fun j hj => hno j (by omega)⟩⟩

theorem rcut_h {n : Nat} {r : Int} (hn : B.length + 20 < n) (hl : B.length < 60000) (O : Has ro h (Qs qb B :: R)) :
    (callV env (n + 2) (.func (.func 26) #[] #[]) [.pointer (some ⟨qb, 0, none⟩), .int .i64 r] h).Is fun q => ∃ a B', q.1 = .bool a ∧ CutIs B r a B' ∧ Has ro q.2 (Qs qb B' :: R) := by
  refine call_is env26 ?_
  simp (disch := first | assumption | omega | (simp only [wkD, oneCell, Option.isSome_some, *]; done) | (simp only [wkE, ne_eq]; omega)) only [ir26, List.append_nil, List.nil_append, List.cons_append, List.length_cons, List.length_nil, Nat.reduceAdd, Nat.reduceSub, List.replicate_succ, List.replicate_zero, wk0, wk1, wk2, wk3, wk4, wk5, X_region, X_seq, X_block, X_loop, X_cond, Y_box, Y_un, Y_store, Y_append, Y_makeMap, Y_buildSlice, ibin_shl, ibin_shr, ibin_and, List.set_cons_zero, List.set_cons_succ, List.getD_cons_zero, List.getD_cons_succ, List.map_cons, List.map_nil, ↓reduceIte, reduceCtorEq, oneCell, List.length_cons, List.length_nil, setAt, readN, bne_iff_ne, ne_eq, Nat.reduceAdd, Nat.reduceLeDiff, List.getElem?_cons_zero, List.getElem?_cons_succ, Nat.reduceMul, Option.isSome_some, layAt, Nat.reduceLT, Option.isNone_some, Option.isNone_none, beq_self_eq_true, Nat.reduceEqDiff, setParams, Int.reduceLT, Int.reduceLE, Int.reduceGT, Int.reduceGE, Int.reduceEq, Int.reduceNe, Option.map_some, Option.map_none, Option.isSome_none]
  refine Z_is (rfind_h (n := n) (r := r) hn hl O) ?_
  rintro v1 h1 ⟨k, ⟨rfl⟩, hk⟩
  have hpl := hk
  rcases hk with ⟨rfl, hno⟩ | ⟨i, rfl, hi, hr, hno⟩
  · simp (disch := first | assumption | omega | (simp only [wkD, oneCell, Option.isSome_some, *]; done) | (simp only [wkE, ne_eq]; omega)) only [wk0, wk1, wk2, wk3, wk4, wk5, X_region, X_seq, X_block, X_loop, X_cond, Y_box, Y_un, Y_store, Y_append, Y_makeMap, Y_buildSlice, ibin_shl, ibin_shr, ibin_and, List.set_cons_zero, List.set_cons_succ, List.getD_cons_zero, List.getD_cons_succ, List.map_cons, List.map_nil, ↓reduceIte, reduceCtorEq, oneCell, List.length_cons, List.length_nil, setAt, readN, bne_iff_ne, ne_eq, Nat.reduceAdd, Nat.reduceLeDiff, List.getElem?_cons_zero, List.getElem?_cons_succ, Nat.reduceMul, Option.isSome_some, layAt, Nat.reduceLT, Option.isNone_some, Option.isNone_none, beq_self_eq_true, Nat.reduceEqDiff, setParams, Int.reduceLT, Int.reduceLE, Int.reduceGT, Int.reduceGE, Int.reduceEq, Int.reduceNe, Option.map_some, Option.map_none, Option.isSome_none]
    exact leaf1 ⟨false, B, rfl, Or.inl ⟨rfl, hpl, rfl⟩, O⟩
  · have m1 : ¬ (i : Int) < 0 := by omega
    have y1 : IntKind.i64.wrap ((i : Int) + 1) = ((i + 1 : Nat) : Int) := by rw [wrap_i64 (by omega) (by omega)]; omega
    obtain ⟨p, c, hc, hsp, V, O2⟩ := Has.qs O
    have gq := O2.get 0 rfl
    obtain ⟨vt, V1⟩ := vw_take (k := i) V hsp (by omega)
    obtain ⟨w1, h3, ap1, O3⟩ := sc_appendV (bytes := 24) (by omega) ic_len ic_one (O2.scNil (g := ic) (z := 3)) V1 (by rw [List.length_take]; simp only [List.length_nil]; unfold roomMost; omega) (by omega)
    rw [List.nil_append] at O3
    obtain ⟨vd, V2⟩ := vw_drop (k := i + 1) (O3.vw 2 rfl) hsp (by omega)
    obtain ⟨w2, h4, ap2, O4⟩ := sc_appendV (bytes := 24) (by omega) ic_len ic_one O3 V2 (by rw [List.length_take, List.length_drop]; unfold roomMost; omega) (by omega)
    rw [← List.eraseIdx_eq_take_drop_succ] at O4
    have gq3 := O3.get 1 rfl
    have gq4 := O4.get 1 rfl
    have p4 := O4.can 1 rfl
    have O5 := O4.set 1 rfl (.cells [w2] 1 false)
    simp only [List.set_cons_succ, List.set_cons_zero] at O5
    have O6 := Has.mkQs (O5.rid 2 rfl).swap2
    obtain ⟨pw, cw, rfl, z1⟩ := O5.scVal 0 rfl
    clear z1
    simp (disch := first | assumption | omega | (simp only [wkD, oneCell, Option.isSome_some, *]; done) | (simp only [wkE, ne_eq]; omega)) only [m1, gq, vt, ap1, gq3, y1, vd, ap2, gq4, p4, slI', wk0, wk1, wk2, wk3, wk4, wk5, X_region, X_seq, X_block, X_loop, X_cond, Y_box, Y_un, Y_store, Y_append, Y_makeMap, Y_buildSlice, ibin_shl, ibin_shr, ibin_and, List.set_cons_zero, List.set_cons_succ, List.getD_cons_zero, List.getD_cons_succ, List.map_cons, List.map_nil, ↓reduceIte, reduceCtorEq, oneCell, List.length_cons, List.length_nil, setAt, readN, bne_iff_ne, ne_eq, Nat.reduceAdd, Nat.reduceLeDiff, List.getElem?_cons_zero, List.getElem?_cons_succ, Nat.reduceMul, Option.isSome_some, layAt, Nat.reduceLT, Option.isNone_some, Option.isNone_none, beq_self_eq_true, Nat.reduceEqDiff, setParams, Int.reduceLT, Int.reduceLE, Int.reduceGT, Int.reduceGE, Int.reduceEq, Int.reduceNe, Option.map_some, Option.map_none, Option.isSome_none]
    exact leaf1 ⟨true, _, rfl, Or.inr ⟨rfl, i, hpl, hi, rfl⟩, O6⟩
theorem rraise_h {n : Nat} {r p : Int} (hn : B.length + 20 < n) (hl : B.length < 60000) (O : Has ro h (Qs qb B :: R)) :
    (callV env (n + 2) (.func (.func 25) #[] #[]) [.pointer (some ⟨qb, 0, none⟩), .int .i64 r, .int .i64 p] h).Is fun q => ∃ a B', q.1 = .bool a ∧ ((a = false ∧ NoRaise B r p ∧ B' = B) ∨ (a = true ∧ RaiseTo B r p B')) ∧ Has ro q.2 (Qs qb B' :: R) := by
  refine call_is env25 ?_
  simp (disch := first | assumption | omega | (simp only [wkD, oneCell, Option.isSome_some, *]; done) | (simp only [wkE, ne_eq]; omega)) only [ir25, List.append_nil, List.nil_append, List.cons_append, List.length_cons, List.length_nil, Nat.reduceAdd, Nat.reduceSub, List.replicate_succ, List.replicate_zero, wk0, wk1, wk2, wk3, wk4, wk5, X_region, X_seq, X_block, X_loop, X_cond, Y_box, Y_un, Y_store, Y_append, Y_makeMap, Y_buildSlice, ibin_shl, ibin_shr, ibin_and, List.set_cons_zero, List.set_cons_succ, List.getD_cons_zero, List.getD_cons_succ, List.map_cons, List.map_nil, ↓reduceIte, reduceCtorEq, oneCell, List.length_cons, List.length_nil, setAt, readN, bne_iff_ne, ne_eq, Nat.reduceAdd, Nat.reduceLeDiff, List.getElem?_cons_zero, List.getElem?_cons_succ, Nat.reduceMul, Option.isSome_some, layAt, Nat.reduceLT, Option.isNone_some, Option.isNone_none, beq_self_eq_true, Nat.reduceEqDiff, setParams, Int.reduceLT, Int.reduceLE, Int.reduceGT, Int.reduceGE, Int.reduceEq, Int.reduceNe, Option.map_some, Option.map_none, Option.isSome_none]
  refine Z_is (rfind_h (n := n) (r := r) hn hl O) ?_
  rintro v1 h1 ⟨k, ⟨rfl⟩, hk⟩
  have hpl := hk
  rcases hk with ⟨rfl, hno⟩ | ⟨i, rfl, hi, hr, hno⟩
  · simp (disch := first | assumption | omega | (simp only [wkD, oneCell, Option.isSome_some, *]; done) | (simp only [wkE, ne_eq]; omega)) only [wk0, wk1, wk2, wk3, wk4, wk5, X_region, X_seq, X_block, X_loop, X_cond, Y_box, Y_un, Y_store, Y_append, Y_makeMap, Y_buildSlice, ibin_shl, ibin_shr, ibin_and, List.set_cons_zero, List.set_cons_succ, List.getD_cons_zero, List.getD_cons_succ, List.map_cons, List.map_nil, ↓reduceIte, reduceCtorEq, oneCell, List.length_cons, List.length_nil, setAt, readN, bne_iff_ne, ne_eq, Nat.reduceAdd, Nat.reduceLeDiff, List.getElem?_cons_zero, List.getElem?_cons_succ, Nat.reduceMul, Option.isSome_some, layAt, Nat.reduceLT, Option.isNone_some, Option.isNone_none, beq_self_eq_true, Nat.reduceEqDiff, setParams, Int.reduceLT, Int.reduceLE, Int.reduceGT, Int.reduceGE, Int.reduceEq, Int.reduceNe, Option.map_some, Option.map_none, Option.isSome_none]
    exact leaf1 ⟨false, B, rfl, Or.inl ⟨rfl, Or.inl hpl, rfl⟩, O⟩
  · have m1 : ¬ (i : Int) < 0 := by omega
    have c0 : (0 : Int) ≤ (i : Int) := by omega
    have hi' : (i : Int) < (B.length : Int) := by omega
    obtain ⟨pp, c, hc, hsp, V, O2⟩ := Has.qs O
    have gq := O2.get 0 rfl
    obtain ⟨b, sp, rfl, _, hw⟩ := Has.scWr O2.swap2 hi
    obtain ⟨h2, w2, O3⟩ := hw p
    obtain ⟨b1, o1, sp1, he, r1, r2, r3⟩ := rdW V hi
    cases he
    rw [Nat.zero_add] at r3
    by_cases hp : 15 < p
    · simp (disch := first | assumption | omega | (simp only [wkD, oneCell, Option.isSome_some, *]; done) | (simp only [wkE, ne_eq]; omega)) only [m1, hp, wk0, wk1, wk2, wk3, wk4, wk5, X_region, X_seq, X_block, X_loop, X_cond, Y_box, Y_un, Y_store, Y_append, Y_makeMap, Y_buildSlice, ibin_shl, ibin_shr, ibin_and, List.set_cons_zero, List.set_cons_succ, List.getD_cons_zero, List.getD_cons_succ, List.map_cons, List.map_nil, ↓reduceIte, reduceCtorEq, oneCell, List.length_cons, List.length_nil, setAt, readN, bne_iff_ne, ne_eq, Nat.reduceAdd, Nat.reduceLeDiff, List.getElem?_cons_zero, List.getElem?_cons_succ, Nat.reduceMul, Option.isSome_some, layAt, Nat.reduceLT, Option.isNone_some, Option.isNone_none, beq_self_eq_true, Nat.reduceEqDiff, setParams, Int.reduceLT, Int.reduceLE, Int.reduceGT, Int.reduceGE, Int.reduceEq, Int.reduceNe, Option.map_some, Option.map_none, Option.isSome_none]
      exact leaf1 ⟨false, B, rfl, Or.inl ⟨rfl, Or.inr ⟨i, hpl, hi, Or.inl hp⟩, rfl⟩, O⟩
    by_cases hq : p ≤ (nth B i).p
    · simp (disch := first | assumption | omega | (simp only [wkD, oneCell, Option.isSome_some, *]; done) | (simp only [wkE, ne_eq]; omega)) only [m1, hp, gq, c0, hi', Int.toNat_natCast, r3, hq, wk0, wk1, wk2, wk3, wk4, wk5, X_region, X_seq, X_block, X_loop, X_cond, Y_box, Y_un, Y_store, Y_append, Y_makeMap, Y_buildSlice, ibin_shl, ibin_shr, ibin_and, List.set_cons_zero, List.set_cons_succ, List.getD_cons_zero, List.getD_cons_succ, List.map_cons, List.map_nil, ↓reduceIte, reduceCtorEq, oneCell, List.length_cons, List.length_nil, setAt, readN, bne_iff_ne, ne_eq, Nat.reduceAdd, Nat.reduceLeDiff, List.getElem?_cons_zero, List.getElem?_cons_succ, Nat.reduceMul, Option.isSome_some, layAt, Nat.reduceLT, Option.isNone_some, Option.isNone_none, beq_self_eq_true, Nat.reduceEqDiff, setParams, Int.reduceLT, Int.reduceLE, Int.reduceGT, Int.reduceGE, Int.reduceEq, Int.reduceNe, Option.map_some, Option.map_none, Option.isSome_none]
      exact leaf1 ⟨false, B, rfl, Or.inl ⟨rfl, Or.inr ⟨i, hpl, hi, Or.inr hq⟩, rfl⟩, O⟩
    · simp (disch := first | assumption | omega | (simp only [wkD, oneCell, Option.isSome_some, *]; done) | (simp only [wkE, ne_eq]; omega)) only [m1, hp, gq, c0, hi', Int.toNat_natCast, r3, hq, w2, wk0, wk1, wk2, wk3, wk4, wk5, X_region, X_seq, X_block, X_loop, X_cond, Y_box, Y_un, Y_store, Y_append, Y_makeMap, Y_buildSlice, ibin_shl, ibin_shr, ibin_and, List.set_cons_zero, List.set_cons_succ, List.getD_cons_zero, List.getD_cons_succ, List.map_cons, List.map_nil, ↓reduceIte, reduceCtorEq, oneCell, List.length_cons, List.length_nil, setAt, readN, bne_iff_ne, ne_eq, Nat.reduceAdd, Nat.reduceLeDiff, List.getElem?_cons_zero, List.getElem?_cons_succ, Nat.reduceMul, Option.isSome_some, layAt, Nat.reduceLT, Option.isNone_some, Option.isNone_none, beq_self_eq_true, Nat.reduceEqDiff, setParams, Int.reduceLT, Int.reduceLE, Int.reduceGT, Int.reduceGE, Int.reduceEq, Int.reduceNe, Option.map_some, Option.map_none, Option.isSome_none]
      exact leaf1 ⟨true, _, rfl, Or.inr ⟨rfl, i, hpl, hi, by omega, by omega, rfl⟩, Has.mkQs O3.swap2⟩

def RPutIs (l : List It) (x : It) (a : Bool) (e : Int) (l' : List It) : Prop :=
  (BadW x ∧ a = false ∧ e = 2 ∧ l' = l) ∨ (¬ BadW x ∧ IsPlace l x.r (-1) ∧ 8 ≤ l.length ∧ a = false ∧ e = 0 ∧ l' = l) ∨ (¬ BadW x ∧ a = true ∧ e = 0 ∧ PutTo l x l')

theorem rput_h {n : Nat} (hn : B.length + 20 < n) (hl : B.length < 60000) (O : Has ro h (Qs qb B :: R)) (x : It) :
    (callV env (n + 2) (.func (.func 24) #[] #[]) [.pointer (some ⟨qb, 0, none⟩), iv x] h).Is fun q => ∃ a e B', q.1 = .tuple #[.bool a, .int .i64 e] ∧ RPutIs B x a e B' ∧ Has ro q.2 (Qs qb B' :: R) := by
  refine call_is env24 ?_
  simp (disch := first | assumption | omega | (simp only [wkD, oneCell, Option.isSome_some, *]; done) | (simp only [wkE, ne_eq]; omega)) only [ir24, List.append_nil, List.nil_append, List.cons_append, List.length_cons, List.length_nil, Nat.reduceAdd, Nat.reduceSub, List.replicate_succ, List.replicate_zero, wk0, wk1, wk2, wk3, wk4, wk5, X_region, X_seq, X_block, X_loop, X_cond, Y_un, Y_store, Y_append, Y_makeMap, Y_buildSlice, ibin_shl, ibin_shr, ibin_and, List.set_cons_zero, List.set_cons_succ, List.getD_cons_zero, List.getD_cons_succ, List.map_cons, List.map_nil, ↓reduceIte, reduceCtorEq, oneCell, List.length_cons, List.length_nil, setAt, readN, bne_iff_ne, ne_eq, Nat.reduceAdd, Nat.reduceLeDiff, List.getElem?_cons_zero, List.getElem?_cons_succ, Nat.reduceMul, Option.isSome_some, layAt, Nat.reduceLT, Option.isNone_some, Option.isNone_none, beq_self_eq_true, Nat.reduceEqDiff, setParams, Int.reduceLT, Int.reduceLE, Int.reduceGT, Int.reduceGE, Int.reduceEq, Int.reduceNe, Option.map_some, Option.map_none, Option.isSome_none]
  refine Y_boxO O ?_
  intro xb h1 O1 e1
  replace O1 : Has ro h1 (Ob xb (.cells (ic x) 1 false) :: Qs qb B :: R) := O1
  have gx := O1.get 0 rfl
  have x0 : readC (some (.cells (ic x) 1 false)) 0 1 = some [.int .i64 x.r] := rfl
  have x2 : readC (some (.cells (ic x) 1 false)) 2 1 = some [.int .i64 x.p] := rfl
  by_cases hbad : BadW x
  · have hfin : ∀ (tm : List Value), tm.getD 4 undefV = .bool false → tm.getD 5 undefV = .int .i64 2 → (T.ret (IExit.ret, St.mk tm [] h1)).Is (Fin [.tmp 4, .tmp 5] fun q => ∃ a e B', q.1 = .tuple #[.bool a, .int .i64 e] ∧ RPutIs B x a e B' ∧ Has ro q.2 (Qs qb B' :: R)) := fun tm t4 t5 =>
      leafO _ (answer2 _ _ _ _ rfl rfl) ⟨false, 2, B, by rw [t4, t5], Or.inl ⟨hbad, rfl, rfl, rfl⟩, O1.drop⟩
    by_cases b1 : x.r < 0
    · simp (disch := first | assumption | omega | (simp only [wkD, oneCell, Option.isSome_some, *]; done) | (simp only [wkE, ne_eq]; omega)) only [gx, x0, x2, b1, wk0, wk1, wk2, wk3, wk4, wk5, X_region, X_seq, X_block, X_loop, X_cond, Y_box, Y_un, Y_store, Y_append, Y_makeMap, Y_buildSlice, ibin_shl, ibin_shr, ibin_and, List.set_cons_zero, List.set_cons_succ, List.getD_cons_zero, List.getD_cons_succ, List.map_cons, List.map_nil, ↓reduceIte, reduceCtorEq, oneCell, List.length_cons, List.length_nil, setAt, readN, bne_iff_ne, ne_eq, Nat.reduceAdd, Nat.reduceLeDiff, List.getElem?_cons_zero, List.getElem?_cons_succ, Nat.reduceMul, Option.isSome_some, layAt, Nat.reduceLT, Option.isNone_some, Option.isNone_none, beq_self_eq_true, Nat.reduceEqDiff, setParams, Int.reduceLT, Int.reduceLE, Int.reduceGT, Int.reduceGE, Int.reduceEq, Int.reduceNe, Option.map_some, Option.map_none, Option.isSome_none]
      exact hfin _ rfl rfl
    by_cases b2 : 64 ≤ x.r
    · simp (disch := first | assumption | omega | (simp only [wkD, oneCell, Option.isSome_some, *]; done) | (simp only [wkE, ne_eq]; omega)) only [gx, x0, x2, b1, b2, wk0, wk1, wk2, wk3, wk4, wk5, X_region, X_seq, X_block, X_loop, X_cond, Y_box, Y_un, Y_store, Y_append, Y_makeMap, Y_buildSlice, ibin_shl, ibin_shr, ibin_and, List.set_cons_zero, List.set_cons_succ, List.getD_cons_zero, List.getD_cons_succ, List.map_cons, List.map_nil, ↓reduceIte, reduceCtorEq, oneCell, List.length_cons, List.length_nil, setAt, readN, bne_iff_ne, ne_eq, Nat.reduceAdd, Nat.reduceLeDiff, List.getElem?_cons_zero, List.getElem?_cons_succ, Nat.reduceMul, Option.isSome_some, layAt, Nat.reduceLT, Option.isNone_some, Option.isNone_none, beq_self_eq_true, Nat.reduceEqDiff, setParams, Int.reduceLT, Int.reduceLE, Int.reduceGT, Int.reduceGE, Int.reduceEq, Int.reduceNe, Option.map_some, Option.map_none, Option.isSome_none]
      exact hfin _ rfl rfl
    by_cases b3 : x.p < 0
    · simp (disch := first | assumption | omega | (simp only [wkD, oneCell, Option.isSome_some, *]; done) | (simp only [wkE, ne_eq]; omega)) only [gx, x0, x2, b1, b2, b3, wk0, wk1, wk2, wk3, wk4, wk5, X_region, X_seq, X_block, X_loop, X_cond, Y_box, Y_un, Y_store, Y_append, Y_makeMap, Y_buildSlice, ibin_shl, ibin_shr, ibin_and, List.set_cons_zero, List.set_cons_succ, List.getD_cons_zero, List.getD_cons_succ, List.map_cons, List.map_nil, ↓reduceIte, reduceCtorEq, oneCell, List.length_cons, List.length_nil, setAt, readN, bne_iff_ne, ne_eq, Nat.reduceAdd, Nat.reduceLeDiff, List.getElem?_cons_zero, List.getElem?_cons_succ, Nat.reduceMul, Option.isSome_some, layAt, Nat.reduceLT, Option.isNone_some, Option.isNone_none, beq_self_eq_true, Nat.reduceEqDiff, setParams, Int.reduceLT, Int.reduceLE, Int.reduceGT, Int.reduceGE, Int.reduceEq, Int.reduceNe, Option.map_some, Option.map_none, Option.isSome_none]
      exact hfin _ rfl rfl
    have b4 : 15 < x.p := by unfold BadW at hbad; omega
    simp (disch := first | assumption | omega | (simp only [wkD, oneCell, Option.isSome_some, *]; done) | (simp only [wkE, ne_eq]; omega)) only [gx, x0, x2, b1, b2, b3, b4, wk0, wk1, wk2, wk3, wk4, wk5, X_region, X_seq, X_block, X_loop, X_cond, Y_box, Y_un, Y_store, Y_append, Y_makeMap, Y_buildSlice, ibin_shl, ibin_shr, ibin_and, List.set_cons_zero, List.set_cons_succ, List.getD_cons_zero, List.getD_cons_succ, List.map_cons, List.map_nil, ↓reduceIte, reduceCtorEq, oneCell, List.length_cons, List.length_nil, setAt, readN, bne_iff_ne, ne_eq, Nat.reduceAdd, Nat.reduceLeDiff, List.getElem?_cons_zero, List.getElem?_cons_succ, Nat.reduceMul, Option.isSome_some, layAt, Nat.reduceLT, Option.isNone_some, Option.isNone_none, beq_self_eq_true, Nat.reduceEqDiff, setParams, Int.reduceLT, Int.reduceLE, Int.reduceGT, Int.reduceGE, Int.reduceEq, Int.reduceNe, Option.map_some, Option.map_none, Option.isSome_none]
    exact hfin _ rfl rfl
  have b1 : ¬ x.r < 0 := fun h => hbad (Or.inl h)
  have b2 : ¬ 64 ≤ x.r := fun h => hbad (Or.inr (Or.inl h))
  have b3 : ¬ x.p < 0 := fun h => hbad (Or.inr (Or.inr (Or.inl h)))
  have b4 : ¬ 15 < x.p := fun h => hbad (Or.inr (Or.inr (Or.inr h)))
  simp (disch := first | assumption | omega | (simp only [wkD, oneCell, Option.isSome_some, *]; done) | (simp only [wkE, ne_eq]; omega)) only [gx, x0, x2, b1, b2, b3, b4, wk0, wk1, wk2, wk3, wk4, wk5, X_region, X_seq, X_block, X_loop, X_cond, Y_box, Y_un, Y_store, Y_append, Y_makeMap, Y_buildSlice, ibin_shl, ibin_shr, ibin_and, List.set_cons_zero, List.set_cons_succ, List.getD_cons_zero, List.getD_cons_succ, List.map_cons, List.map_nil, ↓reduceIte, reduceCtorEq, oneCell, List.length_cons, List.length_nil, setAt, readN, bne_iff_ne, ne_eq, Nat.reduceAdd, Nat.reduceLeDiff, List.getElem?_cons_zero, List.getElem?_cons_succ, Nat.reduceMul, Option.isSome_some, layAt, Nat.reduceLT, Option.isNone_some, Option.isNone_none, beq_self_eq_true, Nat.reduceEqDiff, setParams, Int.reduceLT, Int.reduceLE, Int.reduceGT, Int.reduceGE, Int.reduceEq, Int.reduceNe, Option.map_some, Option.map_none, Option.isSome_none]
  refine Z_is (rfind_h (n := n) (r := x.r) hn hl (O1.at 1 rfl)) ?_
  rintro v2 h2 ⟨k, ⟨rfl⟩, hk⟩
  have hpl := hk
  obtain ⟨pp, c, hc, hsp, V, O2⟩ := Has.qs (O1.at 1 rfl)
  simp only [List.eraseIdx_cons_succ, List.eraseIdx_cons_zero] at O2
  have gq := O2.get 0 rfl
  rcases hk with ⟨rfl, hno⟩ | ⟨i, rfl, hi, hr, hno⟩
  · by_cases h8 : (8 : Int) ≤ (B.length : Int)
    · simp (disch := first | assumption | omega | (simp only [wkD, oneCell, Option.isSome_some, *]; done) | (simp only [wkE, ne_eq]; omega)) only [gq, h8, wk0, wk1, wk2, wk3, wk4, wk5, X_region, X_seq, X_block, X_loop, X_cond, Y_box, Y_un, Y_store, Y_append, Y_makeMap, Y_buildSlice, ibin_shl, ibin_shr, ibin_and, List.set_cons_zero, List.set_cons_succ, List.getD_cons_zero, List.getD_cons_succ, List.map_cons, List.map_nil, ↓reduceIte, reduceCtorEq, oneCell, List.length_cons, List.length_nil, setAt, readN, bne_iff_ne, ne_eq, Nat.reduceAdd, Nat.reduceLeDiff, List.getElem?_cons_zero, List.getElem?_cons_succ, Nat.reduceMul, Option.isSome_some, layAt, Nat.reduceLT, Option.isNone_some, Option.isNone_none, beq_self_eq_true, Nat.reduceEqDiff, setParams, Int.reduceLT, Int.reduceLE, Int.reduceGT, Int.reduceGE, Int.reduceEq, Int.reduceNe, Option.map_some, Option.map_none, Option.isSome_none]
      exact leafO _ (answer2 _ _ _ _ rfl rfl) ⟨false, 0, B, rfl, Or.inr (Or.inl ⟨hbad, hpl, by omega, rfl, rfl, rfl⟩), O1.drop⟩
    · simp (disch := first | assumption | omega | (simp only [wkD, oneCell, Option.isSome_some, *]; done) | (simp only [wkE, ne_eq]; omega)) only [gq, h8, wk0, wk1, wk2, wk3, wk4, wk5, X_region, X_seq, X_block, X_loop, X_cond, Y_box, Y_un, Y_store, Y_append, Y_makeMap, Y_buildSlice, ibin_shl, ibin_shr, ibin_and, List.set_cons_zero, List.set_cons_succ, List.getD_cons_zero, List.getD_cons_succ, List.map_cons, List.map_nil, ↓reduceIte, reduceCtorEq, oneCell, List.length_cons, List.length_nil, setAt, readN, bne_iff_ne, ne_eq, Nat.reduceAdd, Nat.reduceLeDiff, List.getElem?_cons_zero, List.getElem?_cons_succ, Nat.reduceMul, Option.isSome_some, layAt, Nat.reduceLT, Option.isNone_some, Option.isNone_none, beq_self_eq_true, Nat.reduceEqDiff, setParams, Int.reduceLT, Int.reduceLE, Int.reduceGT, Int.reduceGE, Int.reduceEq, Int.reduceNe, Option.map_some, Option.map_none, Option.isSome_none]
      refine X_drawn _ fun an => ?_
      have O3 := O2.alloc (.cells (ic x) 3 false)
      have V3 : Vw 3 ic _ (.slice (some ⟨2 * h1.next, 0, none⟩) 1 1) [x] := O3.one 0 rfl
      obtain ⟨w, h4, ap, O4⟩ := sc_appendV (bytes := 24) (by omega) ic_len ic_one (O3.at 2 rfl) V3 (by simp only [List.length_cons, List.length_nil]; unfold roomMost; omega) (by omega)
      simp only [List.eraseIdx_cons_succ, List.eraseIdx_cons_zero] at O4
      have bs : pBuildSlice h1 3 1 [.int .i64 0, .int .u64 0, .int .i64 0] [(0, 3, iv x)] = some (.slice (some ⟨2 * h1.next, 0, none⟩) 1 1, h1.alloc (.cells (ic x) 3 false)) := rfl
      have gq4 := O4.get 2 rfl
      have p4 := O4.can 2 rfl
      have O5 := O4.set 2 rfl (.cells [w] 1 false)
      simp only [List.set_cons_succ, List.set_cons_zero] at O5
      obtain ⟨pw, cw, rfl, z1⟩ := O5.scVal 0 rfl
      clear z1
      simp (disch := first | assumption | omega | (simp only [wkD, oneCell, Option.isSome_some, *]; done) | (simp only [wkE, ne_eq]; omega)) only [gq, gx, ic_len, tk_ic, rd_full, agg_ic, bs, ap, gq4, p4, slI', wk0, wk1, wk2, wk3, wk4, wk5, X_region, X_seq, X_block, X_loop, X_cond, Y_box, Y_un, Y_store, Y_append, Y_makeMap, Y_buildSlice, ibin_shl, ibin_shr, ibin_and, List.set_cons_zero, List.set_cons_succ, List.getD_cons_zero, List.getD_cons_succ, List.map_cons, List.map_nil, ↓reduceIte, reduceCtorEq, oneCell, List.length_cons, List.length_nil, setAt, readN, bne_iff_ne, ne_eq, Nat.reduceAdd, Nat.reduceLeDiff, List.getElem?_cons_zero, List.getElem?_cons_succ, Nat.reduceMul, Option.isSome_some, layAt, Nat.reduceLT, Option.isNone_some, Option.isNone_none, beq_self_eq_true, Nat.reduceEqDiff, setParams, Int.reduceLT, Int.reduceLE, Int.reduceGT, Int.reduceGE, Int.reduceEq, Int.reduceNe, Option.map_some, Option.map_none, Option.isSome_none]
      refine leafO _ (answer2 _ _ _ _ rfl rfl) ⟨true, 0, _, rfl, Or.inr (Or.inr ⟨hbad, rfl, rfl, Or.inl ⟨hpl, by omega, rfl⟩⟩), ?_⟩
      exact Has.mkQs ((O5.rid 1 rfl).rid 2 rfl).swap2
  · have m1 : ¬ (i : Int) < 0 := by omega
    have c0 : (0 : Int) ≤ (i : Int) := by omega
    have hi' : (i : Int) < (B.length : Int) := by omega
    obtain ⟨b, sp, rfl, hw, _⟩ := Has.scWr O2.swap2 hi
    obtain ⟨h3, w3, O3⟩ := hw x
    obtain ⟨b1', o1, sp1, he, r1, r2, r3⟩ := rdW V hi
    cases he
    rw [Nat.zero_add] at r3
    simp (disch := first | assumption | omega | (simp only [wkD, oneCell, Option.isSome_some, *]; done) | (simp only [wkE, ne_eq]; omega)) only [m1, wk0, wk1, wk2, wk3, wk4, wk5, X_region, X_seq, X_block, X_loop, X_cond, Y_box, Y_un, Y_store, Y_append, Y_makeMap, Y_buildSlice, ibin_shl, ibin_shr, ibin_and, List.set_cons_zero, List.set_cons_succ, List.getD_cons_zero, List.getD_cons_succ, List.map_cons, List.map_nil, ↓reduceIte, reduceCtorEq, oneCell, List.length_cons, List.length_nil, setAt, readN, bne_iff_ne, ne_eq, Nat.reduceAdd, Nat.reduceLeDiff, List.getElem?_cons_zero, List.getElem?_cons_succ, Nat.reduceMul, Option.isSome_some, layAt, Nat.reduceLT, Option.isNone_some, Option.isNone_none, beq_self_eq_true, Nat.reduceEqDiff, setParams, Int.reduceLT, Int.reduceLE, Int.reduceGT, Int.reduceGE, Int.reduceEq, Int.reduceNe, Option.map_some, Option.map_none, Option.isSome_none]
    refine X_drawn _ fun an => ?_
    by_cases hq : (nth B i).p < x.p
    · simp (disch := first | assumption | omega | (simp only [wkD, oneCell, Option.isSome_some, *]; done) | (simp only [wkE, ne_eq]; omega)) only [gq, c0, hi', Int.toNat_natCast, r3, gx, x2, hq, wk0, wk1, wk2, wk3, wk4, wk5, X_region, X_seq, X_block, X_loop, X_cond, Y_box, Y_un, Y_store, Y_append, Y_makeMap, Y_buildSlice, ibin_shl, ibin_shr, ibin_and, List.set_cons_zero, List.set_cons_succ, List.getD_cons_zero, List.getD_cons_succ, List.map_cons, List.map_nil, ↓reduceIte, reduceCtorEq, oneCell, List.length_cons, List.length_nil, setAt, readN, bne_iff_ne, ne_eq, Nat.reduceAdd, Nat.reduceLeDiff, List.getElem?_cons_zero, List.getElem?_cons_succ, Nat.reduceMul, Option.isSome_some, layAt, Nat.reduceLT, Option.isNone_some, Option.isNone_none, beq_self_eq_true, Nat.reduceEqDiff, setParams, Int.reduceLT, Int.reduceLE, Int.reduceGT, Int.reduceGE, Int.reduceEq, Int.reduceNe, Option.map_some, Option.map_none, Option.isSome_none]
      refine X_drawn _ fun an2 => ?_
      simp (disch := first | assumption | omega | (simp only [wkD, oneCell, Option.isSome_some, *]; done) | (simp only [wkE, ne_eq]; omega)) only [gq, c0, hi', Int.toNat_natCast, gx, ic_len, tk_ic, rd_full, agg_ic, iv_cells, w3, wk0, wk1, wk2, wk3, wk4, wk5, X_region, X_seq, X_block, X_loop, X_cond, Y_box, Y_un, Y_store, Y_append, Y_makeMap, Y_buildSlice, ibin_shl, ibin_shr, ibin_and, List.set_cons_zero, List.set_cons_succ, List.getD_cons_zero, List.getD_cons_succ, List.map_cons, List.map_nil, ↓reduceIte, reduceCtorEq, oneCell, List.length_cons, List.length_nil, setAt, readN, bne_iff_ne, ne_eq, Nat.reduceAdd, Nat.reduceLeDiff, List.getElem?_cons_zero, List.getElem?_cons_succ, Nat.reduceMul, Option.isSome_some, layAt, Nat.reduceLT, Option.isNone_some, Option.isNone_none, beq_self_eq_true, Nat.reduceEqDiff, setParams, Int.reduceLT, Int.reduceLE, Int.reduceGT, Int.reduceGE, Int.reduceEq, Int.reduceNe, Option.map_some, Option.map_none, Option.isSome_none]
      exact leafO _ (answer2 _ _ _ _ rfl rfl) ⟨true, 0, _, rfl, Or.inr (Or.inr ⟨hbad, rfl, rfl, Or.inr ⟨i, hpl, hi, Or.inl ⟨hq, rfl⟩⟩⟩), Has.mkQs (O3.swap2.rid 2 rfl)⟩
    · simp (disch := first | assumption | omega | (simp only [wkD, oneCell, Option.isSome_some, *]; done) | (simp only [wkE, ne_eq]; omega)) only [gq, c0, hi', Int.toNat_natCast, r3, gx, x2, hq, wk0, wk1, wk2, wk3, wk4, wk5, X_region, X_seq, X_block, X_loop, X_cond, Y_box, Y_un, Y_store, Y_append, Y_makeMap, Y_buildSlice, ibin_shl, ibin_shr, ibin_and, List.set_cons_zero, List.set_cons_succ, List.getD_cons_zero, List.getD_cons_succ, List.map_cons, List.map_nil, ↓reduceIte, reduceCtorEq, oneCell, List.length_cons, List.length_nil, setAt, readN, bne_iff_ne, ne_eq, Nat.reduceAdd, Nat.reduceLeDiff, List.getElem?_cons_zero, List.getElem?_cons_succ, Nat.reduceMul, Option.isSome_some, layAt, Nat.reduceLT, Option.isNone_some, Option.isNone_none, beq_self_eq_true, Nat.reduceEqDiff, setParams, Int.reduceLT, Int.reduceLE, Int.reduceGT, Int.reduceGE, Int.reduceEq, Int.reduceNe, Option.map_some, Option.map_none, Option.isSome_none]
      exact leafO _ (answer2 _ _ _ _ rfl rfl) ⟨true, 0, _, rfl, Or.inr (Or.inr ⟨hbad, rfl, rfl, Or.inr ⟨i, hpl, hi, Or.inr ⟨hq, rfl⟩⟩⟩), O1.drop⟩
end
end Go.Proofs.Ytlhocgeppgdopaa
