/-
  The document's equality of packets, where they are the same; bytes as texts.
-/
import Derived.Test.YtpodmgbnldmlcaaDoorFk
import Derived.Test.YtpodmgbnldmlcaaDoorPur
namespace Go.Proofs.YtpodmgbnldmlcaaDoor
open Go Go.Ideal Go.ChangeShapes Go.RowKit
set_option maxHeartbeats 0
set_option linter.unusedSimpArgs false
set_option linter.unusedVariables false
set_option maxRecDepth 100000
attribute [local irreducible] callV T.All T.Is run
theorem env19 : env 19 = some ir19 := rfl
theorem env23 : env 23 = some ir23 := rfl
section
variable {ro : Nat → Option (List Value × Nat)} {h : Heap} {R : List Rs} {m : Msg} {l : List Cl}
theorem refSame_t {n : Nat} {v1 v2 : Value} (hn : 100 < n) (hl : l.length < n) (hm : l.length ≤ 1000000) (V : ∀ h, Has ro h R → Vw 2 cc h v1 l) (W : ∀ h, Has ro h R → Vw 2 cc h v2 l) (O : Has ro h R) :
    (callV env (n + 1) (.func (.func 23) #[] #[]) [mv { m with cl := v1 }, mv { m with cl := v2 }] h).Is fun q => q.1 = .bool true ∧ Has ro q.2 R := by
  refine call_is env23 ?_
  obtain ⟨p1, c1, hv1, _⟩ := (V _ O).len
  obtain ⟨p2, c2, hv2, _⟩ := (W _ O).len
  simp (disch := first | assumption | omega | (simp only [wkD, oneCell, Option.isSome_some, *]; done) | (simp only [wkE, ne_eq]; omega)) only [ir23, List.append_nil, List.nil_append, List.cons_append, List.length_cons, List.length_nil, Nat.reduceAdd, Nat.reduceSub, List.replicate_succ, List.replicate_zero, mv, wkF, X_region, X_seq, X_block, X_loop, X_cond, Y_un, Y_store, Y_append, Y_makeMap, Y_buildSlice, ibin_shl, ibin_shr, ibin_and, ↓reduceIte, reduceCtorEq, oneCell, setAt, readN, Nat.reduceAdd, Nat.reduceLeDiff, Nat.reduceMul, layAt, Nat.reduceLT, Nat.reduceEqDiff, setParams, Int.reduceLT, Int.reduceLE, Int.reduceGT, Int.reduceGE, Int.reduceEq, Int.reduceNe]
  refine Y_boxO O ?_
  intro mb h1 O1 e1
  replace O1 : Has ro h1 (Ob mb (.cells (mc { m with cl := v1 }) 1 false) :: R) := O1
  simp (disch := first | assumption | omega | (simp only [wkD, oneCell, Option.isSome_some, *]; done) | (simp only [wkE, ne_eq]; omega)) only [wkF, X_region, X_seq, X_block, X_loop, X_cond, Y_un, Y_store, Y_append, Y_makeMap, Y_buildSlice, ibin_shl, ibin_shr, ibin_and, ↓reduceIte, reduceCtorEq, oneCell, setAt, readN, Nat.reduceAdd, Nat.reduceLeDiff, Nat.reduceMul, layAt, Nat.reduceLT, Nat.reduceEqDiff, setParams, Int.reduceLT, Int.reduceLE, Int.reduceGT, Int.reduceGE, Int.reduceEq, Int.reduceNe]
  refine Y_boxO O1 ?_
  intro nb h2 O2 e2
  replace O2 : Has ro h2 (Ob nb (.cells (mc { m with cl := v2 }) 1 false) :: Ob mb (.cells (mc { m with cl := v1 }) 1 false) :: R) := O2
  obtain ⟨q0, q1, q2, q3, q4, q5, q6, q7, q8, _⟩ := rdm (O2.get 1 rfl)
  obtain ⟨u0, u1, u2, u3, u4, u5, u6, u7, u8, _⟩ := rdm (O2.get 0 rfl)
  simp only [hv1, hv2] at q8 u8
  simp (disch := first | assumption | omega | (simp only [wkD, oneCell, Option.isSome_some, *]; done) | (simp only [wkE, ne_eq]; omega)) only [q0, q1, q2, q3, q4, q5, q6, q7, q8, u0, u1, u2, u3, u4, u5, u6, u7, u8, wkF, X_region, X_seq, X_block, X_loop, X_cond, Y_box, Y_un, Y_store, Y_append, Y_makeMap, Y_buildSlice, ibin_shl, ibin_shr, ibin_and, ↓reduceIte, reduceCtorEq, oneCell, setAt, readN, Nat.reduceAdd, Nat.reduceLeDiff, Nat.reduceMul, layAt, Nat.reduceLT, Nat.reduceEqDiff, setParams, Int.reduceLT, Int.reduceLE, Int.reduceGT, Int.reduceGE, Int.reduceEq, Int.reduceNe]
  refine L_is (fun q s => ∃ (i : Nat), s.defers = [] ∧ s.tmps.length = 87 ∧ s.tmps.getD 2 undefV = .pointer (some ⟨mb, 0, none⟩) ∧ s.tmps.getD 3 undefV = .pointer (some ⟨nb, 0, none⟩) ∧ s.tmps.getD 5 undefV = .int .i64 (i : Int) ∧ q = l.length - i ∧ i ≤ l.length ∧ s.h = h2) l.length ?_ (by omega) ?_
  · exact ⟨0, rfl, rfl, rfl, rfl, rfl, rfl, by omega, rfl⟩
  rintro q_ tm df h3 ⟨i, hd, hlen_, g2, g3, g5, hq, hi, hh⟩
  simp only at hd g2 g3 g5 hh
  subst hd
  obtain ⟨w, hg_, rfl⟩ := explode hlen_
  simp only [hg_] at g2 g3 g5
  clear hlen_ hg_
  subst hh
  have OR := O2.drop.drop
  by_cases hlt : i < l.length
  · have hlt' : (i : Int) < (l.length : Int) := by omega
    have c0 : (0 : Int) ≤ (i : Int) := by omega
    have y1 : IntKind.i64.wrap ((i : Int) + 1) = ((i + 1 : Nat) : Int) := by rw [wrap_i64 (by omega) (by omega)]; omega
    obtain ⟨b1, o1, s1, d1, hx1, k1, -⟩ := rdcl (V _ OR) hlt
    obtain ⟨b2, o2, s2, d2, hx2, k2, -⟩ := rdcl (W _ OR) hlt
    rw [hx1] at hv1
    rw [hx2] at hv2
    cases hv1
    cases hv2
    simp (disch := first | assumption | omega | (simp only [wkD, oneCell, Option.isSome_some, *]; done) | (simp only [wkE, ne_eq]; omega)) only [g2, g3, g5, q8, hlt', wkF, X_region, X_seq, X_block, X_loop, Y_box, Y_un, Y_store, Y_append, Y_makeMap, Y_buildSlice, ibin_shl, ibin_shr, ibin_and, ↓reduceIte, reduceCtorEq, oneCell, setAt, readN, Nat.reduceAdd, Nat.reduceLeDiff, Nat.reduceMul, layAt, Nat.reduceLT, Nat.reduceEqDiff, setParams, Int.reduceLT, Int.reduceLE, Int.reduceGT, Int.reduceGE, Int.reduceEq, Int.reduceNe]
    rw [X_cond]
    simp (disch := first | assumption | omega | (simp only [wkD, oneCell, Option.isSome_some, *]; done) | (simp only [wkE, ne_eq]; omega)) only [wkF, X_region, X_seq, X_block, X_loop, X_cond, Y_box, Y_un, Y_store, Y_append, Y_makeMap, Y_buildSlice, ibin_shl, ibin_shr, ibin_and, ↓reduceIte, reduceCtorEq, oneCell, setAt, readN, Nat.reduceAdd, Nat.reduceLeDiff, Nat.reduceMul, layAt, Nat.reduceLT, Nat.reduceEqDiff, setParams, Int.reduceLT, Int.reduceLE, Int.reduceGT, Int.reduceGE, Int.reduceEq, Int.reduceNe]
    refine X_drawn _ fun an => ?_
    simp (disch := first | assumption | omega | (simp only [wkD, oneCell, Option.isSome_some, *]; done) | (simp only [wkE, ne_eq]; omega)) only [g2, g3, g5, q8, u8, hlt', c0, k1, k2, Int.toNat_natCast, vEqCl, y1, wkF, X_region, X_seq, X_block, X_loop, X_cond, Y_box, Y_un, Y_store, Y_append, Y_makeMap, Y_buildSlice, ibin_shl, ibin_shr, ibin_and, ↓reduceIte, reduceCtorEq, oneCell, setAt, readN, Nat.reduceAdd, Nat.reduceLeDiff, Nat.reduceMul, layAt, Nat.reduceLT, Nat.reduceEqDiff, setParams, Int.reduceLT, Int.reduceLE, Int.reduceGT, Int.reduceGE, Int.reduceEq, Int.reduceNe]
    exact Is_in ⟨l.length - (i + 1), by omega, i + 1, rfl, rfl, rfl, rfl, rfl, rfl, by omega, rfl⟩
  · have hlt' : ¬ (i : Int) < (l.length : Int) := by omega
    simp (disch := first | assumption | omega | (simp only [wkD, oneCell, Option.isSome_some, *]; done) | (simp only [wkE, ne_eq]; omega)) only [g2, g3, g5, q8, hlt', wkF, X_region, X_seq, X_block, X_loop, X_cond, Y_box, Y_un, Y_store, Y_append, Y_makeMap, Y_buildSlice, ibin_shl, ibin_shr, ibin_and, ↓reduceIte, reduceCtorEq, oneCell, setAt, readN, Nat.reduceAdd, Nat.reduceLeDiff, Nat.reduceMul, layAt, Nat.reduceLT, Nat.reduceEqDiff, setParams, Int.reduceLT, Int.reduceLE, Int.reduceGT, Int.reduceGE, Int.reduceEq, Int.reduceNe]
    refine Is_in ?_
    simp (disch := first | assumption | omega | (simp only [wkD, oneCell, Option.isSome_some, *]; done) | (simp only [wkE, ne_eq]; omega)) only [wkF, X_region, X_seq, X_block, X_loop, X_cond, Y_box, Y_un, Y_store, Y_append, Y_makeMap, Y_buildSlice, ibin_shl, ibin_shr, ibin_and, ↓reduceIte, reduceCtorEq, oneCell, setAt, readN, Nat.reduceAdd, Nat.reduceLeDiff, Nat.reduceMul, layAt, Nat.reduceLT, Nat.reduceEqDiff, setParams, Int.reduceLT, Int.reduceLE, Int.reduceGT, Int.reduceGE, Int.reduceEq, Int.reduceNe]
    exact leaf1 ⟨rfl, OR⟩
theorem refEqual_t {n : Nat} {p : Pkt} {v1 v2 : Value} (hn : 100 < n) (hl : l.length < n) (hm : l.length ≤ 1000000) (V : ∀ h, Has ro h R → Vw 2 cc h v1 l) (W : ∀ h, Has ro h R → Vw 2 cc h v2 l) (O : Has ro h R) :
    (callV env (n + 2) (.func (.func 19) #[] #[]) [pv { p with m := { p.m with cl := v1 } }, pv { p with m := { p.m with cl := v2 } }] h).Is fun q => q.1 = .bool true ∧ Has ro q.2 R := by
  refine call_is env19 ?_
  simp (disch := first | assumption | omega | (simp only [wkD, oneCell, Option.isSome_some, *]; done) | (simp only [wkE, ne_eq]; omega)) only [ir19, List.append_nil, List.nil_append, List.cons_append, List.length_cons, List.length_nil, Nat.reduceAdd, Nat.reduceSub, List.replicate_succ, List.replicate_zero, pv, wkF, X_region, X_seq, X_block, X_loop, X_cond, Y_un, Y_store, Y_append, Y_makeMap, Y_buildSlice, ibin_shl, ibin_shr, ibin_and, ↓reduceIte, reduceCtorEq, oneCell, setAt, readN, Nat.reduceAdd, Nat.reduceLeDiff, Nat.reduceMul, layAt, Nat.reduceLT, Nat.reduceEqDiff, setParams, Int.reduceLT, Int.reduceLE, Int.reduceGT, Int.reduceGE, Int.reduceEq, Int.reduceNe]
  refine Y_boxO O ?_
  intro pb h1 O1 e1
  replace O1 : Has ro h1 (Ob pb (.cells (pc { p with m := { p.m with cl := v1 } }) 1 false) :: R) := O1
  simp (disch := first | assumption | omega | (simp only [wkD, oneCell, Option.isSome_some, *]; done) | (simp only [wkE, ne_eq]; omega)) only [wkF, X_region, X_seq, X_block, X_loop, X_cond, Y_un, Y_store, Y_append, Y_makeMap, Y_buildSlice, ibin_shl, ibin_shr, ibin_and, ↓reduceIte, reduceCtorEq, oneCell, setAt, readN, Nat.reduceAdd, Nat.reduceLeDiff, Nat.reduceMul, layAt, Nat.reduceLT, Nat.reduceEqDiff, setParams, Int.reduceLT, Int.reduceLE, Int.reduceGT, Int.reduceGE, Int.reduceEq, Int.reduceNe]
  refine Y_boxO O1 ?_
  intro qb h2 O2 e2
  replace O2 : Has ro h2 (Ob qb (.cells (pc { p with m := { p.m with cl := v2 } }) 1 false) :: Ob pb (.cells (pc { p with m := { p.m with cl := v1 } }) 1 false) :: R) := O2
  obtain ⟨q0, q1, q2, q3, q4, q5, q6, _⟩ := rdp (O2.get 1 rfl)
  obtain ⟨u0, u1, u2, u3, u4, u5, u6, _⟩ := rdp (O2.get 0 rfl)
  simp (disch := first | assumption | omega | (simp only [wkD, oneCell, Option.isSome_some, *]; done) | (simp only [wkE, ne_eq]; omega)) only [q0, q1, q2, q3, q4, q5, q6, u0, u1, u2, u3, u4, u5, u6, agg_mv, wkF, X_region, X_seq, X_block, X_loop, X_cond, Y_box, Y_un, Y_store, Y_append, Y_makeMap, Y_buildSlice, ibin_shl, ibin_shr, ibin_and, ↓reduceIte, reduceCtorEq, oneCell, setAt, readN, Nat.reduceAdd, Nat.reduceLeDiff, Nat.reduceMul, layAt, Nat.reduceLT, Nat.reduceEqDiff, setParams, Int.reduceLT, Int.reduceLE, Int.reduceGT, Int.reduceGE, Int.reduceEq, Int.reduceNe]
  refine Z_is (refSame_t (n := n) (m := p.m) (l := l) (v1 := v1) (v2 := v2) hn hl hm V W O2.drop.drop) ?_
  rintro w h3 ⟨rfl, O3⟩
  simp (disch := first | assumption | omega | (simp only [wkD, oneCell, Option.isSome_some, *]; done) | (simp only [wkE, ne_eq]; omega)) only [wkF, X_region, X_seq, X_block, X_loop, X_cond, Y_box, Y_un, Y_store, Y_append, Y_makeMap, Y_buildSlice, ibin_shl, ibin_shr, ibin_and, ↓reduceIte, reduceCtorEq, oneCell, setAt, readN, Nat.reduceAdd, Nat.reduceLeDiff, Nat.reduceMul, layAt, Nat.reduceLT, Nat.reduceEqDiff, setParams, Int.reduceLT, Int.reduceLE, Int.reduceGT, Int.reduceGE, Int.reduceEq, Int.reduceNe]
  exact leaf1 ⟨rfl, O3⟩
end
end Go.Proofs.YtpodmgbnldmlcaaDoor
