/-
  When a message, and a packet, may be.
-/
import Derived.Test.YtpodmgbnldmlcaaDoorFk
import Derived.Test.YtpodmgbnldmlcaaDoorSame
namespace Go.Proofs.YtpodmgbnldmlcaaDoor
open Go Go.Ideal Go.ChangeShapes Go.RowKit
set_option maxHeartbeats 0
set_option linter.unusedSimpArgs false
set_option linter.unusedVariables false
set_option maxRecDepth 100000
attribute [local irreducible] callV T.All T.Is run
theorem env12 : env 12 = some ir12 := rfl
theorem env11 : env 11 = some ir11 := rfl
theorem in_t {n : Nat} {h : Heap} {x lo hi : Int} (hx : lo ≤ x ∧ x ≤ hi) : callV env (n + 1) (.func (.func 27) #[] #[]) [.int .i64 x, .int .i64 lo, .int .i64 hi] h = .ret (.bool true, h) := by
  rw [T.Is.eq (in_h (n := n) (h := h) (x := x) (lo := lo) (hi := hi)), decide_eq_true hx]
theorem in_f {n : Nat} {h : Heap} {x lo hi : Int} (hx : ¬ (lo ≤ x ∧ x ≤ hi)) : callV env (n + 1) (.func (.func 27) #[] #[]) [.int .i64 x, .int .i64 lo, .int .i64 hi] h = .ret (.bool false, h) := by
  rw [T.Is.eq (in_h (n := n) (h := h) (x := x) (lo := lo) (hi := hi)), decide_eq_false hx]
open Classical in
/-- 0 where it may be, else the packets' error. -/
noncomputable def code (p : Prop) : Value := if p then .int .i64 0 else .int .i64 71
theorem code_t {p : Prop} (h : p) : code p = .int .i64 0 := if_pos h
theorem code_f {p : Prop} (h : ¬ p) : code p = .int .i64 71 := if_neg h
theorem code_eq {p q : Prop} (h : p ↔ q) : code p = code q := by rw [propext h]
/-- The fields lie within the limits. -/
def Fine0 (m : Msg) (l : List Cl) : Prop := (0 ≤ m.cell ∧ m.cell ≤ 1023) ∧ (0 ≤ m.prio ∧ m.prio ≤ 15) ∧ (0 ≤ m.hops ∧ m.hops ≤ 64) ∧ (0 ≤ m.orig ∧ m.orig ≤ 63) ∧ (-1 ≤ m.oth ∧ m.oth ≤ 63) ∧ l.length ≤ 16
instance (m : Msg) (l : List Cl) : Decidable (Fine0 m l) := by unfold Fine0; infer_instance
def cel (l : List Cl) (i : Nat) : Int := (l.getD i ⟨0, 0⟩).c
/-- So far the claims' cells rise, within the limits. -/
def UpTo (l : List Cl) (i : Nat) : Prop := ∀ j, j < i → (0 ≤ cel l j ∧ cel l j ≤ 1023) ∧ (j = 0 ∨ cel l (j - 1) < cel l j)
theorem UpTo.zero {l : List Cl} : UpTo l 0 := fun j hj => by omega
theorem UpTo.succ {l : List Cl} {i : Nat} : UpTo l (i + 1) ↔ UpTo l i ∧ (0 ≤ cel l i ∧ cel l i ≤ 1023) ∧ (i = 0 ∨ cel l (i - 1) < cel l i) := by
  constructor
  · exact fun h => ⟨fun j hj => h j (by omega), h i (by omega)⟩
  · rintro ⟨h1, h2⟩ j hj
    by_cases e : j = i
    · subst e; exact h2
    · exact h1 j (by omega)
/-- The claims of what a message's kind names. -/
def lo (m : Msg) (l : List Cl) : List Cl := if (8 : Int) ∈ row m.kd then l else []
def Good1 (m : Msg) (l : List Cl) : Prop := (1 ≤ m.kd ∧ m.kd ≤ 11) ∧ SameM m l (only m) (lo m l)
instance (m : Msg) (l : List Cl) : Decidable (Good1 m l) := by unfold Good1; infer_instance
def OkM (m : Msg) (l : List Cl) : Prop := (1 ≤ m.kd ∧ m.kd ≤ 11) ∧ SameM m l (only m) (lo m l) ∧ Fine0 m l ∧ UpTo l l.length
theorem rdcl {h : Heap} {v : Value} {l : List Cl} (V : Vw 2 cc h v l) {i : Nat} (hi : i < l.length) : ∃ (b off : Nat) (sp : Option Nat) (c : Nat), v = .slice (some ⟨b, off, sp⟩) l.length c ∧ readC (h.get b) (off + i * 2) 2 = some (cc (l.getD i ⟨0, 0⟩)) ∧ readC (h.get b) (off + i * 2) 1 = some [.int .i64 (cel l i)] := by
  have hg : l[i]? = some (l.getD i ⟨0, 0⟩) := by rw [List.getD_eq_getElem?_getD, List.getElem?_eq_getElem hi]; rfl
  obtain ⟨b, off, sp, c, hv, k1, k⟩ := V.rd cc_len hg
  refine ⟨b, off, sp, c, hv, k, ?_⟩
  have := k1 0 1 (by omega)
  rw [Nat.add_zero] at this
  rw [this]
  rfl
section
variable {ro : Nat → Option (List Value × Nat)} {h : Heap} {R : List Rs} {m : Msg} {l : List Cl}
theorem vw_only {p : Option Addr} {a b : Nat} (hc : m.cl = .slice p a b) (V : Vw 2 cc h m.cl l) : Vw 2 cc h (only m).cl (lo m l) := by
  show Vw 2 cc h (if (8 : Int) ∈ row m.kd then m.cl else nilS) (if (8 : Int) ∈ row m.kd then l else [])
  split
  · exact V
  · exact Vw.nil h none 0
theorem check_h {n : Nat} (hL : Lay ro) (hn : 2000 < n) (hl : l.length ≤ 1300) (V : ∀ h, Has ro h R → Vw 2 cc h m.cl l) (O : Has ro h R) :
    (callV env (n + 6) (.func (.func 12) #[] #[]) [mv m] h).Is fun q => q.1 = code (OkM m l) ∧ Has ro q.2 R := by
  obtain ⟨p, c, hc, hlc⟩ := (V _ O).len
  refine call_is env12 ?_
  simp (disch := first | assumption | omega | (simp only [wkD, oneCell, Option.isSome_some, *]; done) | (simp only [wkE, ne_eq]; omega)) only [ir12, List.append_nil, List.nil_append, List.cons_append, List.length_cons, List.length_nil, Nat.reduceAdd, Nat.reduceSub, List.replicate_succ, List.replicate_zero, mv, wkF, X_region, X_seq, X_block, X_loop, X_cond, Y_un, Y_store, Y_append, Y_makeMap, Y_buildSlice, ibin_shl, ibin_shr, ibin_and, ↓reduceIte, reduceCtorEq, oneCell, setAt, readN, Nat.reduceAdd, Nat.reduceLeDiff, Nat.reduceMul, layAt, Nat.reduceLT, Nat.reduceEqDiff, setParams, Int.reduceLT, Int.reduceLE, Int.reduceGT, Int.reduceGE, Int.reduceEq, Int.reduceNe]
  refine Y_boxO O ?_
  intro mb h1 O1 e1
  replace O1 : Has ro h1 (Ob mb (.cells (mc m) 1 false) :: R) := O1
  have gm := O1.get 0 rfl
  obtain ⟨r0, r1, r2, r3, r4, r5, r6, r7, r8, r9⟩ := rdm gm
  have lm : mb < 2 * h1.next := (O1.info (i := 0) rfl).2.2.2.1
  simp (disch := first | assumption | omega | (simp only [wkD, oneCell, Option.isSome_some, *]; done) | (simp only [wkE, ne_eq]; omega)) only [wkF, X_region, X_seq, X_block, X_loop, X_cond, Y_box, Y_un, Y_store, Y_append, Y_makeMap, Y_buildSlice, ibin_shl, ibin_shr, ibin_and, ↓reduceIte, reduceCtorEq, oneCell, setAt, readN, Nat.reduceAdd, Nat.reduceLeDiff, Nat.reduceMul, layAt, Nat.reduceLT, Nat.reduceEqDiff, setParams, Int.reduceLT, Int.reduceLE, Int.reduceGT, Int.reduceGE, Int.reduceEq, Int.reduceNe]
  refine X_cut0 (fun s => s.tmps.length = 79 ∧ s.tmps.getD 1 undefV = .pointer (some ⟨mb, 0, none⟩) ∧ s.tmps.getD 16 undefV = .bool (!decide (Good1 m l)) ∧ Has ro s.h (Ob mb (.cells (mc m) 1 false) :: R)) ?_ ?_
  · by_cases hk : 1 ≤ m.kd ∧ m.kd ≤ 11
    · refine X_plan [] O1.fine ?_
      refine Dp.fieldAddr rfl ?_
      refine Dp.loadB1 rfl r0 ?_
      refine Dp.callB (in_t hk) ?_
      refine Dp.pure rfl rfl ?_
      refine Dp.move ?_
      refine Dp.guard rfl ?_
      refine Dp.loadFN rfl r9 (fun k _ => by rw [plan_none]; simp) (fun x hx => by cases hx) ?_
      refine Dp.guard rfl ?_
      refine Dp.loadFN rfl r9 (fun k _ => by rw [plan_none]; simp) (fun x hx => by cases hx) ?_
      refine Dp.guard rfl ?_
      refine Dp.callFree (R := fun q => q.1 = mv (only m) ∧ Has ro q.2 (Ob mb (.cells (mc m) 1 false) :: R)) O1.fine (T.Is.mono (fun _ _ => trivial) (only_h (n := n + 2) hL (by omega) hk.1 hk.2 hc (Has.seenE O1 (fun x hx => by cases hx)))) (only_h (n := n + 2) hL (by omega) hk.1 hk.2 hc O1) ?_
      rintro v5 h5 ⟨rfl, O5⟩
      replace O5 : Has ro h5 (Ob mb (.cells (mc m) 1 false) :: R) := O5
      refine Dp.guard rfl ?_
      refine Dp.callFixed (same_h (n := n + 3) (m := m) (m' := only m) (k := lo m l) (by omega) (by omega) (by omega) (fun h O => V h O.drop) (fun h O => vw_only hc (V h O.drop)) O5) ?_
      rintro v6 h6 ⟨rfl, O6⟩
      refine Dp.guard rfl ?_
      refine Dp.pure rfl rfl ?_
      refine Dp.pure rfl rfl ?_
      refine Dp.nil ?_
      simp (disch := first | assumption | omega | (simp only [wkD, oneCell, Option.isSome_some, *]; done) | (simp only [wkE, ne_eq]; omega)) only [wkF, X_region, X_seq, X_block, X_loop, X_cond, Y_box, Y_un, Y_store, Y_append, Y_makeMap, Y_buildSlice, ibin_shl, ibin_shr, ibin_and, ↓reduceIte, reduceCtorEq, oneCell, setAt, readN, Nat.reduceAdd, Nat.reduceLeDiff, Nat.reduceMul, layAt, Nat.reduceLT, Nat.reduceEqDiff, setParams, Int.reduceLT, Int.reduceLE, Int.reduceGT, Int.reduceGE, Int.reduceEq, Int.reduceNe]
      refine mid_in ⟨rfl, rfl, ?_, O6⟩
      by_cases hs : SameM m l (only m) (lo m l)
      · rw [decide_eq_true hs, decide_eq_true (show Good1 m l from ⟨hk, hs⟩)]; rfl
      · rw [decide_eq_false hs, decide_eq_false (fun h : Good1 m l => hs h.2)]; rfl
    · refine X_plan [] O1.fine ?_
      refine Dp.fieldAddr rfl ?_
      refine Dp.loadB1 rfl r0 ?_
      refine Dp.callB (in_f hk) ?_
      refine Dp.pure rfl rfl ?_
      refine Dp.move ?_
      refine Dp.skip rfl (by decide) ?_
      refine Dp.skip rfl (by decide) ?_
      refine Dp.skip rfl (by decide) ?_
      refine Dp.skip rfl (by decide) ?_
      refine Dp.skip rfl (by decide) ?_
      refine Dp.pure rfl rfl ?_
      refine Dp.nil ?_
      simp (disch := first | assumption | omega | (simp only [wkD, oneCell, Option.isSome_some, *]; done) | (simp only [wkE, ne_eq]; omega)) only [wkF, X_region, X_seq, X_block, X_loop, X_cond, Y_box, Y_un, Y_store, Y_append, Y_makeMap, Y_buildSlice, ibin_shl, ibin_shr, ibin_and, ↓reduceIte, reduceCtorEq, oneCell, setAt, readN, Nat.reduceAdd, Nat.reduceLeDiff, Nat.reduceMul, layAt, Nat.reduceLT, Nat.reduceEqDiff, setParams, Int.reduceLT, Int.reduceLE, Int.reduceGT, Int.reduceGE, Int.reduceEq, Int.reduceNe]
      refine mid_in ⟨rfl, rfl, ?_, O1⟩
      rw [decide_eq_false (fun h : Good1 m l => hk h.1)]; rfl
  clear O1 gm r0 r1 r2 r3 r4 r5 r6 r7 r8 r9 lm e1
  rintro tm h2 ⟨hlen_, g1, g16, O1⟩
  simp only at g1 g16 O1
  obtain ⟨w, hg_, rfl⟩ := explode hlen_
  simp only [hg_] at g1 g16
  clear hlen_ hg_
  by_cases hS : Good1 m l
  case neg =>
    simp (disch := first | assumption | omega | (simp only [wkD, oneCell, Option.isSome_some, *]; done) | (simp only [wkE, ne_eq]; omega)) only [g1, g16, decide_eq_false hS, Bool.not_false, wkF, X_region, X_seq, X_block, X_loop, X_cond, Y_box, Y_un, Y_store, Y_append, Y_makeMap, Y_buildSlice, ibin_shl, ibin_shr, ibin_and, ↓reduceIte, reduceCtorEq, oneCell, setAt, readN, Nat.reduceAdd, Nat.reduceLeDiff, Nat.reduceMul, layAt, Nat.reduceLT, Nat.reduceEqDiff, setParams, Int.reduceLT, Int.reduceLE, Int.reduceGT, Int.reduceGE, Int.reduceEq, Int.reduceNe]
    have : ¬ OkM m l := fun h => hS ⟨h.1, h.2.1⟩
    exact leaf1 ⟨(code_f this).symm, O1.drop⟩
  have gm := O1.get 0 rfl
  obtain ⟨r0, r1, r2, r3, r4, r5, r6, r7, r8, r9⟩ := rdm gm
  rw [hc] at r8
  simp (disch := first | assumption | omega | (simp only [wkD, oneCell, Option.isSome_some, *]; done) | (simp only [wkE, ne_eq]; omega)) only [g1, g16, decide_eq_true hS, Bool.not_true, kont_code, wkF, X_block, X_loop, X_cond, Y_box, Y_un, Y_store, Y_append, Y_makeMap, Y_buildSlice, ibin_shl, ibin_shr, ibin_and, ↓reduceIte, reduceCtorEq, oneCell, setAt, readN, Nat.reduceAdd, Nat.reduceLeDiff, Nat.reduceMul, layAt, Nat.reduceLT, Nat.reduceEqDiff, setParams, Int.reduceLT, Int.reduceLE, Int.reduceGT, Int.reduceGE, Int.reduceEq, Int.reduceNe]
  rw [X_seq]
  refine X_cut0 (fun s => ∃ fb : Bool, s.tmps.length = 79 ∧ s.tmps.getD 1 undefV = .pointer (some ⟨mb, 0, none⟩) ∧ s.tmps.getD 3 undefV = .bool fb ∧ (fb = true ↔ Fine0 m l) ∧ Has ro s.h (Ob mb (.cells (mc m) 1 false) :: R)) ?_ ?_
  · skip
    by_cases f1 : 0 ≤ m.cell ∧ m.cell ≤ 1023
    case neg =>
      have i1 := fun n h => in_f (n := n) (h := h) f1
      simp (disch := first | assumption | omega | (simp only [wkD, oneCell, Option.isSome_some, *]; done) | (simp only [wkE, ne_eq]; omega)) only [g1, g16, i1, r1, r4, r5, r6, r7, r8, wkF, X_region, X_seq, X_block, X_loop, X_cond, Y_box, Y_un, Y_store, Y_append, Y_makeMap, Y_buildSlice, ibin_shl, ibin_shr, ibin_and, ↓reduceIte, reduceCtorEq, oneCell, setAt, readN, Nat.reduceAdd, Nat.reduceLeDiff, Nat.reduceMul, layAt, Nat.reduceLT, Nat.reduceEqDiff, setParams, Int.reduceLT, Int.reduceLE, Int.reduceGT, Int.reduceGE, Int.reduceEq, Int.reduceNe]
      exact mid_in ⟨false, rfl, rfl, rfl, ⟨fun h => (by cases h), fun h => absurd h.1 f1⟩, O1⟩
    have i1 := fun n h => in_t (n := n) (h := h) f1
    by_cases f2 : 0 ≤ m.prio ∧ m.prio ≤ 15
    case neg =>
      have i2 := fun n h => in_f (n := n) (h := h) f2
      simp (disch := first | assumption | omega | (simp only [wkD, oneCell, Option.isSome_some, *]; done) | (simp only [wkE, ne_eq]; omega)) only [g1, g16, i1, i2, r1, r4, r5, r6, r7, r8, wkF, X_region, X_seq, X_block, X_loop, X_cond, Y_box, Y_un, Y_store, Y_append, Y_makeMap, Y_buildSlice, ibin_shl, ibin_shr, ibin_and, ↓reduceIte, reduceCtorEq, oneCell, setAt, readN, Nat.reduceAdd, Nat.reduceLeDiff, Nat.reduceMul, layAt, Nat.reduceLT, Nat.reduceEqDiff, setParams, Int.reduceLT, Int.reduceLE, Int.reduceGT, Int.reduceGE, Int.reduceEq, Int.reduceNe]
      exact mid_in ⟨false, rfl, rfl, rfl, ⟨fun h => (by cases h), fun h => absurd h.2.1 f2⟩, O1⟩
    have i2 := fun n h => in_t (n := n) (h := h) f2
    by_cases f3 : 0 ≤ m.hops ∧ m.hops ≤ 64
    case neg =>
      have i3 := fun n h => in_f (n := n) (h := h) f3
      simp (disch := first | assumption | omega | (simp only [wkD, oneCell, Option.isSome_some, *]; done) | (simp only [wkE, ne_eq]; omega)) only [g1, g16, i1, i2, i3, r1, r4, r5, r6, r7, r8, wkF, X_region, X_seq, X_block, X_loop, X_cond, Y_box, Y_un, Y_store, Y_append, Y_makeMap, Y_buildSlice, ibin_shl, ibin_shr, ibin_and, ↓reduceIte, reduceCtorEq, oneCell, setAt, readN, Nat.reduceAdd, Nat.reduceLeDiff, Nat.reduceMul, layAt, Nat.reduceLT, Nat.reduceEqDiff, setParams, Int.reduceLT, Int.reduceLE, Int.reduceGT, Int.reduceGE, Int.reduceEq, Int.reduceNe]
      exact mid_in ⟨false, rfl, rfl, rfl, ⟨fun h => (by cases h), fun h => absurd h.2.2.1 f3⟩, O1⟩
    have i3 := fun n h => in_t (n := n) (h := h) f3
    by_cases f4 : 0 ≤ m.orig ∧ m.orig ≤ 63
    case neg =>
      have i4 := fun n h => in_f (n := n) (h := h) f4
      simp (disch := first | assumption | omega | (simp only [wkD, oneCell, Option.isSome_some, *]; done) | (simp only [wkE, ne_eq]; omega)) only [g1, g16, i1, i2, i3, i4, r1, r4, r5, r6, r7, r8, wkF, X_region, X_seq, X_block, X_loop, X_cond, Y_box, Y_un, Y_store, Y_append, Y_makeMap, Y_buildSlice, ibin_shl, ibin_shr, ibin_and, ↓reduceIte, reduceCtorEq, oneCell, setAt, readN, Nat.reduceAdd, Nat.reduceLeDiff, Nat.reduceMul, layAt, Nat.reduceLT, Nat.reduceEqDiff, setParams, Int.reduceLT, Int.reduceLE, Int.reduceGT, Int.reduceGE, Int.reduceEq, Int.reduceNe]
      exact mid_in ⟨false, rfl, rfl, rfl, ⟨fun h => (by cases h), fun h => absurd h.2.2.2.1 f4⟩, O1⟩
    have i4 := fun n h => in_t (n := n) (h := h) f4
    by_cases f5 : -1 ≤ m.oth ∧ m.oth ≤ 63
    case neg =>
      have i5 := fun n h => in_f (n := n) (h := h) f5
      simp (disch := first | assumption | omega | (simp only [wkD, oneCell, Option.isSome_some, *]; done) | (simp only [wkE, ne_eq]; omega)) only [g1, g16, i1, i2, i3, i4, i5, r1, r4, r5, r6, r7, r8, wkF, X_region, X_seq, X_block, X_loop, X_cond, Y_box, Y_un, Y_store, Y_append, Y_makeMap, Y_buildSlice, ibin_shl, ibin_shr, ibin_and, ↓reduceIte, reduceCtorEq, oneCell, setAt, readN, Nat.reduceAdd, Nat.reduceLeDiff, Nat.reduceMul, layAt, Nat.reduceLT, Nat.reduceEqDiff, setParams, Int.reduceLT, Int.reduceLE, Int.reduceGT, Int.reduceGE, Int.reduceEq, Int.reduceNe]
      exact mid_in ⟨false, rfl, rfl, rfl, ⟨fun h => (by cases h), fun h => absurd h.2.2.2.2.1 f5⟩, O1⟩
    have i5 := fun n h => in_t (n := n) (h := h) f5
    by_cases f6 : l.length ≤ 16
    · have f6' : (l.length : Int) ≤ 16 := by omega
      simp (disch := first | assumption | omega | (simp only [wkD, oneCell, Option.isSome_some, *]; done) | (simp only [wkE, ne_eq]; omega)) only [g1, g16, i1, i2, i3, i4, i5, r1, r4, r5, r6, r7, r8, f6', wkF, X_region, X_seq, X_block, X_loop, X_cond, Y_box, Y_un, Y_store, Y_append, Y_makeMap, Y_buildSlice, ibin_shl, ibin_shr, ibin_and, ↓reduceIte, reduceCtorEq, oneCell, setAt, readN, Nat.reduceAdd, Nat.reduceLeDiff, Nat.reduceMul, layAt, Nat.reduceLT, Nat.reduceEqDiff, setParams, Int.reduceLT, Int.reduceLE, Int.reduceGT, Int.reduceGE, Int.reduceEq, Int.reduceNe]
      exact mid_in ⟨true, rfl, rfl, rfl, ⟨fun _ => ⟨f1, f2, f3, f4, f5, f6⟩, fun _ => rfl⟩, O1⟩
    · have f6' : ¬ (l.length : Int) ≤ 16 := by omega
      simp (disch := first | assumption | omega | (simp only [wkD, oneCell, Option.isSome_some, *]; done) | (simp only [wkE, ne_eq]; omega)) only [g1, g16, i1, i2, i3, i4, i5, r1, r4, r5, r6, r7, r8, f6', wkF, X_region, X_seq, X_block, X_loop, X_cond, Y_box, Y_un, Y_store, Y_append, Y_makeMap, Y_buildSlice, ibin_shl, ibin_shr, ibin_and, ↓reduceIte, reduceCtorEq, oneCell, setAt, readN, Nat.reduceAdd, Nat.reduceLeDiff, Nat.reduceMul, layAt, Nat.reduceLT, Nat.reduceEqDiff, setParams, Int.reduceLT, Int.reduceLE, Int.reduceGT, Int.reduceGE, Int.reduceEq, Int.reduceNe]
      exact mid_in ⟨false, rfl, rfl, rfl, ⟨fun h => (by cases h), fun h => absurd h.2.2.2.2.2 f6⟩, O1⟩
  clear O1 gm r0 r1 r2 r3 r4 r5 r6 r7 r8 r9 g1 g16
  rintro tm h3 ⟨fb, hlen_, g1, g3, hfb, O1⟩
  simp only at g1 g3 O1
  obtain ⟨w, hg_, rfl⟩ := explode hlen_
  simp only [hg_] at g1 g3
  clear hlen_ hg_
  have gm := O1.get 0 rfl
  obtain ⟨r0, r1, r2, r3, r4, r5, r6, r7, r8, r9⟩ := rdm gm
  rw [hc] at r8
  simp (disch := first | assumption | omega | (simp only [wkD, oneCell, Option.isSome_some, *]; done) | (simp only [wkE, ne_eq]; omega)) only [g1, g3, r8, wkF, X_region, X_seq, X_block, X_loop, X_cond, Y_box, Y_un, Y_store, Y_append, Y_makeMap, Y_buildSlice, ibin_shl, ibin_shr, ibin_and, ↓reduceIte, reduceCtorEq, oneCell, setAt, readN, Nat.reduceAdd, Nat.reduceLeDiff, Nat.reduceMul, layAt, Nat.reduceLT, Nat.reduceEqDiff, setParams, Int.reduceLT, Int.reduceLE, Int.reduceGT, Int.reduceGE, Int.reduceEq, Int.reduceNe]
  refine L_is (fun q s => ∃ (i : Nat) (fb : Bool), s.defers = [] ∧ s.tmps.length = 79 ∧ s.tmps.getD 1 undefV = .pointer (some ⟨mb, 0, none⟩) ∧ s.tmps.getD 3 undefV = .bool fb ∧ s.tmps.getD 47 undefV = .slice p l.length c ∧ s.tmps.getD 48 undefV = .int .i64 (l.length : Int) ∧ s.tmps.getD 49 undefV = .int .i64 (i : Int) ∧ q = l.length - i ∧ i ≤ l.length ∧ (fb = true ↔ Fine0 m l ∧ UpTo l i) ∧ Has ro s.h (Ob mb (.cells (mc m) 1 false) :: R)) l.length ?_ (by omega) ?_
  · exact ⟨0, fb, rfl, rfl, rfl, rfl, rfl, rfl, rfl, rfl, by omega, ⟨fun h => ⟨hfb.1 h, UpTo.zero⟩, fun h => hfb.2 h.1⟩, O1⟩
  clear O1 gm r0 r1 r2 r3 r4 r5 r6 r7 r8 r9 g1 g3 hfb
  clear fb
  rintro q_ tm df h4 ⟨i, fb, hd, hlen_, g1, g3, g47, g48, g49, hq, hi, hfb, O1⟩
  simp only at hd g1 g3 g47 g48 g49 O1
  subst hd
  obtain ⟨w, hg_, rfl⟩ := explode hlen_
  simp only [hg_] at g1 g3 g47 g48 g49
  clear hlen_ hg_
  by_cases hlt : i < l.length
  · have hlt' : (i : Int) < (l.length : Int) := by omega
    have c0 : (0 : Int) ≤ (i : Int) := by omega
    have y1 : IntKind.i64.wrap ((i : Int) + 1) = ((i + 1 : Nat) : Int) := by rw [wrap_i64 (by omega) (by omega)]; omega
    obtain ⟨b1, o1, s1, d1, hv, k1, k2⟩ := rdcl (V _ O1.drop) hlt
    rw [hc] at hv
    cases hv
    simp (disch := first | assumption | omega | (simp only [wkD, oneCell, Option.isSome_some, *]; done) | (simp only [wkE, ne_eq]; omega)) only [g1, g3, g47, g48, g49, hlt', c0, k1, Int.toNat_natCast, wkF, X_region, X_seq, X_block, X_loop, X_cond, Y_un, Y_store, Y_append, Y_makeMap, Y_buildSlice, ibin_shl, ibin_shr, ibin_and, ↓reduceIte, reduceCtorEq, oneCell, setAt, readN, Nat.reduceAdd, Nat.reduceLeDiff, Nat.reduceMul, layAt, Nat.reduceLT, Nat.reduceEqDiff, setParams, Int.reduceLT, Int.reduceLE, Int.reduceGT, Int.reduceGE, Int.reduceEq, Int.reduceNe]
    refine Y_boxO O1 ?_
    intro xb h5 O5 e5
    replace O5 : Has ro h5 (Ob xb (.cells [.int .i64 0, .int .u32 0] 1 false) :: Ob mb (.cells (mc m) 1 false) :: R) := O5
    have g5 := O5.get 0 rfl
    have p5 := O5.can 0 rfl
    have O6 := O5.set 0 rfl (.cells (cc (l.getD i ⟨0, 0⟩)) 1 false)
    simp only [List.set_cons_zero] at O6
    have hs5 : setAt [Value.int .i64 0, .int .u32 0] 0 (cc (l.getD i ⟨0, 0⟩)) = cc (l.getD i ⟨0, 0⟩) := by simp [setAt, cc]
    have hone : (cc (l.getD i ⟨0, 0⟩)).all oneCell = true := rfl
    simp (disch := first | assumption | omega | (simp only [wkD, oneCell, Option.isSome_some, *]; done) | (simp only [wkE, ne_eq]; omega)) only [g5, p5, hs5, cc_len, cellsOf_agg, hone, wkF, X_region, X_seq, X_block, X_loop, X_cond, Y_box, Y_un, Y_store, Y_append, Y_makeMap, Y_buildSlice, ibin_shl, ibin_shr, ibin_and, ↓reduceIte, reduceCtorEq, readN, Nat.reduceAdd, Nat.reduceLeDiff, Nat.reduceMul, layAt, Nat.reduceLT, Nat.reduceEqDiff, setParams, Int.reduceLT, Int.reduceLE, Int.reduceGT, Int.reduceGE, Int.reduceEq, Int.reduceNe]
    generalize h5.setB xb (.cells (cc (l.getD i ⟨0, 0⟩)) 1 false) = h6 at O6 ⊢
    have gx := O6.get 0 rfl
    have x0 : readC (h6.get xb) 0 1 = some [.int .i64 (cel l i)] := by rw [gx]; rfl
    have r8 := (rdm (O6.get 1 rfl)).2.2.2.2.2.2.2.2.1
    rw [hc] at r8
    obtain ⟨-, -, -, -, hv6, -, q2⟩ := rdcl (V _ O6.drop.drop) hlt
    refine X_drawn _ fun an => ?_
    cases fb with
    | false =>
      simp (disch := first | assumption | omega | (simp only [wkD, oneCell, Option.isSome_some, *]; done) | (simp only [wkE, ne_eq]; omega)) only [g1, g3, g47, g48, g49, y1, wkF, X_region, X_seq, X_block, X_loop, X_cond, Y_box, Y_un, Y_store, Y_append, Y_makeMap, Y_buildSlice, ibin_shl, ibin_shr, ibin_and, ↓reduceIte, reduceCtorEq, oneCell, setAt, readN, Nat.reduceAdd, Nat.reduceLeDiff, Nat.reduceMul, layAt, Nat.reduceLT, Nat.reduceEqDiff, setParams, Int.reduceLT, Int.reduceLE, Int.reduceGT, Int.reduceGE, Int.reduceEq, Int.reduceNe]
      exact Is_in ⟨l.length - (i + 1), by omega, i + 1, false, rfl, rfl, rfl, rfl, rfl, rfl, rfl, rfl, by omega, ⟨fun h => (by cases h), fun h => hfb.2 ⟨h.1, (UpTo.succ.1 h.2).1⟩⟩, O6.drop⟩
    | true =>
      have hF := hfb.1 rfl
      by_cases hr : 0 ≤ cel l i ∧ cel l i ≤ 1023
      case neg =>
        have i1 := fun n h => in_f (n := n) (h := h) hr
        simp (disch := first | assumption | omega | (simp only [wkD, oneCell, Option.isSome_some, *]; done) | (simp only [wkE, ne_eq]; omega)) only [g1, g3, g47, g48, g49, y1, x0, i1, wkF, X_region, X_seq, X_block, X_loop, X_cond, Y_box, Y_un, Y_store, Y_append, Y_makeMap, Y_buildSlice, ibin_shl, ibin_shr, ibin_and, ↓reduceIte, reduceCtorEq, oneCell, setAt, readN, Nat.reduceAdd, Nat.reduceLeDiff, Nat.reduceMul, layAt, Nat.reduceLT, Nat.reduceEqDiff, setParams, Int.reduceLT, Int.reduceLE, Int.reduceGT, Int.reduceGE, Int.reduceEq, Int.reduceNe]
        exact Is_in ⟨l.length - (i + 1), by omega, i + 1, false, rfl, rfl, rfl, rfl, rfl, rfl, rfl, rfl, by omega, ⟨fun h => (by cases h), fun h => absurd (UpTo.succ.1 h.2).2.1 hr⟩, O6.drop⟩
      have i1 := fun n h => in_t (n := n) (h := h) hr
      by_cases hz : i = 0
      · have dz : decide ((i : Int) = 0) = true := decide_eq_true (by omega)
        simp (disch := first | assumption | omega | (simp only [wkD, oneCell, Option.isSome_some, *]; done) | (simp only [wkE, ne_eq]; omega)) only [g1, g3, g47, g48, g49, y1, x0, i1, dz, wkF, X_region, X_seq, X_block, X_loop, X_cond, Y_box, Y_un, Y_store, Y_append, Y_makeMap, Y_buildSlice, ibin_shl, ibin_shr, ibin_and, ↓reduceIte, reduceCtorEq, oneCell, setAt, readN, Nat.reduceAdd, Nat.reduceLeDiff, Nat.reduceMul, layAt, Nat.reduceLT, Nat.reduceEqDiff, setParams, Int.reduceLT, Int.reduceLE, Int.reduceGT, Int.reduceGE, Int.reduceEq, Int.reduceNe]
        exact Is_in ⟨l.length - (i + 1), by omega, i + 1, true, rfl, rfl, rfl, rfl, rfl, rfl, rfl, rfl, by omega, ⟨fun _ => ⟨hF.1, UpTo.succ.2 ⟨hF.2, hr, Or.inl hz⟩⟩, fun _ => rfl⟩, O6.drop⟩
      · have dz : decide ((i : Int) = 0) = false := decide_eq_false (by omega)
        have y2 : IntKind.i64.wrap ((i : Int) - 1) = ((i - 1 : Nat) : Int) := by rw [wrap_i64 (by omega) (by omega)]; omega
        have c1 : (0 : Int) ≤ ((i - 1 : Nat) : Int) := by omega
        have c2 : ((i - 1 : Nat) : Int) < (l.length : Int) := by omega
        obtain ⟨b3, o3, s3, d3, hv3, q3, q4⟩ := rdcl (V _ O6.drop.drop) (i := i - 1) (by omega)
        rw [hc] at hv3
        cases hv3
        by_cases hg : cel l (i - 1) < cel l i
        · have hg' : decide (cel l i > cel l (i - 1)) = true := decide_eq_true hg
          simp (disch := first | assumption | omega | (simp only [wkD, oneCell, Option.isSome_some, *]; done) | (simp only [wkE, ne_eq]; omega)) only [g1, g3, g47, g48, g49, y1, x0, i1, dz, y2, c1, c2, r8, q4, hg, hg', Int.toNat_natCast, wkF, X_region, X_seq, X_block, X_loop, X_cond, Y_box, Y_un, Y_store, Y_append, Y_makeMap, Y_buildSlice, ibin_shl, ibin_shr, ibin_and, ↓reduceIte, reduceCtorEq, oneCell, setAt, readN, Nat.reduceAdd, Nat.reduceLeDiff, Nat.reduceMul, layAt, Nat.reduceLT, Nat.reduceEqDiff, setParams, Int.reduceLT, Int.reduceLE, Int.reduceGT, Int.reduceGE, Int.reduceEq, Int.reduceNe]
          exact Is_in ⟨l.length - (i + 1), by omega, i + 1, true, rfl, rfl, rfl, rfl, rfl, rfl, rfl, rfl, by omega, ⟨fun _ => ⟨hF.1, UpTo.succ.2 ⟨hF.2, hr, Or.inr hg⟩⟩, fun _ => rfl⟩, O6.drop⟩
        · have hg' : decide (cel l i > cel l (i - 1)) = false := decide_eq_false hg
          simp (disch := first | assumption | omega | (simp only [wkD, oneCell, Option.isSome_some, *]; done) | (simp only [wkE, ne_eq]; omega)) only [g1, g3, g47, g48, g49, y1, x0, i1, dz, y2, c1, c2, r8, q4, hg, hg', Int.toNat_natCast, wkF, X_region, X_seq, X_block, X_loop, X_cond, Y_box, Y_un, Y_store, Y_append, Y_makeMap, Y_buildSlice, ibin_shl, ibin_shr, ibin_and, ↓reduceIte, reduceCtorEq, oneCell, setAt, readN, Nat.reduceAdd, Nat.reduceLeDiff, Nat.reduceMul, layAt, Nat.reduceLT, Nat.reduceEqDiff, setParams, Int.reduceLT, Int.reduceLE, Int.reduceGT, Int.reduceGE, Int.reduceEq, Int.reduceNe]
          exact Is_in ⟨l.length - (i + 1), by omega, i + 1, false, rfl, rfl, rfl, rfl, rfl, rfl, rfl, rfl, by omega, ⟨fun h => (by cases h), fun h => absurd (UpTo.succ.1 h.2).2.2 (fun h => h.elim hz hg)⟩, O6.drop⟩
  · have hlt' : ¬ (i : Int) < (l.length : Int) := by omega
    have hil : i = l.length := by omega
    simp (disch := first | assumption | omega | (simp only [wkD, oneCell, Option.isSome_some, *]; done) | (simp only [wkE, ne_eq]; omega)) only [g1, g3, g47, g48, g49, hlt', wkF, X_region, X_seq, X_block, X_loop, X_cond, Y_box, Y_un, Y_store, Y_append, Y_makeMap, Y_buildSlice, ibin_shl, ibin_shr, ibin_and, ↓reduceIte, reduceCtorEq, oneCell, setAt, readN, Nat.reduceAdd, Nat.reduceLeDiff, Nat.reduceMul, layAt, Nat.reduceLT, Nat.reduceEqDiff, setParams, Int.reduceLT, Int.reduceLE, Int.reduceGT, Int.reduceGE, Int.reduceEq, Int.reduceNe]
    refine Is_in ?_
    cases fb with
    | false =>
      simp (disch := first | assumption | omega | (simp only [wkD, oneCell, Option.isSome_some, *]; done) | (simp only [wkE, ne_eq]; omega)) only [g1, g3, g47, g48, g49, wkF, X_region, X_seq, X_block, X_loop, X_cond, Y_box, Y_un, Y_store, Y_append, Y_makeMap, Y_buildSlice, ibin_shl, ibin_shr, ibin_and, ↓reduceIte, reduceCtorEq, oneCell, setAt, readN, Nat.reduceAdd, Nat.reduceLeDiff, Nat.reduceMul, layAt, Nat.reduceLT, Nat.reduceEqDiff, setParams, Int.reduceLT, Int.reduceLE, Int.reduceGT, Int.reduceGE, Int.reduceEq, Int.reduceNe]
      refine leaf1 ⟨(code_f fun h => ?_).symm, O1.drop⟩
      have := hfb.2 ⟨h.2.2.1, by rw [hil]; exact h.2.2.2⟩
      cases this
    | true =>
      simp (disch := first | assumption | omega | (simp only [wkD, oneCell, Option.isSome_some, *]; done) | (simp only [wkE, ne_eq]; omega)) only [g1, g3, g47, g48, g49, wkF, X_region, X_seq, X_block, X_loop, X_cond, Y_box, Y_un, Y_store, Y_append, Y_makeMap, Y_buildSlice, ibin_shl, ibin_shr, ibin_and, ↓reduceIte, reduceCtorEq, oneCell, setAt, readN, Nat.reduceAdd, Nat.reduceLeDiff, Nat.reduceMul, layAt, Nat.reduceLT, Nat.reduceEqDiff, setParams, Int.reduceLT, Int.reduceLE, Int.reduceGT, Int.reduceGE, Int.reduceEq, Int.reduceNe]
      have hF := hfb.1 rfl
      refine leaf1 ⟨(code_t ⟨hS.1, hS.2, hF.1, by rw [← hil]; exact hF.2⟩).symm, O1.drop⟩
end
end Go.Proofs.YtpodmgbnldmlcaaDoor
