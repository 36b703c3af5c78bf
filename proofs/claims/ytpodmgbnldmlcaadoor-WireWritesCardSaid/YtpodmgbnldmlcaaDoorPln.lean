/-
  The bytes of a message, without complements.
-/
import Derived.Test.YtpodmgbnldmlcaaDoorFk
import Derived.Test.YtpodmgbnldmlcaaDoorYld
namespace Go.Proofs.YtpodmgbnldmlcaaDoor
open Go Go.Ideal Go.ChangeShapes Go.RowKit
set_option maxHeartbeats 0
set_option linter.unusedSimpArgs false
set_option linter.unusedVariables false
set_option maxRecDepth 100000
attribute [local irreducible] callV T.All T.Is run
theorem env30 : env 30 = some ir30 := rfl
/-- The bytes of a message. -/
def plainB (m : Msg) (l : List Cl) : List Nat := ub m.kd :: (row m.kd).flatMap (fb m l)
theorem fb_zero (m : Msg) (l : List Cl) : fb m l 0 = [] := rfl
theorem fb_len {m : Msg} {l : List Cl} (hl : l.length ≤ 16) (f : Int) : (fb m l f).length ≤ 97 := by
  unfold fb
  have := clb_len l
  repeat' split
  all_goals (simp only [be_len, List.length_cons, List.length_nil]; omega)
theorem fbs_len {m : Msg} {l : List Cl} (hl : l.length ≤ 16) : ∀ F : List Int, (F.flatMap (fb m l)).length ≤ 97 * F.length
  | [] => Nat.le_refl _
  | f :: F => by
    have h1 := fb_len (m := m) hl f
    have h2 := fbs_len (m := m) hl F
    rw [List.flatMap_cons, List.length_append, List.length_cons]; omega
theorem fbs_take {m : Msg} {l : List Cl} {j : Nat} (hj : j ≤ 5) (hz : j = 5 ∨ (row m.kd).getD j 0 = 0) : ((row m.kd).take j).flatMap (fb m l) = (row m.kd).flatMap (fb m l) := by
  have e : (row m.kd).flatMap (fb m l) = ((row m.kd).take j).flatMap (fb m l) ++ ((row m.kd).drop j).flatMap (fb m l) := by rw [← List.flatMap_append, List.take_append_drop]
  have e2 : ((row m.kd).drop j).flatMap (fb m l) = [] := by
    rw [List.flatMap_eq_nil_iff]
    intro f hf
    obtain ⟨i, hi⟩ := List.getElem?_of_mem hf
    rw [List.getElem?_drop] at hi
    have hlt := (List.getElem?_eq_some_iff.1 hi).1
    rw [row_len] at hlt
    rcases hz with hz | hz
    · omega
    · have := row_zero m.kd j (by omega) (j + i) hlt (by omega) hz
      rw [List.getD_eq_getElem?_getD, hi] at this
      have this : f = 0 := this
      rw [this, fb_zero]
  rw [e, e2, List.append_nil]
/-- A slice of bytes, with its box. -/
def Bx (vb : Nat) (t : List Nat) : Rs := Rs.ex fun v => Rs.star (Ob vb (.cells [v] 1 false)) (Sc 1 bc v t)
section
variable {ro : Nat → Option (List Value × Nat)} {h : Heap} {R : List Rs} {m : Msg} {l : List Cl}
theorem Has.bx {vb : Nat} {t : List Nat} : Has ro h (Bx vb t :: R) ↔ ∃ v, Has ro h (Ob vb (.cells [v] 1 false) :: Sc 1 bc v t :: R) := by
  unfold Bx
  rw [Has.ex]
  constructor
  · rintro ⟨v, O⟩; exact ⟨v, Has.star.1 O⟩
  · rintro ⟨v, O⟩; exact ⟨v, Has.star.2 O⟩
theorem plain_y {k D lb vb mb f : Nat} {t : List Nat} {tl : List Value} (hf1 : 1 ≤ f) (hf2 : f ≤ 8) (htl : tl.length = 98) (ht2 : tl.getD 2 undefV = .pointer (some ⟨vb, 0, none⟩)) (ht3 : tl.getD 3 undefV = .pointer (some ⟨mb, 0, none⟩)) (hk : 60 < k) (hT : t.length ≤ 1000) (hM : Nums m l) (V : ∀ h, Has ro h R → Vw 2 cc h m.cl l)
    (O : Has ro h (Bx vb t :: Ob lb (.loop (pLoop D tl)) :: Ob mb (.cells (mc m) 1 false) :: R)) :
    (callV env (k + 1) (.func (.yield lb) #[] #[]) [.int .i64 (f : Int)] h).Is fun q => q.1 = .bool true ∧ Has ro q.2 (Bx vb (t ++ fb m l (f : Int)) :: Ob lb (.loop (pLoop D tl)) :: Ob mb (.cells (mc m) 1 false) :: R) := by
  obtain ⟨v, O2⟩ := Has.bx.1 O
  replace O2 := (O2.at 1 rfl).at 1 rfl |>.at 2 rfl
  have fin : ∀ q : Value × Heap, (q.1 = .bool true ∧ ∃ v', Has ro q.2 (Ob lb (.loop (pLoop D tl)) :: Ob vb (.cells [v'] 1 false) :: Sc 1 bc v' (t ++ fb m l (f : Int)) :: Ob mb (.cells (mc m) 1 false) :: R)) → q.1 = .bool true ∧ Has ro q.2 (Bx vb (t ++ fb m l (f : Int)) :: Ob lb (.loop (pLoop D tl)) :: Ob mb (.cells (mc m) 1 false) :: R) := by
    rintro q ⟨h1, v', h2⟩
    exact ⟨h1, Has.bx.2 ⟨v', (h2.at 2 rfl).at 2 rfl⟩⟩
  refine T.Is.mono fin ?_
  have : f = 1 ∨ f = 2 ∨ f = 3 ∨ f = 4 ∨ f = 5 ∨ f = 6 ∨ f = 7 ∨ f = 8 := by omega
  rcases this with rfl | rfl | rfl | rfl | rfl | rfl | rfl | rfl
  · exact plain_y1 htl ht2 ht3 hk hT hM V O2
  · exact plain_y2 htl ht2 ht3 hk hT hM V O2
  · exact plain_y3 htl ht2 ht3 hk hT hM V O2
  · exact plain_y4 htl ht2 ht3 hk hT hM V O2
  · exact plain_y5 htl ht2 ht3 hk hT hM V O2
  · exact plain_y6 htl ht2 ht3 hk hT hM V O2
  · exact plain_y7 htl ht2 ht3 hk hT hM V O2
  · exact plain_y8 htl ht2 ht3 hk hT hM V O2

theorem plain_h {n : Nat} {v : Value} {t : List Nat} (hL : Lay ro) (hn : 80 < n) (hk0 : 1 ≤ m.kd) (hk1 : m.kd ≤ 11) (hT : t.length ≤ 100) (hM : Nums m l) (V : ∀ h, Has ro h R → Vw 2 cc h m.cl l) (O : Has ro h (Sc 1 bc v t :: R)) :
    (callV env (n + 3) (.func (.func 30) #[] #[]) [v, mv m] h).Is fun q => Has ro q.2 (Sc 1 bc q.1 (t ++ plainB m l) :: R) := by
  refine call_is env30 ?_
  obtain ⟨pv, cv, hv, hv2⟩ := O.scVal 0 rfl
  obtain ⟨y1, y2⟩ := scOne O 0 rfl
  simp (disch := first | assumption | omega | (simp only [wkD, oneCell, Option.isSome_some, *]; done) | (simp only [wkE, ne_eq]; omega)) only [ir30, List.append_nil, List.nil_append, List.cons_append, List.length_cons, List.length_nil, Nat.reduceAdd, Nat.reduceSub, List.replicate_succ, List.replicate_zero, mv, wk0, wk1, wk2, wk3, wk4, wk5, X_region, X_seq, X_block, X_loop, X_cond, Y_un, Y_store, Y_append, Y_makeMap, Y_buildSlice, ibin_shl, ibin_shr, ibin_and, List.set_cons_zero, List.set_cons_succ, List.getD_cons_zero, List.getD_cons_succ, List.map_cons, List.map_nil, ↓reduceIte, reduceCtorEq, oneCell, List.length_cons, List.length_nil, setAt, readN, bne_iff_ne, ne_eq, Nat.reduceAdd, Nat.reduceLeDiff, List.getElem?_cons_zero, List.getElem?_cons_succ, Nat.reduceMul, Option.isSome_some, layAt, Nat.reduceLT, Option.isNone_some, Option.isNone_none, beq_self_eq_true, Nat.reduceEqDiff, setParams, Int.reduceLT, Int.reduceLE, Int.reduceGT, Int.reduceGE, Int.reduceEq, Int.reduceNe, Option.map_some, Option.map_none, Option.isSome_none]
  refine Y_boxO O ?_
  intro vb h1 O1 e1
  replace O1 : Has ro h1 (Ob vb (.cells (cellsOf v) 1 false) :: Sc 1 bc v t :: R) := O1
  rw [y1] at O1
  simp (disch := first | assumption | omega | (simp only [wkD, oneCell, Option.isSome_some, *]; done) | (simp only [wkE, ne_eq]; omega)) only [wk0, wk1, wk2, wk3, wk4, wk5, X_region, X_seq, X_block, X_loop, X_cond, Y_un, Y_store, Y_append, Y_makeMap, Y_buildSlice, ibin_shl, ibin_shr, ibin_and, List.set_cons_zero, List.set_cons_succ, List.getD_cons_zero, List.getD_cons_succ, List.map_cons, List.map_nil, ↓reduceIte, reduceCtorEq, oneCell, List.length_cons, List.length_nil, setAt, readN, bne_iff_ne, ne_eq, Nat.reduceAdd, Nat.reduceLeDiff, List.getElem?_cons_zero, List.getElem?_cons_succ, Nat.reduceMul, Option.isSome_some, layAt, Nat.reduceLT, Option.isNone_some, Option.isNone_none, beq_self_eq_true, Nat.reduceEqDiff, setParams, Int.reduceLT, Int.reduceLE, Int.reduceGT, Int.reduceGE, Int.reduceEq, Int.reduceNe, Option.map_some, Option.map_none, Option.isSome_none]
  refine Y_boxO O1 ?_
  intro mb h2 O2 e2
  replace O2 : Has ro h2 (Ob mb (.cells (mc m) 1 false) :: Ob vb (.cells [v] 1 false) :: Sc 1 bc v t :: R) := O2
  have gV : readC (h2.get vb) 0 1 = some [v] := by rw [O2.get 1 rfl]; rfl
  obtain ⟨r0, r1, r2, r3, r4, r5, r6, r7, r8, r9⟩ := rdm (O2.get 0 rfl)
  have wu := u8_ub m.kd
  simp (disch := first | assumption | omega | (simp only [wkD, oneCell, Option.isSome_some, *]; done) | (simp only [wkE, ne_eq]; omega)) only [gV, r0, wu, wk0, wk1, wk2, wk3, wk4, wk5, X_region, X_seq, X_block, X_loop, X_cond, Y_box, Y_un, Y_store, Y_append, Y_makeMap, ibin_shl, ibin_shr, ibin_and, List.set_cons_zero, List.set_cons_succ, List.getD_cons_zero, List.getD_cons_succ, List.map_cons, List.map_nil, ↓reduceIte, reduceCtorEq, oneCell, List.length_cons, List.length_nil, setAt, readN, bne_iff_ne, ne_eq, Nat.reduceAdd, Nat.reduceLeDiff, List.getElem?_cons_zero, List.getElem?_cons_succ, Nat.reduceMul, Option.isSome_some, layAt, Nat.reduceLT, Option.isNone_some, Option.isNone_none, beq_self_eq_true, Nat.reduceEqDiff, setParams, Int.reduceLT, Int.reduceLE, Int.reduceGT, Int.reduceGE, Int.reduceEq, Int.reduceNe, Option.map_some, Option.map_none, Option.isSome_none]
  refine Y_buildSliceO O2 (cs := bc (ub m.kd)) rfl ?_
  intro b4 h4 O4 e4
  have V4 : Vw 1 bc h4 (.slice (some ⟨b4, 0, none⟩) 1 1) [ub m.kd] := O4.one 0 rfl
  obtain ⟨w, h5, ap, O5⟩ := sc_appendV (bytes := 1) (by omega) bc_len bc_one (O4.at 3 rfl) V4 (by simp only [List.length_cons, List.length_nil]; unfold roomMost; omega) (by omega)
  replace O5 : Has ro h5 (Sc 1 bc w (t ++ [ub m.kd]) :: Ob b4 (.cells (bc (ub m.kd)) 1 false) :: Ob mb (.cells (mc m) 1 false) :: Ob vb (.cells [v] 1 false) :: R) := O5
  obtain ⟨w1, w2⟩ := scOne O5 0 rfl
  have g5 := O5.get 3 rfl
  have p5 := O5.can 3 rfl
  have O6 := (O5.set 3 rfl (.cells [w] 1 false)).rid 1 rfl
  replace O6 : Has ro _ (Ob mb (.cells (mc m) 1 false) :: Ob vb (.cells [w] 1 false) :: Sc 1 bc w (t ++ [ub m.kd]) :: R) := (O6.at 2 rfl).at 2 rfl
  obtain ⟨q0, -⟩ := rdm (O6.get 0 rfl)
  simp (disch := first | assumption | omega | (simp only [wkD, oneCell, Option.isSome_some, *]; done) | (simp only [wkE, ne_eq]; omega)) only [ap, w1, w2, g5, p5, q0, wk0, wk1, wk2, wk3, wk4, wk5, X_region, X_seq, X_block, X_loop, X_cond, Y_box, Y_un, Y_store, Y_append, Y_makeMap, Y_buildSlice, ibin_shl, ibin_shr, ibin_and, List.set_cons_zero, List.set_cons_succ, List.getD_cons_zero, List.getD_cons_succ, List.map_cons, List.map_nil, ↓reduceIte, reduceCtorEq, List.length_cons, List.length_nil, setAt, readN, bne_iff_ne, ne_eq, Nat.reduceAdd, Nat.reduceLeDiff, List.getElem?_cons_zero, List.getElem?_cons_succ, Nat.reduceMul, Option.isSome_some, layAt, Nat.reduceLT, Option.isNone_some, Option.isNone_none, beq_self_eq_true, Nat.reduceEqDiff, setParams, Int.reduceLT, Int.reduceLE, Int.reduceGT, Int.reduceGE, Int.reduceEq, Int.reduceNe, Option.map_some, Option.map_none, Option.isSome_none]
  generalize h5.setB vb (.cells [w] 1 false) = h6 at O6 q0 ⊢
  clear O5 O4 O2 O1 O V4 ap g5 p5 gV r0 r1 r2 r3 r4 r5 r6 r7 r8 r9 e1 e2 e4
  refine Z_is (R := fun p => ∃ bE, p.1 = .func (.func 41) #[] #[.pointer (some ⟨bE, 0, none⟩)] ∧ Has ro p.2 (Ob bE (.cells [.int .i64 m.kd] 1 false) :: Ob mb (.cells (mc m) 1 false) :: Ob vb (.cells [w] 1 false) :: Sc 1 bc w (t ++ [ub m.kd]) :: R)) ?_ ?_
  · refine call_is env38 ?_
    simp (disch := first | assumption | omega | (simp only [wkD, oneCell, Option.isSome_some, *]; done) | (simp only [wkE, ne_eq]; omega)) only [ir38, List.append_nil, List.nil_append, List.cons_append, List.length_cons, List.length_nil, Nat.reduceAdd, Nat.reduceSub, List.replicate_succ, List.replicate_zero, wk0, wk1, wk2, wk3, wk4, wk5, X_region, X_seq, X_block, X_loop, X_cond, Y_un, Y_store, Y_append, Y_makeMap, Y_buildSlice, ibin_shl, ibin_shr, ibin_and, List.set_cons_zero, List.set_cons_succ, List.getD_cons_zero, List.getD_cons_succ, List.map_cons, List.map_nil, ↓reduceIte, reduceCtorEq, oneCell, List.length_cons, List.length_nil, setAt, readN, bne_iff_ne, ne_eq, Nat.reduceAdd, Nat.reduceLeDiff, List.getElem?_cons_zero, List.getElem?_cons_succ, Nat.reduceMul, Option.isSome_some, layAt, Nat.reduceLT, Option.isNone_some, Option.isNone_none, beq_self_eq_true, Nat.reduceEqDiff, setParams, Int.reduceLT, Int.reduceLE, Int.reduceGT, Int.reduceGE, Int.reduceEq, Int.reduceNe, Option.map_some, Option.map_none, Option.isSome_none]
    refine Y_boxO O6 ?_
    intro bE h5 O5 e5
    simp (disch := first | assumption | omega | (simp only [wkD, oneCell, Option.isSome_some, *]; done) | (simp only [wkE, ne_eq]; omega)) only [wk0, wk1, wk2, wk3, wk4, wk5, X_region, X_seq, X_block, X_loop, X_cond, Y_box, Y_un, Y_store, Y_append, Y_makeMap, Y_buildSlice, ibin_shl, ibin_shr, ibin_and, List.set_cons_zero, List.set_cons_succ, List.getD_cons_zero, List.getD_cons_succ, List.map_cons, List.map_nil, ↓reduceIte, reduceCtorEq, oneCell, List.length_cons, List.length_nil, setAt, readN, bne_iff_ne, ne_eq, Nat.reduceAdd, Nat.reduceLeDiff, List.getElem?_cons_zero, List.getElem?_cons_succ, Nat.reduceMul, Option.isSome_some, layAt, Nat.reduceLT, Option.isNone_some, Option.isNone_none, beq_self_eq_true, Nat.reduceEqDiff, setParams, Int.reduceLT, Int.reduceLE, Int.reduceGT, Int.reduceGE, Int.reduceEq, Int.reduceNe, Option.map_some, Option.map_none, Option.isSome_none]
    exact leaf1 ⟨bE, rfl, O5⟩
  rintro v7 h7 ⟨bE, rfl, O7⟩
  clear O6 q0
  simp (disch := first | assumption | omega | (simp only [wkD, oneCell, Option.isSome_some, *]; done) | (simp only [wkE, ne_eq]; omega)) only [wk0, wk1, wk2, wk3, wk4, wk5, X_region, X_seq, X_block, X_loop, X_cond, Y_box, Y_un, Y_store, Y_append, Y_makeMap, Y_buildSlice, ibin_shl, ibin_shr, ibin_and, List.set_cons_zero, List.set_cons_succ, List.getD_cons_zero, List.getD_cons_succ, List.map_cons, List.map_nil, ↓reduceIte, reduceCtorEq, oneCell, List.length_cons, List.length_nil, setAt, readN, bne_iff_ne, ne_eq, Nat.reduceAdd, Nat.reduceLeDiff, List.getElem?_cons_zero, List.getElem?_cons_succ, Nat.reduceMul, Option.isSome_some, layAt, Nat.reduceLT, Option.isNone_some, Option.isNone_none, beq_self_eq_true, Nat.reduceEqDiff, setParams, Int.reduceLT, Int.reduceLE, Int.reduceGT, Int.reduceGE, Int.reduceEq, Int.reduceNe, Option.map_some, Option.map_none, Option.isSome_none]
  refine X_rangeO O7 (g := 41) (first := #[]) rfl ?_
  intro dm lb h8 O8
  obtain ⟨tl, htl, ht2, ht3, O9⟩ : ∃ tl : List Value, tl.length = 98 ∧ tl.getD 2 undefV = .pointer (some ⟨vb, 0, none⟩) ∧ tl.getD 3 undefV = .pointer (some ⟨mb, 0, none⟩) ∧ Has ro h8 (Ob vb (.cells [w] 1 false) :: Sc 1 bc w (t ++ [ub m.kd]) :: Ob bE (.cells [.int .i64 m.kd] 1 false) :: Ob lb (.loop (pLoop dm tl)) :: Ob mb (.cells (mc m) 1 false) :: Ob dm (.deferred true) :: R) :=
    ⟨_, rfl, rfl, rfl, ((O8.at 1 rfl).at 3 rfl |>.at 2 rfl |>.at 3 rfl |>.at 5 rfl |>.at 5 rfl)⟩
  replace O9 : Has ro h8 (Ob bE (.cells [.int .i64 m.kd] 1 false) :: Bx vb (t ++ [ub m.kd] ++ ((row m.kd).take 0).flatMap (fb m l)) :: Ob lb (.loop (pLoop dm tl)) :: Ob mb (.cells (mc m) 1 false) :: Ob dm (.deferred true) :: R) := by
    have e : t ++ [ub m.kd] ++ ((row m.kd).take 0).flatMap (fb m l) = t ++ [ub m.kd] := by simp
    rw [e]
    exact (Has.bx.2 ⟨w, O9⟩).at 1 rfl
  clear O8 O7
  refine T.Is.mono ?_ (fields_r (n := n + 1) (kd := m.kd) (lb := lb) (I := fun i => Bx vb (t ++ [ub m.kd] ++ ((row m.kd).take i).flatMap (fb m l)) :: Ob lb (.loop (pLoop dm tl)) :: Ob mb (.cells (mc m) 1 false) :: Ob dm (.deferred true) :: R) hL (by omega) hk0 hk1 ?_ O9)
  rotate_left
  · intro i h f hi hf h1 h2 O
    have hlen := fbs_len (m := m) hM.2.2.2.2.1 ((row m.kd).take i)
    rw [List.length_take, row_len] at hlen
    refine T.Is.mono ?_ (plain_y (k := n) (R := Ob bE (.cells [.int .i64 m.kd] 1 false) :: Ob dm (.deferred true) :: R) h1 h2 htl ht2 ht3 (by omega) (by simp only [List.length_append, List.length_cons, List.length_nil]; omega) hM (fun h O => V h O.drop.drop) ((O.at 3 rfl).at 3 rfl |>.at 3 rfl))
    rintro ⟨v, h'⟩ ⟨hv, O'⟩
    have e : (row m.kd).take (i + 1) = (row m.kd).take i ++ [(f : Int)] := by rw [take_next (by rw [row_len]; omega), hf]
    refine ⟨hv, ?_⟩
    rw [e, List.flatMap_append, List.flatMap_singleton, ← List.append_assoc]
    exact O'.at 3 rfl
  rintro ⟨v9, h9⟩ ⟨j, hj, O10, hz⟩
  replace O10 : Has ro h9 (Ob bE (.cells [.int .i64 m.kd] 1 false) :: Bx vb (t ++ [ub m.kd] ++ ((row m.kd).take j).flatMap (fb m l)) :: Ob lb (.loop (pLoop dm tl)) :: Ob mb (.cells (mc m) 1 false) :: Ob dm (.deferred true) :: R) := O10
  have ef : t ++ [ub m.kd] ++ ((row m.kd).take j).flatMap (fb m l) = t ++ plainB m l := by
    rw [fbs_take hj hz, List.append_assoc]; rfl
  rw [ef] at O10
  refine ⟨pLoop dm tl, _, (by intro e; cases e), O10.at 2 rfl, fun h11 O11 => ?_⟩
  replace O11 : Has ro h11 (Ob bE (.cells [.int .i64 m.kd] 1 false) :: Bx vb (t ++ plainB m l) :: Ob mb (.cells (mc m) 1 false) :: Ob dm (.deferred true) :: R) := O11
  have hpn : (pLoop dm tl).pending = .normal := rfl
  rw [hpn]
  obtain ⟨u, O12⟩ := Has.bx.1 (O11.at 1 rfl)
  have gU : readC (h11.get vb) 0 1 = some [u] := by rw [O12.get 0 rfl]; rfl
  simp (disch := first | assumption | omega | (simp only [wkD, oneCell, Option.isSome_some, *]; done) | (simp only [wkE, ne_eq]; omega)) only [gU, wk0, wk1, wk2, wk3, wk4, wk5, X_region, X_seq, X_block, X_loop, X_cond, Y_box, Y_un, Y_store, Y_append, Y_makeMap, Y_buildSlice, ibin_shl, ibin_shr, ibin_and, List.set_cons_zero, List.set_cons_succ, List.getD_cons_zero, List.getD_cons_succ, List.map_cons, List.map_nil, ↓reduceIte, reduceCtorEq, oneCell, List.length_cons, List.length_nil, setAt, readN, bne_iff_ne, ne_eq, Nat.reduceAdd, Nat.reduceLeDiff, List.getElem?_cons_zero, List.getElem?_cons_succ, Nat.reduceMul, Option.isSome_some, layAt, Nat.reduceLT, Option.isNone_some, Option.isNone_none, beq_self_eq_true, Nat.reduceEqDiff, setParams, Int.reduceLT, Int.reduceLE, Int.reduceGT, Int.reduceGE, Int.reduceEq, Int.reduceNe, Option.map_some, Option.map_none, Option.isSome_none]
  refine leafMO O12 4 rfl fun h13 O13 => ⟨_, rfl, ?_⟩
  exact (((O13.rid 4 rfl).rid 3 rfl).rid 2 rfl).drop
end
end Go.Proofs.YtpodmgbnldmlcaaDoor
