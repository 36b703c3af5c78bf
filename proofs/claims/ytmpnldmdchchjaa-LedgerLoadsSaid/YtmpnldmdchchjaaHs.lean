import Derived.Test.YtmpnldmdchchjaaFk
import Derived.Test.YtmpnldmdchchjaaLst
namespace Go.Proofs.Ytmpnldmdchchjaa
open Go Go.Ideal Go.ChangeShapes Go.RowKit
set_option maxHeartbeats 0
set_option linter.unusedSimpArgs false
set_option linter.unusedVariables false
set_option maxRecDepth 100000
attribute [local irreducible] callV T.All T.Is run
theorem env54 : env 54 = some ir54 := rfl
theorem env68 : env 68 = some ir68 := rfl
theorem env57 : env 57 = some ir57 := rfl
def Qr (qb : Nat) (l : List It) : Rs := Rs.ex fun v => Rs.star (Ob qb (.cells [v] 1 false)) (Slr 3 ic v l)
section
variable {ro : Nat → Option (List Value × Nat)} {h : Heap} {R : List Rs} {qb : Nat} {l : List It}
theorem QAt.qr {v : Value} {sb : Option Nat} (Q : QAt h qb v sb l) : (Qr qb l).is h (qS qb sb) :=
  ⟨v, star_is.2 ⟨fun x => x = qb, fun x => some x = sb, fun b => Iff.rfl, fun b h1 h2 => Q.ne (by rw [← h1]; exact h2), ⟨fun x => Iff.rfl, Q.at_⟩, sl_slr Q.sl⟩⟩
theorem Has.qr (O : Has ro h (Qr qb l :: R)) : ∃ v sb, QAt h qb v sb l ∧ ∀ (h' : Heap) (v' : Value) (sb' : Option Nat) (l' : List It), QAt h' qb v' sb' l' → (sb' = sb ∨ ∃ b, sb' = some b ∧ 2 * h.next ≤ b) → Chg (qS qb sb) h h' → Has ro h' (Qr qb l' :: R) := by
  obtain ⟨S, ⟨v, hs⟩, g, k⟩ := O.step
  obtain ⟨S1, S2, e, d, ⟨a1, a2⟩, b⟩ := star_is.1 hs
  obtain ⟨sb, s1, s2⟩ := slr_sl b (fun x hx => g x ((e x).2 (Or.inr hx)))
  have gq := g qb ((e qb).2 (Or.inl ((a1 qb).2 rfl)))
  have hS : S = qS qb sb := by
    funext x
    exact propext (by rw [e, a1, s2]; exact Iff.rfl)
  subst hS
  refine ⟨v, sb, ⟨a2, s1, gq.1, gq.2.1, gq.2.2, fun h => d qb ((a1 qb).2 rfl) ((s2 qb).2 h)⟩, fun h' v' sb' l' Q hsb c => k h' (Qr qb l') _ c Q.qr fun x hx => ?_⟩
  rcases hx with rfl | hx
  · exact Or.inl (Or.inl rfl)
  · rcases hsb with rfl | ⟨y, rfl, hy⟩
    · exact Or.inl (Or.inr hx)
    · obtain ⟨q1, q2⟩ := Q.sl.lt hx
      cases hx
      exact Or.inr ⟨q2, hy, q1⟩
def PutIs (l : List It) (x : It) (a : Bool) (e : Int) (l' : List It) : Prop :=
  (BadW x ∧ a = false ∧ e = 2 ∧ l' = l) ∨ (¬ BadW x ∧ IsPlace l x.r (-1) ∧ 8 ≤ l.length ∧ a = false ∧ e = 0 ∧ l' = l) ∨
    (¬ BadW x ∧ a = true ∧ e = 0 ∧ ∃ l2, PutTo l x l2 ∧ l'.length = l2.length ∧ (∀ y, l'.count y = l2.count y) ∧ Sorted l' 0 l'.length)
theorem put_h {n : Nat} (hn : 40 < n) (hl : l.length ≤ 8) (O : Has ro h (Qr qb l :: R)) (x : It) :
    (callV env (n + 9) (.func (.func 58) #[] #[]) [.pointer (some ⟨qb, 0, none⟩), iv x] h).Is fun p => ∃ a e l', p.1 = .tuple #[.bool a, .int .i64 e] ∧ PutIs l x a e l' ∧ Has ro p.2 (Qr qb l' :: R) := by
  obtain ⟨v, sb, Q, k⟩ := Has.qr O
  refine T.Is.mono ?_ (put_ok (n := n) (x := x) (by omega) hl O.fine Q)
  rintro ⟨w, h1⟩ (⟨b, rfl, e⟩ | ⟨b, p, g, rfl, e⟩ | ⟨b, rfl, l2, v', sb', l', p, Q', hsb, q1, q2, q3, c⟩)
  · exact ⟨false, 2, l, rfl, Or.inl ⟨b, rfl, rfl, rfl⟩, O.ext e⟩
  · exact ⟨false, 0, l, rfl, Or.inr (Or.inl ⟨b, p, g, rfl, rfl, rfl⟩), O.ext e⟩
  · exact ⟨true, 0, l', rfl, Or.inr (Or.inr ⟨b, rfl, rfl, l2, p, q1, q2, q3⟩), k _ _ _ _ Q' hsb c⟩
theorem delete_ok {n b c i : Nat} {rest : List Value} (hl : l.length ≤ 1000000) (hi : i < l.length) (hc : l.length ≤ c) (hr : rest.length = (c - l.length) * 3) (O : Has ro h (Ob b (.cells (l.flatMap ic ++ rest) 3 true) :: R)) :
    (callV env (n + 1) (.func (.func 68) #[] #[]) [.slice (some ⟨b, 0, some 3⟩) l.length c, .int .i64 (i : Int), .int .i64 ((i + 1 : Nat) : Int)] h).Is fun q => q.1 = .slice (some ⟨b, 0, some 3⟩) (l.eraseIdx i).length c ∧ ∃ rest', rest'.length = (c - (l.eraseIdx i).length) * 3 ∧ Has ro q.2 (Ob b (.cells ((l.eraseIdx i).flatMap ic ++ rest') 3 true) :: R) := by
  refine call_is env68 ?_
  have hle : (l.eraseIdx i).length = l.length - 1 := by rw [List.length_eraseIdx, if_pos hi]
  have hfl := flatMap_len ic_len l
  have s1 := vSlice_lhm (len := l.length) (cap := c) (lo := i) (hi := i + 1) (mx := l.length) (z := 3) (b := b) (off := 0) (k := .i64) (k' := .i64) (k'' := .i64) (sp := some 3) (by omega) (by omega) hc spotOk_some
  have s2 := vSlice_h (len := l.length) (cap := c) (hi := i) (z := 3) (b := b) (off := 0) (k' := .i64) (sp := some 3) (by omega) spotOk_some
  have s3 := vSlice_l (len := l.length) (cap := c) (lo := i + 1) (z := 3) (b := b) (off := 0) (k := .i64) (sp := some 3) (by omega) spotOk_some
  have d1 : decide ((i : Int) = ((i + 1 : Nat) : Int)) = false := decide_eq_false (by omega)
  have g := O.get 0 rfl
  -- what is moved
  obtain ⟨w, h2, Y, ap, hY, O2⟩ : ∃ (w : Value) (h2 : Heap) (Y : List Value), iappend h 3 24 (.slice (some ⟨b, 0, some 3⟩) i c) (.slice (some ⟨b, 0 + (i + 1) * 3, some 3⟩) (l.length - (i + 1)) (c - (i + 1))) = some (.slice (some ⟨b, 0, some 3⟩) (l.length - 1) c, h2) ∧ Y.length = 3 + rest.length ∧ Has ro h2 (Ob b (.cells ((l.eraseIdx i).flatMap ic ++ Y) 3 true) :: R) ∧ w = .bool true := by
    have hA := flatMap_len ic_len (l.take i)
    have hB := flatMap_len ic_len (l.drop (i + 1))
    have hD := flatMap_len ic_len (l.drop i)
    have hsp : l.flatMap ic = (l.take i).flatMap ic ++ (l.drop i).flatMap ic := by rw [← List.flatMap_append, List.take_append_drop]
    have her : l.eraseIdx i = l.take i ++ l.drop (i + 1) := List.eraseIdx_eq_take_drop_succ _ _
    rw [List.length_take, Nat.min_eq_left (by omega)] at hA
    rw [List.length_drop] at hB hD
    by_cases hlast : l.length - (i + 1) = 0
    · refine ⟨.bool true, h, (l.drop i).flatMap ic ++ rest, ?_, by rw [List.length_append]; omega, ?_, rfl⟩
      · unfold iappend
        simp only [lenOf?, hlast, if_true]
        rw [show l.length - 1 = i by omega]
      · have : l.drop (i + 1) = [] := List.drop_eq_nil_of_le (by omega)
        rw [her, this, List.append_nil, ← List.append_assoc, ← hsp]
        exact O
    · have hf1 : firstN h 3 (l.length - (i + 1)) (.slice (some ⟨b, 0 + (i + 1) * 3, some 3⟩) (l.length - (i + 1)) (c - (i + 1))) = some ((l.drop (i + 1)).flatMap ic) := by
        rw [firstN_slice, if_neg (by omega)]
        show h.read ⟨b, 0 + (i + 1) * 3, none⟩ ((l.length - (i + 1)) * 3) = _
        rw [read_eq, g]
        simp only [readC, readN]
        rw [if_pos (by rw [List.length_append]; omega)]
        have hs2 : l.flatMap ic = (l.take (i + 1)).flatMap ic ++ (l.drop (i + 1)).flatMap ic := by rw [← List.flatMap_append, List.take_append_drop]
        have hA2 := flatMap_len ic_len (l.take (i + 1))
        rw [List.length_take, Nat.min_eq_left (by omega)] at hA2
        rw [hs2, List.append_assoc, show 0 + (i + 1) * 3 = ((l.take (i + 1)).flatMap ic).length by omega, List.drop_left, ← hB, List.take_left']
        rfl
      have hone : ((l.drop (i + 1)).flatMap ic).all oneCell = true := by
        rw [List.all_flatMap, List.all_eq_true]
        intro y _
        exact ic_one y
      refine ⟨.bool true, h.setB b (.cells ((l.take i).flatMap ic ++ ((l.drop (i + 1)).flatMap ic ++ ((l.drop i).flatMap ic ++ rest).drop ((l.drop (i + 1)).flatMap ic).length)) 3 true), ((l.drop i).flatMap ic ++ rest).drop ((l.drop (i + 1)).flatMap ic).length, ?_, by rw [List.length_drop, List.length_append]; omega, ?_, rfl⟩
      · unfold iappend
        simp only [lenOf?, hf1]
        rw [if_neg hlast, if_pos (by omega), write_eq, g, writeC_cells, if_pos ⟨by rw [List.length_append]; omega, hone, O.can 0 rfl⟩, hsp, List.append_assoc, show 0 + i * 3 = ((l.take i).flatMap ic).length by omega, setAt_append _ _ _ (by rw [List.length_append]; omega), show i + (l.length - (i + 1)) = l.length - 1 by omega]
      · rw [her, List.flatMap_append, List.append_assoc]
        exact O.set 0 rfl _
  have g2 := O2.1.get 0 rfl
  have p2 := O2.1.can 0 rfl
  have hE := flatMap_len ic_len (l.eraseIdx i)
  have s4 := vSlice_lh (len := l.length - 1) (cap := c) (lo := l.length - 1) (hi := l.length) (z := 3) (b := b) (off := 0) (k := .i64) (k' := .i64) (sp := some 3) (by omega) hc spotOk_some
  have hcl : vClear h2 3 [.int .i64 0, .int .u64 0, .int .i64 0] (.slice (some ⟨b, 0 + (l.length - 1) * 3, some 3⟩) (l.length - (l.length - 1)) (c - (l.length - 1))) = some (h2.setB b (.cells ((l.eraseIdx i).flatMap ic ++ ([.int .i64 0, .int .u64 0, .int .i64 0] ++ Y.drop 3)) 3 true)) := by
    unfold vClear
    simp only []
    rw [if_neg (by omega), show l.length - (l.length - 1) = 1 by omega]
    show (match h2.write ⟨b, 0 + (l.length - 1) * 3, none⟩ [.int .i64 0, .int .u64 0, .int .i64 0] with | some h' => if 3 = 3 then some h' else none | none => none) = _
    rw [write_eq, g2, writeC_cells, if_pos ⟨by rw [List.length_append]; simp only [List.length_cons, List.length_nil]; omega, rfl, p2⟩, show 0 + (l.length - 1) * 3 = ((l.eraseIdx i).flatMap ic).length by omega, setAt_append _ _ _ (by simp only [List.length_cons, List.length_nil]; omega)]
    rfl
  rw [Nat.zero_add] at s1 s3 s4 ap hcl
  simp (disch := first | assumption | omega | (simp only [wkD, oneCell, Option.isSome_some, *]; done) | (simp only [wkE, ne_eq]; omega)) only [ir68, List.append_nil, List.nil_append, List.cons_append, List.length_cons, List.length_nil, Nat.reduceAdd, Nat.reduceSub, List.replicate_succ, List.replicate_zero, s1, d1, wkF, X_region, X_seq, X_block, X_loop, X_cond, Y_box, Y_un, Y_store, Y_append, Y_makeMap, Y_buildSlice, ibin_shl, ibin_shr, ibin_and, ↓reduceIte, reduceCtorEq, oneCell, setAt, readN, Nat.reduceAdd, Nat.reduceLeDiff, Nat.reduceMul, layAt, Nat.reduceLT, Nat.reduceEqDiff, setParams, Int.reduceLT, Int.reduceLE, Int.reduceGT, Int.reduceGE, Int.reduceEq, Int.reduceNe]
  refine X_drawn _ fun an => ?_
  simp (disch := first | assumption | omega | (simp only [wkD, oneCell, Option.isSome_some, *]; done) | (simp only [wkE, ne_eq]; omega)) only [s2, s3, ap, s4, hcl, wkF, X_region, X_seq, X_block, X_loop, X_cond, Y_box, Y_un, Y_store, Y_append, Y_makeMap, Y_buildSlice, ibin_shl, ibin_shr, ibin_and, ↓reduceIte, reduceCtorEq, oneCell, setAt, readN, Nat.reduceAdd, Nat.reduceLeDiff, Nat.reduceMul, layAt, Nat.reduceLT, Nat.reduceEqDiff, setParams, Int.reduceLT, Int.reduceLE, Int.reduceGT, Int.reduceGE, Int.reduceEq, Int.reduceNe]
  refine leaf1 ?_
  exact ⟨by rw [hle]; rfl, _, by rw [List.length_append, List.length_drop, hle]; simp only [List.length_cons, List.length_nil]; omega, O2.1.set 0 rfl _⟩
theorem agg_ic (x : It) : Value.agg (ic x).toArray = iv x := rfl
theorem rd_full (x : It) : readN (ic x) 0 3 = some (ic x) := rfl
theorem tk_ic (x : It) : List.take 3 (ic x) = ic x := rfl
theorem set_ic (a b c : Value) (x : It) : setAt [a, b, c] 0 (ic x) = ic x := rfl
def CutIs (l : List It) (r : Int) (a : Bool) (l' : List It) : Prop := (a = false ∧ IsPlace l r (-1) ∧ l' = l) ∨ (a = true ∧ ∃ i : Nat, IsPlace l r (i : Int) ∧ i < l.length ∧ l' = l.eraseIdx i)
theorem cut_h {n : Nat} {r : Int} (hn : 40 < n) (hl : l.length ≤ 8) (O : Has ro h (Qr qb l :: R)) :
    (callV env (n + 4) (.func (.func 54) #[] #[]) [.pointer (some ⟨qb, 0, none⟩), .int .i64 r] h).Is fun p => ∃ a l', p.1 = .bool a ∧ CutIs l r a l' ∧ Has ro p.2 (Qr qb l' :: R) := by
  obtain ⟨v, sb, Q, k⟩ := Has.qr O
  refine call_is env54 ?_
  simp (disch := first | assumption | omega | (simp only [wkD, oneCell, Option.isSome_some, *]; done) | (simp only [wkE, ne_eq]; omega)) only [ir54, List.append_nil, List.nil_append, List.cons_append, List.length_cons, List.length_nil, Nat.reduceAdd, Nat.reduceSub, List.replicate_succ, List.replicate_zero, wkF, X_region, X_seq, X_block, X_loop, X_cond, Y_box, Y_un, Y_store, Y_append, Y_makeMap, Y_buildSlice, ibin_shl, ibin_shr, ibin_and, ↓reduceIte, reduceCtorEq, oneCell, setAt, readN, Nat.reduceAdd, Nat.reduceLeDiff, Nat.reduceMul, layAt, Nat.reduceLT, Nat.reduceEqDiff, setParams, Int.reduceLT, Int.reduceLE, Int.reduceGT, Int.reduceGE, Int.reduceEq, Int.reduceNe]
  refine Z_is (place_ok (n := n) (r := r) (by omega) (by omega) O.fine Q) ?_
  rintro v2 k2 ⟨⟨kk, hk, rfl⟩, e2⟩
  simp only at e2
  replace O := O.ext e2
  have hpl := hk
  rcases hk with ⟨rfl, hno⟩ | ⟨i, rfl, hi, hr, hno⟩
  · have m1 : ¬ (0 : Int) ≤ -1 := by omega
    simp (disch := first | assumption | omega | (simp only [wkD, oneCell, Option.isSome_some, *]; done) | (simp only [wkE, ne_eq]; omega)) only [m1, wkF, X_region, X_seq, X_block, X_loop, X_cond, Y_box, Y_un, Y_store, Y_append, Y_makeMap, Y_buildSlice, ibin_shl, ibin_shr, ibin_and, ↓reduceIte, reduceCtorEq, oneCell, setAt, readN, Nat.reduceAdd, Nat.reduceLeDiff, Nat.reduceMul, layAt, Nat.reduceLT, Nat.reduceEqDiff, setParams, Int.reduceLT, Int.reduceLE, Int.reduceGT, Int.reduceGE, Int.reduceEq, Int.reduceNe]
    exact leaf1 ⟨false, l, rfl, Or.inl ⟨rfl, hpl, rfl⟩, O⟩
  · have m1 : (0 : Int) ≤ (i : Int) := by omega
    have y1 : IntKind.i64.wrap ((i : Int) + 1) = ((i + 1 : Nat) : Int) := by rw [wrap_i64 (by omega) (by omega)]; omega
    obtain ⟨v3, O3⟩ := Has.ex.1 O
    replace O3 := (Has.star.1 O3).swap2
    rcases O3.slrOpen with ⟨rfl, _⟩ | ⟨b, c, rest, rfl, b3, b4, O4⟩
    · simp at hi
    have g1 := O4.get 1 rfl
    simp (disch := first | assumption | omega | (simp only [wkD, oneCell, Option.isSome_some, *]; done) | (simp only [wkE, ne_eq]; omega)) only [m1, g1, y1, wkF, X_region, X_seq, X_block, X_loop, X_cond, Y_box, Y_un, Y_store, Y_append, Y_makeMap, Y_buildSlice, ibin_shl, ibin_shr, ibin_and, ↓reduceIte, reduceCtorEq, oneCell, setAt, readN, Nat.reduceAdd, Nat.reduceLeDiff, Nat.reduceMul, layAt, Nat.reduceLT, Nat.reduceEqDiff, setParams, Int.reduceLT, Int.reduceLE, Int.reduceGT, Int.reduceGE, Int.reduceEq, Int.reduceNe]
    refine Z_is (delete_ok (n := n + 2) (i := i) (by omega) hi b3 b4 O4) ?_
    rintro w3 h3 ⟨rfl, rest', b5, O5⟩
    simp only at O5
    have g2 := O5.get 1 rfl
    have p2 := O5.can 1 rfl
    have O6 := O5.set 1 rfl (.cells [.slice (some ⟨b, 0, some 3⟩) (l.eraseIdx i).length c] 1 false)
    simp only [List.set_cons_succ, List.set_cons_zero] at O6
    simp (disch := first | assumption | omega | (simp only [wkD, oneCell, Option.isSome_some, *]; done) | (simp only [wkE, ne_eq]; omega)) only [m1, g2, p2, slI, wkF, X_region, X_seq, X_block, X_loop, X_cond, Y_box, Y_un, Y_store, Y_append, Y_makeMap, Y_buildSlice, ibin_shl, ibin_shr, ibin_and, ↓reduceIte, reduceCtorEq, oneCell, setAt, readN, Nat.reduceAdd, Nat.reduceLeDiff, Nat.reduceMul, layAt, Nat.reduceLT, Nat.reduceEqDiff, setParams, Int.reduceLT, Int.reduceLE, Int.reduceGT, Int.reduceGE, Int.reduceEq, Int.reduceNe]
    have hle : (l.eraseIdx i).length = l.length - 1 := by rw [List.length_eraseIdx, if_pos hi]
    exact leaf1 ⟨true, l.eraseIdx i, rfl, Or.inr ⟨rfl, i, hpl, hi, rfl⟩, Has.ex.2 ⟨_, Has.star.2 (Has.slrClose rfl (by omega) b5 O6).swap2⟩⟩
theorem first_h {n : Nat} (hn : 40 < n) (hl : l.length ≤ 8) (O : Has ro h (Qr qb l :: R)) :
    (callV env (n + 3) (.func (.func 57) #[] #[]) [.pointer (some ⟨qb, 0, none⟩)] h).Is fun p => p.1 = .tuple #[iv (nth l 0), .bool (decide (0 < l.length))] ∧ Has ro p.2 (Qr qb l :: R) := by
  refine call_is env57 ?_
  simp (disch := first | assumption | omega | (simp only [wkD, oneCell, Option.isSome_some, *]; done) | (simp only [wkE, ne_eq]; omega)) only [ir57, List.append_nil, List.nil_append, List.cons_append, List.length_cons, List.length_nil, Nat.reduceAdd, Nat.reduceSub, List.replicate_succ, List.replicate_zero, wkF, X_region, X_seq, X_block, X_loop, X_cond, Y_un, Y_store, Y_append, Y_makeMap, Y_buildSlice, ibin_shl, ibin_shr, ibin_and, ↓reduceIte, reduceCtorEq, oneCell, setAt, readN, Nat.reduceAdd, Nat.reduceLeDiff, Nat.reduceMul, layAt, Nat.reduceLT, Nat.reduceEqDiff, setParams, Int.reduceLT, Int.reduceLE, Int.reduceGT, Int.reduceGE, Int.reduceEq, Int.reduceNe]
  refine Y_boxO O ?_
  intro bA h1 O e1
  simp (disch := first | assumption | omega | (simp only [wkD, oneCell, Option.isSome_some, *]; done) | (simp only [wkE, ne_eq]; omega)) only [wkF, X_region, X_seq, X_block, X_loop, X_cond, Y_un, Y_store, Y_append, Y_makeMap, Y_buildSlice, ibin_shl, ibin_shr, ibin_and, ↓reduceIte, reduceCtorEq, oneCell, setAt, readN, Nat.reduceAdd, Nat.reduceLeDiff, Nat.reduceMul, layAt, Nat.reduceLT, Nat.reduceEqDiff, setParams, Int.reduceLT, Int.reduceLE, Int.reduceGT, Int.reduceGE, Int.reduceEq, Int.reduceNe]
  refine Y_boxO O ?_
  intro bB h2 O e2
  simp (disch := first | assumption | omega | (simp only [wkD, oneCell, Option.isSome_some, *]; done) | (simp only [wkE, ne_eq]; omega)) only [cellsOf_bool, wkF, X_region, X_seq, X_block, X_loop, X_cond, Y_box, Y_un, Y_store, Y_append, Y_makeMap, Y_buildSlice, ibin_shl, ibin_shr, ibin_and, ↓reduceIte, reduceCtorEq, oneCell, setAt, readN, Nat.reduceAdd, Nat.reduceLeDiff, Nat.reduceMul, layAt, Nat.reduceLT, Nat.reduceEqDiff, setParams, Int.reduceLT, Int.reduceLE, Int.reduceGT, Int.reduceGE, Int.reduceEq, Int.reduceNe]
  refine Z_is (all_ok (n := n + 1)) ?_
  rintro v3 h3 ⟨rfl, rfl⟩
  replace O := O.alloc (.cells [.pointer (some ⟨qb, 0, none⟩)] 1 false)
  simp (disch := first | assumption | omega | (simp only [wkD, oneCell, Option.isSome_some, *]; done) | (simp only [wkE, ne_eq]; omega)) only [wkF, X_region, X_seq, X_block, X_loop, X_cond, Y_box, Y_un, Y_store, Y_append, Y_makeMap, Y_buildSlice, ibin_shl, ibin_shr, ibin_and, ↓reduceIte, reduceCtorEq, oneCell, setAt, readN, Nat.reduceAdd, Nat.reduceLeDiff, Nat.reduceMul, layAt, Nat.reduceLT, Nat.reduceEqDiff, setParams, Int.reduceLT, Int.reduceLE, Int.reduceGT, Int.reduceGE, Int.reduceEq, Int.reduceNe]
  generalize 2 * h2.next = bE at O ⊢
  refine X_abs O ?_
  clear O e1 e2
  intro h4 O
  refine X_rangeO O (g := 73) (first := #[]) rfl ?_
  intro m l1 h5 O5
  refine call_is env73 ?_
  have gE := O5.get 2 rfl
  obtain ⟨v6, O6⟩ := Has.ex.1 (O5.at 5 rfl)
  replace O6 := Has.star.1 O6
  have gq := O6.get 0 rfl
  obtain ⟨pv, cv, rfl, hblk⟩ := O6.slrVal 1 rfl
  simp (disch := first | assumption | omega | (simp only [wkD, oneCell, Option.isSome_some, *]; done) | (simp only [wkE, ne_eq]; omega)) only [ir73, List.append_nil, List.nil_append, List.cons_append, List.length_cons, List.length_nil, Nat.reduceAdd, Nat.reduceSub, List.replicate_succ, List.replicate_zero, gE, gq, wkF, X_region, X_seq, X_block, X_loop, X_cond, Y_box, Y_un, Y_store, Y_append, Y_makeMap, Y_buildSlice, ibin_shl, ibin_shr, ibin_and, ↓reduceIte, reduceCtorEq, oneCell, setAt, readN, Nat.reduceAdd, Nat.reduceLeDiff, Nat.reduceMul, layAt, Nat.reduceLT, Nat.reduceEqDiff, setParams, Int.reduceLT, Int.reduceLE, Int.reduceGT, Int.reduceGE, Int.reduceEq, Int.reduceNe]
  refine L_is (fun q s => s.defers = [] ∧ s.tmps.length = 23 ∧ s.tmps.getD 0 undefV = .func (.yield l1) #[] #[] ∧ s.tmps.getD 10 undefV = .slice pv l.length cv ∧ s.tmps.getD 11 undefV = .int .i64 (l.length : Int) ∧ s.tmps.getD 12 undefV = .int .i64 0 ∧ s.h = h5) 0 ?_ (by omega) ?_
  · exact ⟨rfl, rfl, rfl, rfl, rfl, rfl, rfl⟩
  rintro q tm df h6 ⟨hd, hlen_, g0, g10, g11, g12, hh⟩
  simp only at hd hh g0 g10 g11 g12
  subst hd hh
  obtain ⟨w, hg_, rfl⟩ := explode hlen_
  simp only [hg_] at g0 g10 g11 g12
  clear hlen_ hg_
  by_cases h0 : 0 < l.length
  · have h0' : (0 : Int) < (l.length : Int) := by omega
    obtain ⟨b, rest, rfl, hgb, _, _⟩ := hblk h0
    have r1 : readC (h6.get b) 0 3 = some (ic (nth l 0)) := rd_all (i := 0) ic_len (nth_get h0) hgb
    simp (disch := first | assumption | omega | (simp only [wkD, oneCell, Option.isSome_some, *]; done) | (simp only [wkE, ne_eq]; omega)) only [g0, g10, g11, g12, h0', r1, agg_ic, Int.le_refl, wkF, X_region, X_seq, X_block, X_loop, X_cond, Y_un, Y_store, Y_append, Y_makeMap, Y_buildSlice, ibin_shl, ibin_shr, ibin_and, ↓reduceIte, reduceCtorEq, oneCell, setAt, readN, Nat.reduceAdd, Nat.reduceLeDiff, Nat.reduceMul, layAt, Nat.reduceLT, Nat.reduceEqDiff, setParams, Int.reduceLT, Int.reduceLE, Int.reduceGT, Int.reduceGE, Int.reduceEq, Int.reduceNe]
    refine Y_boxO O5 ?_
    intro b7 h7 O7 e7
    have g7 := O7.get 0 rfl
    have p7 := O7.can 0 rfl
    have O8 := O7.set 0 rfl (.cells (ic (nth l 0)) 1 false)
    simp only [List.set_cons_zero] at O8
    have g8 := O8.get 0 rfl
    simp (disch := first | assumption | omega | (simp only [wkD, oneCell, Option.isSome_some, *]; done) | (simp only [wkE, ne_eq]; omega)) only [g7, p7, g8, set_ic, iv_cells, ic_len, ic_one, rd_full, tk_ic, agg_ic, wkF, X_region, X_seq, X_block, X_loop, X_cond, Y_box, Y_un, Y_store, Y_append, Y_makeMap, Y_buildSlice, ibin_shl, ibin_shr, ibin_and, ↓reduceIte, reduceCtorEq, oneCell, setAt, readN, Nat.reduceAdd, Nat.reduceLeDiff, Nat.reduceMul, layAt, Nat.reduceLT, Nat.reduceEqDiff, setParams, Int.reduceLT, Int.reduceLE, Int.reduceGT, Int.reduceGE, Int.reduceEq, Int.reduceNe]
    have O9 := (O8.at 1 rfl)
    simp only [List.eraseIdx_cons_succ, List.eraseIdx_cons_zero] at O9
    refine Z_is (R := fun p => p.1 = .bool false ∧ ∃ lp L', lp.state ≠ .busy ∧ Has ro p.2 (Ob l1 (.loop lp) :: L') ∧ lp.pending = .ret ∧ L' = (Ob b7 (.cells (ic (nth l 0)) 1 false) :: Ob m (.deferred true) :: Ob bE (.cells [.pointer (some ⟨qb, 0, none⟩)] 1 false) :: Ob bB (.cells [.bool true] 1 false) :: Ob bA (.cells (ic (nth l 0)) 1 false) :: Qr qb l :: R)) ?_ ?_
    · rw [callV_yield]
      refine round_isO O9 rfl rfl ?_
      clear O5 O6 O7 O8 g7 p7 g8 gE gq hgb r1 g0 g10 g11 g12
      simp (disch := first | assumption | omega | (simp only [wkD, oneCell, Option.isSome_some, *]; done) | (simp only [wkE, ne_eq]; omega)) only [List.nil_append, wkF, X_region, X_seq, X_block, X_loop, X_cond, Y_un, Y_store, Y_append, Y_makeMap, Y_buildSlice, ibin_shl, ibin_shr, ibin_and, ↓reduceIte, reduceCtorEq, oneCell, setAt, readN, Nat.reduceAdd, Nat.reduceLeDiff, Nat.reduceMul, layAt, Nat.reduceLT, Nat.reduceEqDiff, setParams, Int.reduceLT, Int.reduceLE, Int.reduceGT, Int.reduceGE, Int.reduceEq, Int.reduceNe]
      refine Y_boxO O9 ?_
      intro b10 h10 O10 e10
      have g10 := O10.get 0 rfl
      have p10 := O10.can 0 rfl
      have O11 := (O10.set 0 rfl (.cells (ic (nth l 0)) 1 false)).swap2
      simp (disch := first | assumption | omega | (simp only [wkD, oneCell, Option.isSome_some, *]; done) | (simp only [wkE, ne_eq]; omega)) only [List.nil_append, g10, p10, set_ic, iv_cells, ic_len, ic_one, wkF, X_region, X_seq, X_block, X_loop, X_cond, Y_box, Y_un, Y_store, Y_append, Y_makeMap, Y_buildSlice, ibin_shl, ibin_shr, ibin_and, ↓reduceIte, reduceCtorEq, oneCell, setAt, readN, Nat.reduceAdd, Nat.reduceLeDiff, Nat.reduceMul, layAt, Nat.reduceLT, Nat.reduceEqDiff, setParams, Int.reduceLT, Int.reduceLE, Int.reduceGT, Int.reduceGE, Int.reduceEq, Int.reduceNe]
      refine Is_in ⟨rfl, _, O11, fun h12 O12 => ?_⟩
      have gX := O12.get 1 rfl
      have gA := O12.get 6 rfl
      have pA := O12.can 6 rfl
      have O13 := O12.set 6 rfl (.cells (ic (nth l 0)) 1 false)
      simp only [List.set_cons_succ, List.set_cons_zero] at O13
      have gB := O13.get 5 rfl
      have pB := O13.can 5 rfl
      have O14 := O13.set 5 rfl (.cells [.bool true] 1 false)
      simp only [List.set_cons_succ, List.set_cons_zero] at O14
      simp (disch := first | assumption | omega | (simp only [wkD, oneCell, Option.isSome_some, *]; done) | (simp only [wkE, ne_eq]; omega)) only [gX, gA, pA, gB, pB, set_ic, iv_cells, ic_len, ic_one, rd_full, tk_ic, agg_ic, wkF, X_region, X_seq, X_block, X_loop, X_cond, Y_box, Y_un, Y_store, Y_append, Y_makeMap, Y_buildSlice, ibin_shl, ibin_shr, ibin_and, ↓reduceIte, reduceCtorEq, oneCell, setAt, readN, Nat.reduceAdd, Nat.reduceLeDiff, Nat.reduceMul, layAt, Nat.reduceLT, Nat.reduceEqDiff, setParams, Int.reduceLT, Int.reduceLE, Int.reduceGT, Int.reduceGE, Int.reduceEq, Int.reduceNe]
      refine Is_in ⟨_, _, O14, fun h15 O15 => ?_⟩
      exact ⟨rfl, _, _, (by intro h; cases h), O15.rid 1 rfl, rfl, rfl⟩
    · rintro v9 h9 ⟨rfl, lp, L', hst, O10, hpd, rfl⟩
      simp (disch := first | assumption | omega | (simp only [wkD, oneCell, Option.isSome_some, *]; done) | (simp only [wkE, ne_eq]; omega)) only [wkF, X_region, X_seq, X_block, X_loop, X_cond, Y_box, Y_un, Y_store, Y_append, Y_makeMap, Y_buildSlice, ibin_shl, ibin_shr, ibin_and, ↓reduceIte, reduceCtorEq, oneCell, setAt, readN, Nat.reduceAdd, Nat.reduceLeDiff, Nat.reduceMul, layAt, Nat.reduceLT, Nat.reduceEqDiff, setParams, Int.reduceLT, Int.reduceLE, Int.reduceGT, Int.reduceGE, Int.reduceEq, Int.reduceNe]
      refine Is_in ?_
      simp (disch := first | assumption | omega | (simp only [wkD, oneCell, Option.isSome_some, *]; done) | (simp only [wkE, ne_eq]; omega)) only [wkF, X_region, X_seq, X_block, X_loop, X_cond, Y_box, Y_un, Y_store, Y_append, Y_makeMap, Y_buildSlice, ibin_shl, ibin_shr, ibin_and, ↓reduceIte, reduceCtorEq, oneCell, setAt, readN, Nat.reduceAdd, Nat.reduceLeDiff, Nat.reduceMul, layAt, Nat.reduceLT, Nat.reduceEqDiff, setParams, Int.reduceLT, Int.reduceLE, Int.reduceGT, Int.reduceGE, Int.reduceEq, Int.reduceNe]
      refine leaf0 ⟨lp, _, hst, O10, fun h11 O11 => ?_⟩
      rw [hpd]
      simp (disch := first | assumption | omega | (simp only [wkD, oneCell, Option.isSome_some, *]; done) | (simp only [wkE, ne_eq]; omega)) only [wkF, X_region, X_seq, X_block, X_loop, X_cond, Y_box, Y_un, Y_store, Y_append, Y_makeMap, Y_buildSlice, ibin_shl, ibin_shr, ibin_and, ↓reduceIte, reduceCtorEq, oneCell, setAt, readN, Nat.reduceAdd, Nat.reduceLeDiff, Nat.reduceMul, layAt, Nat.reduceLT, Nat.reduceEqDiff, setParams, Int.reduceLT, Int.reduceLE, Int.reduceGT, Int.reduceGE, Int.reduceEq, Int.reduceNe]
      refine leafMO O11 1 rfl fun h12 O12 => ?_
      simp only [List.set_cons_succ, List.set_cons_zero] at O12
      exact ⟨_, answer2 _ _ _ _ (cellN O12 4 rfl rfl rfl) (cell1 O12 3 rfl rfl), by rw [decide_eq_true h0]; rfl, O12.drop.drop.drop.drop.drop⟩
  · have h0' : ¬ (0 : Int) < (l.length : Int) := by omega
    have hl0 : l = [] := List.eq_nil_of_length_eq_zero (by omega)
    simp (disch := first | assumption | omega | (simp only [wkD, oneCell, Option.isSome_some, *]; done) | (simp only [wkE, ne_eq]; omega)) only [g0, g10, g11, g12, h0', wkF, X_region, X_seq, X_block, X_loop, X_cond, Y_box, Y_un, Y_store, Y_append, Y_makeMap, Y_buildSlice, ibin_shl, ibin_shr, ibin_and, ↓reduceIte, reduceCtorEq, oneCell, setAt, readN, Nat.reduceAdd, Nat.reduceLeDiff, Nat.reduceMul, layAt, Nat.reduceLT, Nat.reduceEqDiff, setParams, Int.reduceLT, Int.reduceLE, Int.reduceGT, Int.reduceGE, Int.reduceEq, Int.reduceNe]
    refine Is_in ?_
    simp (disch := first | assumption | omega | (simp only [wkD, oneCell, Option.isSome_some, *]; done) | (simp only [wkE, ne_eq]; omega)) only [wkF, X_region, X_seq, X_block, X_loop, X_cond, Y_box, Y_un, Y_store, Y_append, Y_makeMap, Y_buildSlice, ibin_shl, ibin_shr, ibin_and, ↓reduceIte, reduceCtorEq, oneCell, setAt, readN, Nat.reduceAdd, Nat.reduceLeDiff, Nat.reduceMul, layAt, Nat.reduceLT, Nat.reduceEqDiff, setParams, Int.reduceLT, Int.reduceLE, Int.reduceGT, Int.reduceGE, Int.reduceEq, Int.reduceNe]
    refine leaf0n ⟨_, _, ?_, O5, fun h11 O11 => ?_⟩
    · intro h; cases h
    · have gA := O11.get 3 rfl
      have pA := O11.can 3 rfl
      have O13 := O11.set 3 rfl (.cells (ic it0) 1 false)
      simp only [List.set_cons_succ, List.set_cons_zero] at O13
      have gB := O13.get 2 rfl
      have pB := O13.can 2 rfl
      have O14 := O13.set 2 rfl (.cells [.bool false] 1 false)
      simp only [List.set_cons_succ, List.set_cons_zero] at O14
      unfold ic it0 at gB pB O14
      simp (disch := first | assumption | omega | (simp only [wkD, oneCell, Option.isSome_some, *]; done) | (simp only [wkE, ne_eq]; omega)) only [gA, pA, gB, pB, wkF, X_region, X_seq, X_block, X_loop, X_cond, Y_box, Y_un, Y_store, Y_append, Y_makeMap, Y_buildSlice, ibin_shl, ibin_shr, ibin_and, ↓reduceIte, reduceCtorEq, oneCell, setAt, readN, Nat.reduceAdd, Nat.reduceLeDiff, Nat.reduceMul, layAt, Nat.reduceLT, Nat.reduceEqDiff, setParams, Int.reduceLT, Int.reduceLE, Int.reduceGT, Int.reduceGE, Int.reduceEq, Int.reduceNe]
      refine leafMO O14 0 rfl fun h12 O12 => ?_
      simp only [List.set_cons_succ, List.set_cons_zero] at O12
      subst hl0
      exact ⟨_, answer2 _ _ _ _ (cellN O12 3 rfl rfl rfl) (cell1 O12 2 rfl rfl), rfl, O12.drop.drop.drop.drop⟩
end
end Go.Proofs.Ytmpnldmdchchjaa
