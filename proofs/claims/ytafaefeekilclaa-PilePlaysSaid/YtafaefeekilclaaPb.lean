/-
  A pile, by what lies in memory: a list in order.
-/
import Derived.Test.YtafaefeekilclaaFk
import Derived.Test.YtafaefeekilclaaPile
import Derived.Test.YtafaefeekilclaaPqg
namespace Go.Proofs.Ytafaefeekilclaa
open Go Go.Ideal Go.ChangeShapes Go.RowKit
set_option maxHeartbeats 0
set_option linter.unusedSimpArgs false
set_option linter.unusedVariables false
set_option maxRecDepth 100000
attribute [local irreducible] callV T.All T.Is run
theorem env20 : env 20 = some ir20 := rfl
theorem env25 : env 25 = some ir25 := rfl
theorem env18 : env 18 = some ir18 := rfl
theorem env24 : env 24 = some ir24 := rfl
theorem env30 : env 30 = some ir30 := rfl

/-! Lists in order. -/
def Sorted : List It → Prop
  | [] => True
  | x :: l => (∀ y ∈ l, le x y) ∧ Sorted l
def ins (x : It) : List It → List It
  | [] => [x]
  | y :: l => if le x y then x :: y :: l else y :: ins x l

theorem ins_count (x y : It) : ∀ (l : List It), (ins x l).count y = l.count y + one (x = y)
  | [] => by rw [ins, cnt_single]; simp
  | z :: l => by
    rw [ins]
    split
    · rw [cnt_cons]
    · rw [cnt_cons, ins_count x y l, cnt_cons]; omega
theorem ins_len (x : It) : ∀ (l : List It), (ins x l).length = l.length + 1
  | [] => rfl
  | z :: l => by
    rw [ins]
    split
    · rfl
    · rw [List.length_cons, ins_len x l, List.length_cons]
theorem mem_count {l : List It} {x : It} : x ∈ l ↔ 0 < l.count x := List.count_pos_iff.symm
theorem ins_sorted (x : It) : ∀ {l : List It}, Sorted l → Sorted (ins x l)
  | [], _ => ⟨fun y h => by simp at h, trivial⟩
  | z :: l, h => by
    rw [ins]
    split
    · rename_i hx
      refine ⟨fun y hy => ?_, h⟩
      rcases List.mem_cons.1 hy with rfl | hy
      · exact hx
      · exact le_trans hx (h.1 y hy)
    · rename_i hx
      refine ⟨fun y hy => ?_, ins_sorted x h.2⟩
      rw [mem_count, ins_count] at hy
      by_cases e : x = y
      · subst e; exact (le_total _ _).resolve_left hx
      · refine h.1 y (mem_count.2 ?_)
        unfold one at hy
        rw [if_neg e] at hy
        omega
theorem cnt_zero {l : List It} (h : ∀ y, l.count y = 0) : l = [] := by
  rcases l with _ | ⟨a, l⟩
  · rfl
  · have := h a
    rw [cnt_cons] at this
    unfold one at this
    rw [if_pos rfl] at this
    omega
theorem sorted_uniq : ∀ {a b : List It}, Sorted a → Sorted b → (∀ y, a.count y = b.count y) → a = b
  | [], b, _, _, h => (cnt_zero fun y => (h y).symm).symm
  | x :: a, [], _, _, h => by
    have := h x
    rw [cnt_cons] at this
    unfold one at this
    rw [if_pos rfl] at this
    simp at this
  | x :: a, y :: b, ha, hb, h => by
    have mx : x ∈ y :: b := mem_count.2 (by rw [← h x, cnt_cons]; unfold one; rw [if_pos rfl]; omega)
    have my : y ∈ x :: a := mem_count.2 (by rw [h y, cnt_cons]; unfold one; rw [if_pos rfl]; omega)
    have l1 : ∀ {z : It} {c : List It} {w : It}, Sorted (z :: c) → w ∈ z :: c → le z w := fun hs hm => by
      rcases List.mem_cons.1 hm with rfl | hm
      · exact le_refl _
      · exact hs.1 _ hm
    have e : x = y := le_anti (l1 ha my) (l1 hb mx)
    subst e
    rw [sorted_uniq ha.2 hb.2 fun z => by
      have := h z
      rw [cnt_cons, cnt_cons] at this
      omega]
theorem sorted_nth {l : List It} (h : ∀ i j : Nat, i < j → j < l.length → le (nth l i) (nth l j)) : Sorted l := by
  induction l with
  | nil => trivial
  | cons x l ih =>
    refine ⟨fun y hy => ?_, ih fun i j h1 h2 => h (i + 1) (j + 1) (by omega) (by simpa using h2)⟩
    obtain ⟨k, hk, rfl⟩ := List.mem_iff_getElem.1 hy
    have h1 := h 0 (k + 1) (by omega) (by simpa using hk)
    have h2 := nth_get hk
    rw [List.getElem?_eq_getElem hk] at h2
    have e1 : nth (x :: l) (k + 1) = nth l k := rfl
    rw [e1, ← Option.some.inj h2] at h1
    exact h1
theorem sorted_drop : ∀ (n : Nat) {l : List It}, Sorted l → Sorted (l.drop n)
  | 0, _, h => h
  | n + 1, [], h => trivial
  | n + 1, x :: l, h => sorted_drop n h.2

/-- The list in order of what lies in a heap. -/
structure Ord (S l : List It) : Prop where
  heap : IsHeap l
  sorted : Sorted S
  len : S.length = l.length
  cnt : ∀ y, S.count y = l.count y

theorem Ord.head {x : It} {S l : List It} (o : Ord (x :: S) l) : nth l 0 = x := by
  have h0 : 0 < l.length := by have := o.len; simp at this; omega
  refine le_anti (heap_least o.heap ?_) ?_
  · rw [← o.cnt, cnt_cons]; unfold one; rw [if_pos rfl]; omega
  · have : nth l 0 ∈ x :: S := mem_count.2 (by rw [o.cnt]; exact count_top h0)
    rcases List.mem_cons.1 this with e | e
    · rw [e]; exact le_refl _
    · exact o.sorted.1 _ e

/-- A pile in memory. -/
def Pr (pb : Nat) (l : List It) : Rs := Rs.ex fun v => Rs.star (Ob pb (.cells [v] 1 false)) (Slr 3 ic v l)
def Pq (pb : Nat) (S : List It) : Rs := Rs.ex fun l => Rs.and (Ord S l) (Pr pb l)

section
variable {ro : Nat → Option (List Value × Nat)} {h : Heap} {R : List Rs} {pb : Nat} {S l : List It}

theorem Has.pr (O : Has ro h (Pr pb l :: R)) : ∃ v sb, PileAt h pb 0 [v] 1 false v sb l ∧ ∀ (h' : Heap) (v' : Value) (sb' : Option Nat) (l' : List It), PileAt h' pb 0 [v'] 1 false v' sb' l' → (sb' = sb ∨ ∃ b, sb' = some b ∧ 2 * h.next ≤ b) → Chg (pS pb sb) h h' → Has ro h' (Pr pb l' :: R) := by
  obtain ⟨S, ⟨v, hs⟩, g, k⟩ := O.step
  obtain ⟨S1, S2, e, d, ⟨a1, a2⟩, b⟩ := star_is.1 hs
  obtain ⟨sb, s1, s2⟩ := slr_sl b (fun x hx => g x ((e x).2 (Or.inr hx)))
  have gq := g pb ((e pb).2 (Or.inl ((a1 pb).2 rfl)))
  have hS : S = pS pb sb := by
    funext x
    exact propext (by rw [e, a1, s2]; exact Iff.rfl)
  subst hS
  refine ⟨v, sb, ⟨a2, rfl, s1, gq.1, gq.2.1, gq.2.2, fun h => d pb ((a1 pb).2 rfl) ((s2 pb).2 h)⟩, fun h' v' sb' l' Q hsb c => k h' (Pr pb l') (pS pb sb') c ⟨v', star_is.2 ⟨fun x => x = pb, fun x => some x = sb', fun b => Iff.rfl, fun b h1 h2 => Q.ne (by rw [← h1]; exact h2), ⟨fun x => Iff.rfl, Q.at_⟩, sl_slr Q.sl⟩⟩ fun x hx => ?_⟩
  rcases hx with rfl | hx
  · exact Or.inl (Or.inl rfl)
  · rcases hsb with rfl | ⟨y, rfl, hy⟩
    · exact Or.inl (Or.inr hx)
    · obtain ⟨q1, q2⟩ := Q.sl.lt hx
      cases hx
      exact Or.inr ⟨q2, hy, q1⟩
theorem Has.pq (O : Has ro h (Pq pb S :: R)) : ∃ l, Ord S l ∧ Has ro h (Pr pb l :: R) := by
  obtain ⟨l, O1⟩ := Has.ex.1 O
  obtain ⟨o, O2⟩ := Has.and.1 O1
  exact ⟨l, o, O2⟩
theorem Has.mkPq (o : Ord S l) (O : Has ro h (Pr pb l :: R)) : Has ro h (Pq pb S :: R) := Has.ex.2 ⟨l, Has.and.2 ⟨o, O⟩⟩
theorem Has.newPq (O : Has ro h (Ob pb (.cells [.slice none 0 0] 1 false) :: R)) : Has ro h (Pq pb [] :: R) :=
  Has.mkPq (l := []) ⟨heap_nil, trivial, rfl, fun _ => rfl⟩ (Has.ex.2 ⟨_, Has.star.2 (O.slrNil (g := ic) (z := 3)).swap2⟩)

theorem push_h {n : Nat} (hn : S.length + 20 < n) (hl : S.length < 1000000) (O : Has ro h (Pq pb S :: R)) (x : It) :
    (callV env (n + 4) (.func (.func 10) #[] #[]) [.pointer (some ⟨pb, 0, none⟩), iv x] h).Is fun p => Has ro p.2 (Pq pb (ins x S) :: R) := by
  obtain ⟨l, o, O1⟩ := Has.pq O
  obtain ⟨v, sb, P, k⟩ := Has.pr O1
  have hlen := o.len
  refine T.Is.mono ?_ (push_ok (n := n) (x := x) (by omega) (by omega) O.fine P o.heap)
  rintro ⟨w, h1⟩ ⟨v', sb', l', P', hs, q1, q2, q3, c⟩
  exact Has.mkPq ⟨q1, ins_sorted x o.sorted, by rw [ins_len]; omega, fun y => by rw [ins_count, o.cnt, q3]⟩ (k _ _ _ _ P' hs c)

theorem len_h {n : Nat} (O : Has ro h (Pq pb S :: R)) : (callV env (n + 1) (.func (.func 13) #[] #[]) [.pointer (some ⟨pb, 0, none⟩)] h).Is fun p => p = (.int .i64 (S.length : Int), h) := by
  obtain ⟨l, o, O1⟩ := Has.pq O
  obtain ⟨v, sb, P, k⟩ := Has.pr O1
  rw [o.len]
  exact len_ok P

theorem tk_ic (x : It) : List.take 3 (ic x) = ic x := rfl
def hd (S : List It) : It := S.headD it0
theorem top_h {n : Nat} (O : Has ro h (Pq pb S :: R)) : (callV env (n + 2) (.func (.func 14) #[] #[]) [.pointer (some ⟨pb, 0, none⟩)] h).Is fun p => p.1 = .tuple #[iv (hd S), .bool (!S.isEmpty)] ∧ Has ro p.2 (Pq pb S :: R) := by
  obtain ⟨l, o, O1⟩ := Has.pq O
  obtain ⟨v, sb, P, k⟩ := Has.pr O1
  refine T.Is.mono ?_ (top_ok (n := n) O.fine P)
  rintro ⟨w, h1⟩ ⟨rfl, e⟩
  refine ⟨?_, O.ext e⟩
  cases S with
  | nil =>
    have := o.len
    simp at this
    rw [if_neg (by omega), decide_eq_false (by omega)]
    rfl
  | cons x S =>
    have h0 : 0 < l.length := by have := o.len; simp at this; omega
    rw [if_pos h0, decide_eq_true h0, o.head]
    rfl

theorem pop_h {n : Nat} (hn : S.length + 20 < n) (hl : S.length < 1000000) (O : Has ro h (Pq pb S :: R)) :
    (callV env (n + 5) (.func (.func 11) #[] #[]) [.pointer (some ⟨pb, 0, none⟩)] h).Is fun p => p.1 = .tuple #[iv (hd S), .bool (!S.isEmpty)] ∧ Has ro p.2 (Pq pb S.tail :: R) := by
  cases hS : S with
  | nil =>
    subst hS
    refine call_is env11 ?_
    simp (disch := first | assumption | omega | (simp only [wkD, oneCell, Option.isSome_some, *]; done) | (simp only [wkE, ne_eq]; omega)) only [ir11, List.append_nil, List.nil_append, List.cons_append, List.length_cons, List.length_nil, Nat.reduceAdd, Nat.reduceSub, List.replicate_succ, List.replicate_zero, wk0, wk1, wk2, wk3, wk4, wk5, X_region, X_seq, X_block, X_loop, X_cond, Y_un, Y_store, Y_append, Y_makeMap, Y_buildSlice, ibin_shl, ibin_shr, ibin_and, List.set_cons_zero, List.set_cons_succ, List.getD_cons_zero, List.getD_cons_succ, List.map_cons, List.map_nil, ↓reduceIte, reduceCtorEq, oneCell, List.length_cons, List.length_nil, setAt, readN, bne_iff_ne, ne_eq, Nat.reduceAdd, Nat.reduceLeDiff, List.getElem?_cons_zero, List.getElem?_cons_succ, Nat.reduceMul, Option.isSome_some, layAt, Nat.reduceLT, Option.isNone_some, Option.isNone_none, beq_self_eq_true, Nat.reduceEqDiff, setParams, Int.reduceLT, Int.reduceLE, Int.reduceGT, Int.reduceGE, Int.reduceEq, Int.reduceNe, Option.map_some, Option.map_none, Option.isSome_none]
    refine Y_boxO O ?_
    intro b1 h1 O1 e1
    simp (disch := first | assumption | omega | (simp only [wkD, oneCell, Option.isSome_some, *]; done) | (simp only [wkE, ne_eq]; omega)) only [wk0, wk1, wk2, wk3, wk4, wk5, X_region, X_seq, X_block, X_loop, X_cond, Y_box, Y_un, Y_store, Y_append, Y_makeMap, Y_buildSlice, ibin_shl, ibin_shr, ibin_and, List.set_cons_zero, List.set_cons_succ, List.getD_cons_zero, List.getD_cons_succ, List.map_cons, List.map_nil, ↓reduceIte, reduceCtorEq, oneCell, List.length_cons, List.length_nil, setAt, readN, bne_iff_ne, ne_eq, Nat.reduceAdd, Nat.reduceLeDiff, List.getElem?_cons_zero, List.getElem?_cons_succ, Nat.reduceMul, Option.isSome_some, layAt, Nat.reduceLT, Option.isNone_some, Option.isNone_none, beq_self_eq_true, Nat.reduceEqDiff, setParams, Int.reduceLT, Int.reduceLE, Int.reduceGT, Int.reduceGE, Int.reduceEq, Int.reduceNe, Option.map_some, Option.map_none, Option.isSome_none]
    refine Z_is (top_h (n := n + 2) (O1.at 1 rfl)) ?_
    rintro v2 h2 ⟨rfl, O2⟩
    have O3 := Has.back O2 (by simp)
    simp only [List.set_cons_succ, List.set_cons_zero] at O3
    simp (disch := first | assumption | omega | (simp only [wkD, oneCell, Option.isSome_some, *]; done) | (simp only [wkE, ne_eq]; omega)) only [List.isEmpty_nil, wk0, wk1, wk2, wk3, wk4, wk5, X_region, X_seq, X_block, X_loop, X_cond, Y_un, Y_store, Y_append, Y_makeMap, Y_buildSlice, ibin_shl, ibin_shr, ibin_and, List.set_cons_zero, List.set_cons_succ, List.getD_cons_zero, List.getD_cons_succ, List.map_cons, List.map_nil, ↓reduceIte, reduceCtorEq, oneCell, List.length_cons, List.length_nil, setAt, readN, bne_iff_ne, ne_eq, Nat.reduceAdd, Nat.reduceLeDiff, List.getElem?_cons_zero, List.getElem?_cons_succ, Nat.reduceMul, Option.isSome_some, layAt, Nat.reduceLT, Option.isNone_some, Option.isNone_none, beq_self_eq_true, Nat.reduceEqDiff, setParams, Int.reduceLT, Int.reduceLE, Int.reduceGT, Int.reduceGE, Int.reduceEq, Int.reduceNe, Option.map_some, Option.map_none, Option.isSome_none]
    refine Y_boxO O3 ?_
    intro b4 h4 O4 e4
    have g4 := O4.get 0 rfl
    have p4 := O4.can 0 rfl
    have O5 := O4.set 0 rfl (.cells (ic it0) 1 false)
    simp only [List.set_cons_zero] at O5
    have g5 := O5.get 0 rfl
    have hd0 : iv (hd []) = iv it0 := rfl
    have g6 := O5.get 1 rfl
    have p6 := O5.can 1 rfl
    have O7 := O5.set 1 rfl (.cells (ic it0) 1 false)
    simp only [List.set_cons_zero, List.set_cons_succ] at O7
    have s3 : ∀ a b c, setAt [.int .i64 a, .int .i64 b, .int .i64 c] 0 (ic it0) = ic it0 := fun _ _ _ => rfl
    simp (disch := first | assumption | omega | (simp only [wkD, oneCell, Option.isSome_some, *]; done) | (simp only [wkE, ne_eq]; omega)) only [hd0, iv_cells, ic_len, ic_one, g4, p4, s3, g5, tk_ic, agg_ic, rd_full, g6, p6, wk0, wk1, wk2, wk3, wk4, wk5, X_region, X_seq, X_block, X_loop, X_cond, Y_box, Y_un, Y_store, Y_append, Y_makeMap, Y_buildSlice, ibin_shl, ibin_shr, ibin_and, List.set_cons_zero, List.set_cons_succ, List.getD_cons_zero, List.getD_cons_succ, List.map_cons, List.map_nil, ↓reduceIte, reduceCtorEq, oneCell, List.length_cons, List.length_nil, setAt, readN, bne_iff_ne, ne_eq, Nat.reduceAdd, Nat.reduceLeDiff, List.getElem?_cons_zero, List.getElem?_cons_succ, Nat.reduceMul, Option.isSome_some, layAt, Nat.reduceLT, Option.isNone_some, Option.isNone_none, beq_self_eq_true, Nat.reduceEqDiff, setParams, Int.reduceLT, Int.reduceLE, Int.reduceGT, Int.reduceGE, Int.reduceEq, Int.reduceNe, Option.map_some, Option.map_none, Option.isSome_none]
    refine leafO _ (answer2 _ _ _ _ (cellN O7 1 rfl rfl rfl) rfl) ⟨rfl, ?_⟩
    exact O7.drop.drop
  | cons x S' =>
    subst hS
    obtain ⟨l, o, O1⟩ := Has.pq O
    obtain ⟨v, sb, P, k⟩ := Has.pr O1
    have hlen := o.len
    have h0 : 0 < l.length := by simp at hlen; omega
    refine T.Is.mono ?_ (pop_ok (n := n) (by omega) (by omega) h0 O.fine P o.heap)
    rintro ⟨w, h1⟩ ⟨rfl, ⟨v', l', P', q1, q2, q3⟩, c⟩
    rw [o.head]
    refine ⟨rfl, Has.mkPq ⟨q1, o.sorted.2, ?_, fun y => ?_⟩ (k _ _ _ _ P' (Or.inl rfl) c)⟩
    · simp at hlen
      show S'.length = _
      omega
    · have h1 := o.cnt y
      have h2 := q3 y
      rw [cnt_cons] at h1
      rw [o.head] at h2
      show S'.count y = _
      omega


theorem clone_h {n : Nat} {v : Value} (hl : l.length ≤ 1000000) (O : Has ro h R) (V : Vw 3 ic h v l) :
    (callV env (n + 1) (.func (.func 25) #[] #[]) [v] h).Is fun q => Has ro q.2 (Sc 3 ic q.1 l :: R) := by
  refine call_is env25 ?_
  obtain ⟨p, c, hv, hc⟩ := V.len
  cases p with
  | none =>
    have hl0 : l = [] := by
      obtain ⟨p, c, hv2, _, k⟩ := V
      rcases Nat.eq_zero_or_pos l.length with e | e
      · exact List.eq_nil_of_length_eq_zero e
      · obtain ⟨b, off, sp, A, B, zz, t, e1, _⟩ := k e
        rw [hv2] at hv
        cases hv
        cases e1
    subst hl0
    subst hv
    simp (disch := first | assumption | omega | (simp only [wkD, oneCell, Option.isSome_some, *]; done) | (simp only [wkE, ne_eq]; omega)) only [ir25, List.append_nil, List.nil_append, List.cons_append, List.length_cons, List.length_nil, Nat.reduceAdd, Nat.reduceSub, List.replicate_succ, List.replicate_zero, wk0, wk1, wk2, wk3, wk4, wk5, X_region, X_seq, X_block, X_loop, X_cond, Y_box, Y_un, Y_store, Y_append, Y_makeMap, Y_buildSlice, ibin_shl, ibin_shr, ibin_and, List.set_cons_zero, List.set_cons_succ, List.getD_cons_zero, List.getD_cons_succ, List.map_cons, List.map_nil, ↓reduceIte, reduceCtorEq, oneCell, List.length_cons, List.length_nil, setAt, readN, bne_iff_ne, ne_eq, Nat.reduceAdd, Nat.reduceLeDiff, List.getElem?_cons_zero, List.getElem?_cons_succ, Nat.reduceMul, Option.isSome_some, layAt, Nat.reduceLT, Option.isNone_some, Option.isNone_none, beq_self_eq_true, Nat.reduceEqDiff, setParams, Int.reduceLT, Int.reduceLE, Int.reduceGT, Int.reduceGE, Int.reduceEq, Int.reduceNe, Option.map_some, Option.map_none, Option.isSome_none]
    exact leaf1 O.scNil
  | some a =>
    obtain ⟨w, h2, ap, O2⟩ := clone_app (bytes := 24) (by omega) ic_len ic_one O V (by unfold roomMost; omega) (by omega)
    have bs : pBuildSlice h 3 0 [.int .i64 0, .int .i64 0, .int .i64 0] [] = some (.slice (some ⟨2 * h.next, 0, none⟩) 0 0, h.alloc (.cells [] 3 false)) := rfl
    subst hv
    simp (disch := first | assumption | omega | (simp only [wkD, oneCell, Option.isSome_some, *]; done) | (simp only [wkE, ne_eq]; omega)) only [ir25, List.append_nil, List.nil_append, List.cons_append, List.length_cons, List.length_nil, Nat.reduceAdd, Nat.reduceSub, List.replicate_succ, List.replicate_zero, bs, ap, wk0, wk1, wk2, wk3, wk4, wk5, X_region, X_seq, X_block, X_loop, X_cond, Y_box, Y_un, Y_store, Y_append, Y_makeMap, Y_buildSlice, ibin_shl, ibin_shr, ibin_and, List.set_cons_zero, List.set_cons_succ, List.getD_cons_zero, List.getD_cons_succ, List.map_cons, List.map_nil, ↓reduceIte, reduceCtorEq, oneCell, List.length_cons, List.length_nil, setAt, readN, bne_iff_ne, ne_eq, Nat.reduceAdd, Nat.reduceLeDiff, List.getElem?_cons_zero, List.getElem?_cons_succ, Nat.reduceMul, Option.isSome_some, layAt, Nat.reduceLT, Option.isNone_some, Option.isNone_none, beq_self_eq_true, Nat.reduceEqDiff, setParams, Int.reduceLT, Int.reduceLE, Int.reduceGT, Int.reduceGE, Int.reduceEq, Int.reduceNe, Option.map_some, Option.map_none, Option.isSome_none]
    exact leaf1 O2

theorem ac_toList (a : List It) : (a.toArray).toList = a := by simp

theorem all_h {n : Nat} (hn : S.length + 20 < n) (hl : S.length < 65536) (O : Has ro h (Pq pb S :: R)) :
    (callV env (n + S.length + 11) (.func (.func 20) #[] #[]) [.pointer (some ⟨pb, 0, none⟩)] h).Is fun p => Has ro p.2 (Sc 3 ic p.1 S :: Pq pb S :: R) := by
  refine call_is env20 ?_
  simp (disch := first | assumption | omega | (simp only [wkD, oneCell, Option.isSome_some, *]; done) | (simp only [wkE, ne_eq]; omega)) only [ir20, List.append_nil, List.nil_append, List.cons_append, List.length_cons, List.length_nil, Nat.reduceAdd, Nat.reduceSub, List.replicate_succ, List.replicate_zero, wk0, wk1, wk2, wk3, wk4, wk5, X_region, X_seq, X_block, X_loop, X_cond, Y_box, Y_un, Y_store, Y_append, Y_makeMap, Y_buildSlice, ibin_shl, ibin_shr, ibin_and, List.set_cons_zero, List.set_cons_succ, List.getD_cons_zero, List.getD_cons_succ, List.map_cons, List.map_nil, ↓reduceIte, reduceCtorEq, oneCell, List.length_cons, List.length_nil, setAt, readN, bne_iff_ne, ne_eq, Nat.reduceAdd, Nat.reduceLeDiff, List.getElem?_cons_zero, List.getElem?_cons_succ, Nat.reduceMul, Option.isSome_some, layAt, Nat.reduceLT, Option.isNone_some, Option.isNone_none, beq_self_eq_true, Nat.reduceEqDiff, setParams, Int.reduceLT, Int.reduceLE, Int.reduceGT, Int.reduceGE, Int.reduceEq, Int.reduceNe, Option.map_some, Option.map_none, Option.isSome_none]
  refine Z_is (len_h (n := n + S.length + 9) O) ?_
  rintro v1 h1 ⟨rfl⟩
  cases hS : S with
  | nil =>
    subst hS
    simp (disch := first | assumption | omega | (simp only [wkD, oneCell, Option.isSome_some, *]; done) | (simp only [wkE, ne_eq]; omega)) only [wk0, wk1, wk2, wk3, wk4, wk5, X_region, X_seq, X_block, X_loop, X_cond, Y_box, Y_un, Y_store, Y_append, Y_makeMap, Y_buildSlice, ibin_shl, ibin_shr, ibin_and, List.set_cons_zero, List.set_cons_succ, List.getD_cons_zero, List.getD_cons_succ, List.map_cons, List.map_nil, ↓reduceIte, reduceCtorEq, oneCell, List.length_cons, List.length_nil, setAt, readN, bne_iff_ne, ne_eq, Nat.reduceAdd, Nat.reduceLeDiff, List.getElem?_cons_zero, List.getElem?_cons_succ, Nat.reduceMul, Option.isSome_some, layAt, Nat.reduceLT, Option.isNone_some, Option.isNone_none, beq_self_eq_true, Nat.reduceEqDiff, setParams, Int.reduceLT, Int.reduceLE, Int.reduceGT, Int.reduceGE, Int.reduceEq, Int.reduceNe, Option.map_some, Option.map_none, Option.isSome_none]
    exact leaf1 O.scNil
  | cons x0 S0 =>
    rw [← hS]
    have h0 : 0 < S.length := by rw [hS]; simp
    have d0 : decide ((S.length : Int) = 0) = false := decide_eq_false (by omega)
    clear hS
    obtain ⟨l, o, O1⟩ := Has.pq O
    have hlen := o.len
    obtain ⟨v, O2⟩ := Has.ex.1 O1
    replace O2 := Has.star.1 O2
    have g2 := O2.get 0 rfl
    simp (disch := first | assumption | omega | (simp only [wkD, oneCell, Option.isSome_some, *]; done) | (simp only [wkE, ne_eq]; omega)) only [d0, g2, wk0, wk1, wk2, wk3, wk4, wk5, X_region, X_seq, X_block, X_loop, X_cond, Y_box, Y_un, Y_store, Y_append, Y_makeMap, Y_buildSlice, ibin_shl, ibin_shr, ibin_and, List.set_cons_zero, List.set_cons_succ, List.getD_cons_zero, List.getD_cons_succ, List.map_cons, List.map_nil, ↓reduceIte, reduceCtorEq, oneCell, List.length_cons, List.length_nil, setAt, readN, bne_iff_ne, ne_eq, Nat.reduceAdd, Nat.reduceLeDiff, List.getElem?_cons_zero, List.getElem?_cons_succ, Nat.reduceMul, Option.isSome_some, layAt, Nat.reduceLT, Option.isNone_some, Option.isNone_none, beq_self_eq_true, Nat.reduceEqDiff, setParams, Int.reduceLT, Int.reduceLE, Int.reduceGT, Int.reduceGE, Int.reduceEq, Int.reduceNe, Option.map_some, Option.map_none, Option.isSome_none]
    refine Z_is (clone_h (n := n + S.length + 9) (by omega) O2 (O2.vwr 1 rfl)) ?_
    rintro w h3 O3
    simp only at O3
    rcases O3.scOpen with ⟨rfl, _⟩ | ⟨b, c, rest, sp, zz, t, rfl, b2, b3, b4, O4⟩
    · rw [List.length_nil] at hlen; omega
    simp (disch := first | assumption | omega | (simp only [wkD, oneCell, Option.isSome_some, *]; done) | (simp only [wkE, ne_eq]; omega)) only [wk0, wk1, wk2, wk3, wk4, wk5, X_region, X_seq, X_block, X_loop, X_cond, Y_box, Y_un, Y_store, Y_append, Y_makeMap, Y_buildSlice, ibin_shl, ibin_shr, ibin_and, List.set_cons_zero, List.set_cons_succ, List.getD_cons_zero, List.getD_cons_succ, List.map_cons, List.map_nil, ↓reduceIte, reduceCtorEq, oneCell, List.length_cons, List.length_nil, setAt, readN, bne_iff_ne, ne_eq, Nat.reduceAdd, Nat.reduceLeDiff, List.getElem?_cons_zero, List.getElem?_cons_succ, Nat.reduceMul, Option.isSome_some, layAt, Nat.reduceLT, Option.isNone_some, Option.isNone_none, beq_self_eq_true, Nat.reduceEqDiff, setParams, Int.reduceLT, Int.reduceLE, Int.reduceGT, Int.reduceGE, Int.reduceEq, Int.reduceNe, Option.map_some, Option.map_none, Option.isSome_none]
    have O5 : Has ro h3 (Ar b l.toArray rest zz t :: Ob pb (.cells [v] 1 false) :: Slr 3 ic v l :: R) := by
      unfold Ar
      rw [ac_toList]
      exact O4
    rw [show n + S.length + 10 = n + l.length + 10 by omega]
    refine Z_is (sort_ok (n := n) (m := l.length) (by omega) (by omega) (by simp) O5) ?_
    rintro w2 h6 ⟨O6, hs6⟩
    simp only at O6
    simp (disch := first | assumption | omega | (simp only [wkD, oneCell, Option.isSome_some, *]; done) | (simp only [wkE, ne_eq]; omega)) only [wk0, wk1, wk2, wk3, wk4, wk5, X_region, X_seq, X_block, X_loop, X_cond, Y_box, Y_un, Y_store, Y_append, Y_makeMap, Y_buildSlice, ibin_shl, ibin_shr, ibin_and, List.set_cons_zero, List.set_cons_succ, List.getD_cons_zero, List.getD_cons_succ, List.map_cons, List.map_nil, ↓reduceIte, reduceCtorEq, oneCell, List.length_cons, List.length_nil, setAt, readN, bne_iff_ne, ne_eq, Nat.reduceAdd, Nat.reduceLeDiff, List.getElem?_cons_zero, List.getElem?_cons_succ, Nat.reduceMul, Option.isSome_some, layAt, Nat.reduceLT, Option.isNone_some, Option.isNone_none, beq_self_eq_true, Nat.reduceEqDiff, setParams, Int.reduceLT, Int.reduceLE, Int.reduceGT, Int.reduceGE, Int.reduceEq, Int.reduceNe, Option.map_some, Option.map_none, Option.isSome_none]
    have hp := sorted_perm l.toArray
    have hS2 : (Sort.sort ltI l.toArray).toList = S := by
      refine sorted_uniq (sorted_nth fun i j h1 h2 => ?_) o.sorted fun y => by rw [o.cnt, hp.1.count_eq, ac_toList]
      have h3 : j < l.length := by rw [Array.length_toList, hs6] at h2; exact h2
      have := hp.2 i j h1 (by simpa using h3)
      have e : ∀ k, k < l.length → (Sort.sort ltI l.toArray)[k]! = nth (Sort.sort ltI l.toArray).toList k := fun k hk => by
        have h4 : k < (Sort.sort ltI l.toArray).size := by omega
        rw [getElem!_pos _ k h4]
        have := nth_get (l := (Sort.sort ltI l.toArray).toList) (k := k) (by simpa using h4)
        rw [List.getElem?_eq_getElem (by simpa using h4)] at this
        have := Option.some.inj this
        rw [← this]
        simp
      rw [e i (by omega), e j h3] at this
      exact this
    unfold Ar at O6
    rw [hS2] at O6
    refine leaf1 ?_
    have O7 : Has ro h6 (Sc 3 ic (.slice (some ⟨b, 0, sp⟩) l.length c) S :: Ob pb (.cells [v] 1 false) :: Slr 3 ic v l :: R) := Has.scClose (by rw [hlen]) (by omega) (by rw [hlen]; exact b3) b4 O6
    have O8 := O7.at 1 rfl
    simp only [List.eraseIdx_cons_succ, List.eraseIdx_cons_zero] at O8
    have O9 : Has ro h6 (Slr 3 ic v l :: Ob pb (.cells [v] 1 false) :: Sc 3 ic (.slice (some ⟨b, 0, sp⟩) l.length c) S :: R) := (O8.at 2 rfl)
    exact (Has.mkPq o (Has.ex.2 ⟨v, Has.star.2 O9.swap2⟩)).swap2
end
end Go.Proofs.Ytafaefeekilclaa
