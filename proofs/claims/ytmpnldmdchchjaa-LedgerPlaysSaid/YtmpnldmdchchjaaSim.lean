import Derived.Test.YtmpnldmdchchjaaFk
import Derived.Test.YtmpnldmdchchjaaRrn
import Derived.Test.YtmpnldmdchchjaaWri
namespace Go.Proofs.Ytmpnldmdchchjaa
open Go Go.Ideal Go.ChangeShapes Go.RowKit
set_option maxHeartbeats 0
set_option linter.unusedSimpArgs false
set_option linter.unusedVariables false
set_option maxRecDepth 100000
attribute [local irreducible] callV T.All T.Is run
theorem env50 : env 50 = some ir50 := rfl
def RRel (F : Rf) (r c g e : Int) (F' : Rf) (o' : Ou) : Prop :=
  (¬ (F.Rob r ∧ F.Is c) ∧ e = 2 ∧ F' = F ∧ o' = oz) ∨ ((F.Rob r ∧ F.Is c) ∧ e = 0 ∧ F.E c.toNat = ⟨r, g⟩ ∧ RFree F oz c.toNat F' o') ∨ ((F.Rob r ∧ F.Is c) ∧ e = 0 ∧ F.E c.toNat ≠ ⟨r, g⟩ ∧ F' = F ∧ o' = oz)
section
variable {ro : Nat → Option (List Value × Nat)} {h : Heap} {R : List Rs} {rb ob : Nat} {F : Rf} {o : Ou} {n : Nat}
theorem rrelease_h (r c g : Int) (v : Rw F) (hn : 200 < n) (O : Has ro h (Rg rb F :: R)) :
    (callV env (n + 6) (.func (.func 50) #[] #[]) [.pointer (some ⟨rb, 0, none⟩), .int .i64 r, .int .i64 c, .int .u32 g] h).Is fun p => ∃ wv pv bv e F' o', p.1 = .tuple #[.agg #[wv, pv, bv], .int .i64 e] ∧ RRel F r c g e F' o' ∧ Has ro p.2 (Rg rb F' :: Oo wv pv bv o' :: R) := by
  have z1 := v.z.r1
  refine call_is env50 ?_
  simp only [ir50, Nat.reduceAdd, Nat.reduceSub, wkF, X_seq, Y_store, Y_makeMap, Y_buildSlice, ↓reduceIte, reduceCtorEq, wkO, wkS, wkN, wkG]
  refine Y_boxO O ?_
  intro b8 h1 O1 _
  simp only [wkF, X_seq, Y_store, Y_makeMap, Y_buildSlice, ↓reduceIte, reduceCtorEq, wkO, wkS, Nat.reduceAdd, wkG]
  refine Y_boxO O1 ?_
  intro b10 h2 O2 _
  replace O2 : Has ro h2 (Ob b10 (.cells [.slice none 0 0, .slice none 0 0, .slice none 0 0] 1 false) :: Ob b8 (.cells [.slice none 0 0, .slice none 0 0, .slice none 0 0] 1 false) :: Rg rb F :: R) := O2
  replace O2 : Has ro h2 (Rg rb F :: Og b10 oz :: Ob b8 (.cells [.slice none 0 0, .slice none 0 0, .slice none 0 0] 1 false) :: R) := (Has.ogNew O2).at 2 rfl
  simp only [wkF, ↓reduceIte, reduceCtorEq, Nat.reduceAdd, Nat.reduceLeDiff, Nat.reduceMul, Nat.reduceLT, Nat.reduceEqDiff, wkG, wkH]
  refine Z_is (rrobot_h (n := n + 4) r O2) ?_
  rintro v' h3 ⟨rfl, rfl⟩
  by_cases hr : F.Rob r
  · simp only [hr, wkF, ↓reduceIte, reduceCtorEq, Nat.reduceAdd, Nat.reduceLeDiff, Nat.reduceMul, Nat.reduceLT, Nat.reduceEqDiff, wkG, wkH]
    refine Z_is (ris_h (n := n + 4) c z1 O2) ?_
    rintro v' h3 ⟨rfl, rfl⟩
    by_cases hi : F.Is c
    · obtain ⟨k, rfl⟩ : ∃ k : Nat, c = (k : Int) := ⟨c.toNat, by have := hi.1; omega⟩
      have hc : k < F.C := by have := hi.2.1; omega
      have c0 : (0 : Int) ≤ (k : Int) := by omega
      have c1 : (k : Int) < (F.C : Int) := by omega
      obtain ⟨cb, tb, q, pq, cq, hqc, rd, rd0, rd1, rd2, O3⟩ := rg_take hc O2
      have m1 := O3.get 0 rfl
      unfold rfc at m1
      by_cases ho : (F.E k).o = r
      · have ho' := eq_true ho
        by_cases hg : (F.E k).g = g
        · have hg' := eq_true hg
          simp only [hi, m1, c0, c1, Int.toNat_natCast, Nat.zero_add, rd0, rd1, ho', hg', wkF, ↓reduceIte, reduceCtorEq, Nat.reduceAdd, Nat.reduceLeDiff, Nat.reduceMul, Nat.reduceLT, Nat.reduceEqDiff, wkG, wkH]
          refine Z_is (rfree_h (n := n) (o := oz) v.z hc (v.a k) (v.r k) (by omega) (by decide) (by decide) (by decide) O2) ?_
          rintro v' h6 ⟨F', o', hf, O6⟩
          simp only at O6
          simp only [wkF, ↓reduceIte, reduceCtorEq, Nat.reduceAdd, Nat.reduceLeDiff, Nat.reduceMul, Nat.reduceLT, Nat.reduceEqDiff, wkG, wkH]
          have hE : F.E k = ⟨r, g⟩ := by
            rw [← ho, ← hg]
          obtain ⟨wv, pv, bv, ga, gb, pb, one, O9⟩ := fin3 ((O6.at 2 rfl).at 2 rfl)
          simp only [ga, gb, pb, one, c3, s3, wkF, X_seq, Y_box, Y_store, Y_makeMap, Y_buildSlice, ↓reduceIte, reduceCtorEq, wkS, Nat.reduceAdd, Nat.reduceLeDiff, Nat.reduceMul, Nat.reduceLT, Nat.reduceEqDiff, wkG]
          exact leafO _ (answer2 _ _ _ _ (cellN O9 0 rfl rfl rfl) rfl) ⟨wv, pv, bv, _, _, _, rfl, Or.inr (Or.inl ⟨⟨hr, hi⟩, rfl, hE, hf⟩), (O9.drop.at 1 rfl)⟩
        · simp only [hi, m1, c0, c1, Int.toNat_natCast, Nat.zero_add, rd0, rd1, ho', hg, wkF, ↓reduceIte, reduceCtorEq, Nat.reduceAdd, Nat.reduceLeDiff, Nat.reduceMul, Nat.reduceLT, Nat.reduceEqDiff, wkG, wkH]
          obtain ⟨wv, pv, bv, ga, gb, pb, one, O9⟩ := fin3 ((O2.at 2 rfl).at 2 rfl)
          simp only [ga, gb, pb, one, c3, s3, wkF, X_seq, Y_box, Y_store, Y_makeMap, Y_buildSlice, ↓reduceIte, reduceCtorEq, wkS, Nat.reduceAdd, Nat.reduceLeDiff, Nat.reduceMul, Nat.reduceLT, Nat.reduceEqDiff, wkG]
          exact leafO _ (answer2 _ _ _ _ (cellN O9 0 rfl rfl rfl) rfl) ⟨wv, pv, bv, _, _, _, rfl, Or.inr (Or.inr ⟨⟨hr, hi⟩, rfl, fun e => hg (by have e2 : F.E k = ⟨r, g⟩ := e; rw [e2]), rfl, rfl⟩), (O9.drop.at 1 rfl)⟩
      · simp only [hi, m1, c0, c1, Int.toNat_natCast, Nat.zero_add, rd0, ho, wkF, ↓reduceIte, reduceCtorEq, Nat.reduceAdd, Nat.reduceLeDiff, Nat.reduceMul, Nat.reduceLT, Nat.reduceEqDiff, wkG, wkH]
        obtain ⟨wv, pv, bv, ga, gb, pb, one, O9⟩ := fin3 ((O2.at 2 rfl).at 2 rfl)
        simp only [ga, gb, pb, one, c3, s3, wkF, X_seq, Y_box, Y_store, Y_makeMap, Y_buildSlice, ↓reduceIte, reduceCtorEq, wkS, Nat.reduceAdd, Nat.reduceLeDiff, Nat.reduceMul, Nat.reduceLT, Nat.reduceEqDiff, wkG]
        exact leafO _ (answer2 _ _ _ _ (cellN O9 0 rfl rfl rfl) rfl) ⟨wv, pv, bv, _, _, _, rfl, Or.inr (Or.inr ⟨⟨hr, hi⟩, rfl, fun e => ho (by have e2 : F.E k = ⟨r, g⟩ := e; rw [e2]), rfl, rfl⟩), (O9.drop.at 1 rfl)⟩
    · simp only [hi, wkF, ↓reduceIte, reduceCtorEq, Nat.reduceAdd, Nat.reduceLeDiff, Nat.reduceMul, Nat.reduceLT, Nat.reduceEqDiff, wkG, wkH]
      obtain ⟨wv, pv, bv, ga, gb, pb, one, O9⟩ := fin3 ((O2.at 2 rfl).at 2 rfl)
      simp only [ga, gb, pb, one, c3, s3, wkF, X_seq, Y_box, Y_store, Y_makeMap, Y_buildSlice, ↓reduceIte, reduceCtorEq, wkS, Nat.reduceAdd, Nat.reduceLeDiff, Nat.reduceMul, Nat.reduceLT, Nat.reduceEqDiff, wkG]
      exact leafO _ (answer2 _ _ _ _ (cellN O9 0 rfl rfl rfl) rfl) ⟨wv, pv, bv, _, _, _, rfl, Or.inl ⟨fun x => hi x.2, rfl, rfl, rfl⟩, (O9.drop.at 1 rfl)⟩
  · simp only [hr, wkF, ↓reduceIte, reduceCtorEq, Nat.reduceAdd, Nat.reduceLeDiff, Nat.reduceMul, Nat.reduceLT, Nat.reduceEqDiff, wkG, wkH]
    obtain ⟨wv, pv, bv, ga, gb, pb, one, O9⟩ := fin3 ((O2.at 2 rfl).at 2 rfl)
    simp only [ga, gb, pb, one, c3, s3, wkF, X_seq, Y_box, Y_store, Y_makeMap, Y_buildSlice, ↓reduceIte, reduceCtorEq, wkS, Nat.reduceAdd, Nat.reduceLeDiff, Nat.reduceMul, Nat.reduceLT, Nat.reduceEqDiff, wkG]
    exact leafO _ (answer2 _ _ _ _ (cellN O9 0 rfl rfl rfl) rfl) ⟨wv, pv, bv, _, _, _, rfl, Or.inl ⟨fun x => hr x.1, rfl, rfl, rfl⟩, (O9.drop.at 1 rfl)⟩
end
theorem env47 : env 47 = some ir47 := rfl
theorem rfree_inv {F F' : Rf} {o o' : Ou} {c : Nat} (v : Rw F) (h : RFree F o c F' o') : Rw F' ∧ F.Same F' ∧ o'.ws.length ≤ o.ws.length + 2 ∧ o'.ps.length ≤ o.ps.length + 8 ∧ o'.bs.length ≤ o.bs.length + 8 := by
  have h8 := v.z.w c
  have z1 := v.z.r1
  have hg := v.z.g c
  obtain ⟨d, ⟨_, rfl, rfl⟩ | ⟨_, hW, rfl, rfl⟩ | ⟨hm, x, rest, d2, hW, rfl, rfl⟩⟩ := h
  · obtain ⟨e1, e2, e3⟩ := denies_len (F.W c) (o.wr (c : Int) ⟨-1, (F.E c).g⟩ d) (c := (c : Int))
    refine ⟨rw_put v hg ⟨Int.le_refl _, by show (-1 : Int) < (F.rob : Int); omega⟩ (Nat.zero_le _) List.Pairwise.nil (fun w hw => by cases hw), ⟨rfl, rfl, rfl⟩, ?_⟩
    rw [e1, e2, e3]
    simp only [Ou.wr, List.length_append, List.length_cons, List.length_nil]
    omega
  · refine ⟨rw_put v hg ⟨Int.le_refl _, by show (-1 : Int) < (F.rob : Int); omega⟩ (Nat.zero_le _) List.Pairwise.nil (fun w hw => by cases hw), ⟨rfl, rfl, rfl⟩, ?_⟩
    simp only [Ou.wr, List.length_append, List.length_cons, List.length_nil]
    omega
  · have ha := v.a c
    have hr := v.r c
    rw [hW] at ha hr h8
    rw [List.length_cons] at h8
    refine ⟨rw_put v ⟨by show 0 ≤ (F.E c).g + 1; omega, by show (F.E c).g + 1 ≤ 4294967295; omega⟩ (hr x (List.mem_cons_self ..)) (by omega) (List.pairwise_cons.1 ha).2 (fun w hw => hr w (List.mem_cons_of_mem _ hw)), ⟨rfl, rfl, rfl⟩, ?_⟩
    simp only [Ou.wr, Ou.post, List.length_append, List.length_cons, List.length_nil]
    omega
def RStTo (F0 : Rf) (r : Int) (L : List En) : Nat → Rf → Ou → Prop
  | 0, F', o' => F' = F0 ∧ o' = oz
  | k + 1, F', o' => ∃ F1 o1, RStTo F0 r L k F1 o1 ∧ ((((F1.E k).o = r ∧ (⟨(k : Int), (F1.E k).g⟩ : En) ∉ L) ∧ RFree F1 o1 k F' o') ∨ (¬ ((F1.E k).o = r ∧ (⟨(k : Int), (F1.E k).g⟩ : En) ∉ L) ∧ F' = F1 ∧ o' = o1))
theorem rstto_inv {F0 : Rf} {r : Int} {L : List En} (v : Rw F0) : ∀ {k : Nat} {F' : Rf} {o' : Ou}, RStTo F0 r L k F' o' → Rw F' ∧ F0.Same F' ∧ o'.ws.length ≤ 2 * k ∧ o'.ps.length ≤ 8 * k ∧ o'.bs.length ≤ 8 * k
  | 0, F', o', ⟨h1, h2⟩ => by
    subst h1 h2
    exact ⟨v, Rf.Same.refl _, Nat.le_refl _, Nat.le_refl _, Nat.le_refl _⟩
  | k + 1, F', o', ⟨F1, o1, h, hs⟩ => by
    obtain ⟨v1, s, l1, l2, l3⟩ := rstto_inv v h
    rcases hs with ⟨_, hf⟩ | ⟨_, rfl, rfl⟩
    · obtain ⟨v2, t, m1, m2, m3⟩ := rfree_inv v1 hf
      exact ⟨v2, s.trans t, by omega, by omega, by omega⟩
    · exact ⟨v1, s, by omega, by omega, by omega⟩
def RStat (F : Rf) (r : Int) (L : List En) (e : Int) (F' : Rf) (o' : Ou) : Prop :=
  (¬ F.Rob r ∧ e = 2 ∧ F' = F ∧ o' = oz) ∨ (F.Rob r ∧ e = 0 ∧ ∃ F1, RStTo (F.cutAll r F.C) r L F.C F1 o' ∧ F' = F1.tell r.toNat 1)
theorem take_mem {L : List En} {i : Nat} {x y : En} (h : L[i]? = some x) : decide (y ∈ L.take (i + 1)) = (decide (y ∈ L.take i) || decide (x = y)) := by
  rw [List.take_add_one, h]
  simp only [List.mem_append, Option.toList_some, List.mem_singleton]
  by_cases a : y ∈ L.take i <;> by_cases b : x = y
  · simp [a, b]
  · simp [a]
  · simp [b]
  · have b' : ¬ y = x := fun e => b e.symm
    simp [a, b, b']
theorem en_eq {x : En} {a g : Int} : x = ⟨a, g⟩ ↔ x.o = a ∧ x.g = g := by
  obtain ⟨p, q⟩ := x
  constructor
  · intro e
    cases e
    exact ⟨rfl, rfl⟩
  · rintro ⟨rfl, rfl⟩
    rfl
theorem ll_get {L : List En} {i : Nat} (h : i < L.length) : ∃ x, L[i]? = some x := ⟨_, List.getElem?_eq_getElem h⟩
section
variable {ro : Nat → Option (List Value × Nat)} {h : Heap} {R : List Rs} {rb ob : Nat} {F : Rf} {o : Ou} {n : Nat}
theorem rstatus_h (r : Int) {v : Value} {L : List En} (u : Rw F) (hn : 1300 < n) (hL : L.length < 1000) (V : ∀ (M : List Rs) (h : Heap), Has ro h (M ++ R) → Vw 2 ec h v L) (O : Has ro h (Rg rb F :: R)) :
    (callV env (n + 6) (.func (.func 47) #[] #[]) [.pointer (some ⟨rb, 0, none⟩), .int .i64 r, v] h).Is fun p => ∃ wv pv bv e F' o', p.1 = .tuple #[.agg #[wv, pv, bv], .int .i64 e] ∧ RStat F r L e F' o' ∧ Has ro p.2 (Rg rb F' :: Oo wv pv bv o' :: R) := by
  have z1 := u.z.r1
  have zc2 := u.z.c2
  obtain ⟨pp, cc, rfl, -⟩ := (V [Rg rb F] h O).len
  refine call_is env47 ?_
  simp only [ir47, Nat.reduceAdd, Nat.reduceSub, wkF, X_seq, Y_store, Y_makeMap, Y_buildSlice, ↓reduceIte, reduceCtorEq, wkO, wkS, wkN, wkG]
  refine Y_boxO O ?_
  intro b6 h1 O1 _
  simp only [wkF, X_seq, Y_store, Y_makeMap, Y_buildSlice, ↓reduceIte, reduceCtorEq, wkO, wkS, Nat.reduceAdd, wkG]
  refine Y_boxO O1 ?_
  intro b8 h2 O2 _
  replace O2 : Has ro h2 (Ob b8 (.cells [.slice none 0 0, .slice none 0 0, .slice none 0 0] 1 false) :: Ob b6 (.cells [.slice none 0 0, .slice none 0 0, .slice none 0 0] 1 false) :: Rg rb F :: R) := O2
  replace O2 : Has ro h2 (Rg rb F :: Og b8 oz :: Ob b6 (.cells [.slice none 0 0, .slice none 0 0, .slice none 0 0] 1 false) :: R) := (Has.ogNew O2).at 2 rfl
  simp only [wkF, ↓reduceIte, reduceCtorEq, Nat.reduceAdd, wkG, wkH]
  refine Z_is (rrobot_h (n := n + 4) r O2) ?_
  rintro v' h3 ⟨rfl, rfl⟩
  clear O1 O
  by_cases hr : F.Rob r
  · simp only [hr, wkF, ↓reduceIte, reduceCtorEq, Nat.reduceAdd, wkG, wkH]
    rw [← cutAll_zero F r] at O2
    refine L_is (fun q' s => ∃ (i : Nat), q' = F.C - i ∧ s.defers = [] ∧ s.tmps.length = 96 ∧ s.tmps.getD 0 undefV = .pointer (some ⟨rb, 0, none⟩) ∧ s.tmps.getD 1 undefV = .int .i64 r ∧ s.tmps.getD 2 undefV = .slice pp L.length cc ∧ s.tmps.getD 6 undefV = .pointer (some ⟨b6, 0, none⟩) ∧ s.tmps.getD 7 undefV = .int .i64 0 ∧ s.tmps.getD 8 undefV = .pointer (some ⟨b8, 0, none⟩) ∧ s.tmps.getD 9 undefV = .int .i64 (i : Int) ∧ i ≤ F.C ∧ Has ro s.h (Rg rb (F.cutAll r i) :: Og b8 oz :: Ob b6 (.cells [.slice none 0 0, .slice none 0 0, .slice none 0 0] 1 false) :: R)) F.C ?_ (by omega) ?_
    · exact ⟨0, rfl, rfl, rfl, rfl, rfl, rfl, rfl, rfl, rfl, rfl, Nat.zero_le _, O2⟩
    clear O2
    rintro q' tm df h4 ⟨i, hk, hd, hlen_, g0, g1, g2, g6, g7, g8, g9, hil, O4⟩
    simp only at hd g0 g1 g2 g6 g7 g8 g9 O4
    subst hd
    obtain ⟨w, hg_, rfl⟩ := explode hlen_
    simp only [hg_] at g0 g1 g2 g6 g7 g8 g9
    clear hlen_ hg_
    obtain ⟨cb, tb, m1⟩ := rg_get O4
    have e1 : (F.cutAll r i).C = F.C := rfl
    have e2 : (F.cutAll r i).home = F.home := rfl
    have e3 : (F.cutAll r i).rob = F.rob := rfl
    rw [e1, e2, e3] at m1
    by_cases hi : i < F.C
    · have hi' : (i : Int) < (F.C : Int) := by omega
      have yi : IntKind.i64.wrap ((i : Int) + 1) = ((i + 1 : Nat) : Int) := by rw [wrap_i64 (by omega) (by omega)]; omega
      simp only [g0, g1, g2, g6, g7, g8, g9, m1, hi', wkF, ↓reduceIte, reduceCtorEq, Nat.reduceAdd, Nat.reduceLeDiff, Nat.reduceMul, Nat.reduceLT, Nat.reduceEqDiff, wkG, wkH]
      refine Z_is (rcut_h (n := n + 4) r (rw_cutAll u r i).z hi (by omega) O4) ?_
      rintro v2 h5 O5
      simp only at O5
      rw [cutAll_succ] at O5
      simp only [yi, wkF, ↓reduceIte, reduceCtorEq, Nat.reduceAdd, wkG, wkH]
      exact Is_in ⟨F.C - (i + 1), sub_lt' hk hi, i + 1, rfl, rfl, rfl, rfl, rfl, rfl, rfl, rfl, rfl, rfl, hi, O5⟩
    have hi' : ¬ (i : Int) < (F.C : Int) := by omega
    have hiC : i = F.C := by omega
    rw [hiC] at O4
    simp only [g0, g1, g2, g6, g7, g8, g9, m1, hi', wkF, ↓reduceIte, reduceCtorEq, Nat.reduceAdd, Nat.reduceLeDiff, Nat.reduceMul, Nat.reduceLT, Nat.reduceEqDiff, wkG, wkH]
    refine Is_in ?_
    simp only [wkF, ↓reduceIte, reduceCtorEq, Nat.reduceAdd, wkG, wkH]
    clear hi hi' hil hiC m1
    have uC := rw_cutAll u r F.C
    generalize hF0 : F.cutAll r F.C = F0 at O4 uC
    have s0 : F.Same F0 := by rw [← hF0]; exact ⟨rfl, rfl, rfl⟩
    have hC0 : F0.C = F.C := s0.2.2
    refine L_is (fun q' s => ∃ (k : Nat) (F1 : Rf) (o1 : Ou), q' = F.C - k ∧ s.defers = [] ∧ s.tmps.length = 96 ∧ s.tmps.getD 0 undefV = .pointer (some ⟨rb, 0, none⟩) ∧ s.tmps.getD 1 undefV = .int .i64 r ∧ s.tmps.getD 2 undefV = .slice pp L.length cc ∧ s.tmps.getD 6 undefV = .pointer (some ⟨b6, 0, none⟩) ∧ s.tmps.getD 7 undefV = .int .i64 0 ∧ s.tmps.getD 8 undefV = .pointer (some ⟨b8, 0, none⟩) ∧ s.tmps.getD 10 undefV = .int .i64 (k : Int) ∧ k ≤ F.C ∧ RStTo F0 r L k F1 o1 ∧ Has ro s.h (Rg rb F1 :: Og b8 o1 :: Ob b6 (.cells [.slice none 0 0, .slice none 0 0, .slice none 0 0] 1 false) :: R)) F.C ?_ (by omega) ?_
    · exact ⟨0, _, _, rfl, rfl, rfl, rfl, rfl, rfl, rfl, rfl, rfl, rfl, Nat.zero_le _, ⟨rfl, rfl⟩, O4⟩
    clear O4
    rintro q' tm df h5 ⟨k, F1, o1, hkq, hd, hlen_, g0, g1, g2, g6, g7, g8, g10, hkC, hst, O5⟩
    simp only at hd g0 g1 g2 g6 g7 g8 g10 O5
    subst hd
    obtain ⟨w, hg_, rfl⟩ := explode hlen_
    simp only [hg_] at g0 g1 g2 g6 g7 g8 g10
    clear hlen_ hg_
    obtain ⟨u1, s1, n1, n2, n3⟩ := rstto_inv uC hst
    have hC1 : F1.C = F.C := s1.2.2.trans hC0
    have hrob1 : F1.rob = F.rob := s1.2.1.trans s0.2.1
    by_cases hc : k < F.C
    · have c0 : (0 : Int) ≤ (k : Int) := by omega
      have c1 : (k : Int) < (F1.C : Int) := by omega
      obtain ⟨cb, tb, q, pq, cq, hqc, rd, rd0, rd1, rd2, O6⟩ := rg_take (c := k) (by omega) O5
      have m1 := O6.get 0 rfl
      unfold rfc at m1
      clear rd rd2 hqc O6
      simp only [g0, g1, g2, g6, g7, g8, g10, m1, c1, wkF, ↓reduceIte, reduceCtorEq, Nat.reduceAdd, Nat.reduceLeDiff, Nat.reduceMul, Nat.reduceLT, Nat.reduceEqDiff, wkG, wkH]
      refine L_is (fun q' s => ∃ (i : Nat) (b : Bool), q' = L.length - i ∧ s.defers = [] ∧ s.tmps.length = 96 ∧ s.tmps.getD 0 undefV = .pointer (some ⟨rb, 0, none⟩) ∧ s.tmps.getD 1 undefV = .int .i64 r ∧ s.tmps.getD 2 undefV = .slice pp L.length cc ∧ s.tmps.getD 6 undefV = .pointer (some ⟨b6, 0, none⟩) ∧ s.tmps.getD 7 undefV = .int .i64 0 ∧ s.tmps.getD 8 undefV = .pointer (some ⟨b8, 0, none⟩) ∧ s.tmps.getD 10 undefV = .int .i64 (k : Int) ∧ s.tmps.getD 11 undefV = .bool b ∧ s.tmps.getD 12 undefV = .int .i64 (i : Int) ∧ i ≤ L.length ∧ b = decide ((⟨(k : Int), (F1.E k).g⟩ : En) ∈ L.take i) ∧ s.h = h5) L.length ?_ (by omega) ?_
      · exact ⟨0, _, rfl, rfl, rfl, rfl, rfl, rfl, rfl, rfl, rfl, rfl, rfl, rfl, Nat.zero_le _, (by simp), rfl⟩
      rintro q' tm df h6 ⟨i, b, hki, hd, hlen_, g0, g1, g2, g6, g7, g8, g10, g11, g12, hil, hb, hh⟩
      simp only at hd g0 g1 g2 g6 g7 g8 g10 g11 g12 hh
      subst hd
      obtain ⟨w, hg_, rfl⟩ := explode hlen_
      simp only [hg_] at g0 g1 g2 g6 g7 g8 g10 g11 g12
      clear hlen_ hg_
      subst hh
      by_cases hl : i < L.length
      · have hl' : (i : Int) < (L.length : Int) := by omega
        have i0 : (0 : Int) ≤ (i : Int) := by omega
        have yi : IntKind.i64.wrap ((i : Int) + 1) = ((i + 1 : Nat) : Int) := by rw [wrap_i64 (by omega) (by omega)]; omega
        obtain ⟨x, hx⟩ := ll_get hl
        have tm1 := take_mem (y := ⟨(k : Int), (F1.E k).g⟩) hx
        obtain ⟨b2, off2, sp2, c2, hv2, k2, _⟩ := (V [_, _, _] _ O5).rd ec_len hx
        have e2 : pp = some ⟨b2, off2, sp2⟩ := by injection hv2
        subst e2
        have r0 := k2 0 1 (by decide)
        have r1 := k2 1 1 (by decide)
        rw [Nat.add_zero] at r0
        rw [rd_ec0] at r0
        rw [rd_ec1] at r1
        simp only [g0, g1, g2, g6, g7, g8, g10, g11, g12, hl', wkF, ↓reduceIte, reduceCtorEq, Nat.reduceAdd, wkG, wkH]
        refine X_drawn _ fun an => ?_
        cases b
        · rw [← hb, Bool.false_or] at tm1
          by_cases hxo : x.o = (k : Int)
          · have hxo' := eq_true hxo
            by_cases hxg : x.g = (F1.E k).g
            · have hxg' := eq_true hxg
              simp (maxSteps := 4000000) only [g0, g1, g2, g6, g7, g8, g10, g11, g12, m1, hl', i0, c0, c1, Int.toNat_natCast, Nat.zero_add, r0, r1, rd1, hxo', hxg', yi, wkF, ↓reduceIte, reduceCtorEq, Nat.reduceAdd, Nat.reduceLeDiff, Nat.reduceMul, Nat.reduceLT, Nat.reduceEqDiff, wkG, wkH]
              exact Is_in ⟨L.length - (i + 1), sub_lt' hki hl, i + 1, true, rfl, rfl, rfl, rfl, rfl, rfl, rfl, rfl, rfl, rfl, rfl, rfl, hl, (by rw [tm1]; exact (decide_eq_true (en_eq.2 ⟨hxo, hxg⟩)).symm), rfl⟩
            · simp (maxSteps := 4000000) only [g0, g1, g2, g6, g7, g8, g10, g11, g12, m1, hl', i0, c0, c1, Int.toNat_natCast, Nat.zero_add, r0, r1, rd1, hxo', hxg, yi, wkF, ↓reduceIte, reduceCtorEq, Nat.reduceAdd, Nat.reduceLeDiff, Nat.reduceMul, Nat.reduceLT, Nat.reduceEqDiff, wkG, wkH]
              exact Is_in ⟨L.length - (i + 1), sub_lt' hki hl, i + 1, false, rfl, rfl, rfl, rfl, rfl, rfl, rfl, rfl, rfl, rfl, rfl, rfl, hl, (by rw [tm1]; exact (decide_eq_false fun e => hxg (en_eq.1 e).2).symm), rfl⟩
          · simp (maxSteps := 4000000) only [g0, g1, g2, g6, g7, g8, g10, g11, g12, m1, hl', i0, c0, c1, Int.toNat_natCast, Nat.zero_add, r0, hxo, yi, wkF, ↓reduceIte, reduceCtorEq, Nat.reduceAdd, wkG, wkH]
            exact Is_in ⟨L.length - (i + 1), sub_lt' hki hl, i + 1, false, rfl, rfl, rfl, rfl, rfl, rfl, rfl, rfl, rfl, rfl, rfl, rfl, hl, (by rw [tm1]; exact (decide_eq_false fun e => hxo (en_eq.1 e).1).symm), rfl⟩
        · rw [← hb, Bool.true_or] at tm1
          simp (maxSteps := 4000000) only [g0, g1, g2, g6, g7, g8, g10, g11, g12, m1, hl', i0, Int.toNat_natCast, Nat.zero_add, yi, wkF, ↓reduceIte, reduceCtorEq, Nat.reduceAdd, wkG, wkH]
          exact Is_in ⟨L.length - (i + 1), sub_lt' hki hl, i + 1, true, rfl, rfl, rfl, rfl, rfl, rfl, rfl, rfl, rfl, rfl, rfl, rfl, hl, tm1.symm, rfl⟩
      have hl' : ¬ (i : Int) < (L.length : Int) := by omega
      have hiL : i = L.length := by omega
      rw [hiL, List.take_length] at hb
      have yk : IntKind.i64.wrap ((k : Int) + 1) = ((k + 1 : Nat) : Int) := by rw [wrap_i64 (by omega) (by omega)]; omega
      simp only [g0, g1, g2, g6, g7, g8, g10, g11, g12, hl', wkF, ↓reduceIte, reduceCtorEq, Nat.reduceAdd, wkG, wkH]
      refine Is_in ?_
      by_cases ho : (F1.E k).o = r
      · have ho' := eq_true ho
        cases b
        · have hm := of_decide_eq_false hb.symm
          simp only [g0, g1, g2, g6, g7, g8, g10, g11, g12, m1, c0, c1, Int.toNat_natCast, Nat.zero_add, rd0, ho', wkF, ↓reduceIte, reduceCtorEq, Nat.reduceAdd, Nat.reduceLeDiff, Nat.reduceMul, Nat.reduceLT, Nat.reduceEqDiff, wkG, wkH]
          refine Z_is (rfree_h (n := n) (o := o1) u1.z (by omega) (u1.a k) (u1.r k) (by omega) (by omega) (by omega) (by omega) O5) ?_
          rintro v' h7 ⟨F', o', hf, O7⟩
          simp only at O7
          simp only [yk, wkF, ↓reduceIte, reduceCtorEq, Nat.reduceAdd, wkG, wkH]
          exact Is_in ⟨F.C - (k + 1), sub_lt' hkq hc, k + 1, F', o', rfl, rfl, rfl, rfl, rfl, rfl, rfl, rfl, rfl, rfl, hc, ⟨F1, o1, hst, Or.inl ⟨⟨ho, hm⟩, hf⟩⟩, O7⟩
        · have hm := of_decide_eq_true hb.symm
          simp only [g0, g1, g2, g6, g7, g8, g10, g11, g12, m1, c0, c1, Int.toNat_natCast, Nat.zero_add, rd0, ho', yk, wkF, ↓reduceIte, reduceCtorEq, Nat.reduceAdd, Nat.reduceLeDiff, Nat.reduceMul, Nat.reduceLT, Nat.reduceEqDiff, wkG, wkH]
          exact Is_in ⟨F.C - (k + 1), sub_lt' hkq hc, k + 1, F1, o1, rfl, rfl, rfl, rfl, rfl, rfl, rfl, rfl, rfl, rfl, hc, ⟨F1, o1, hst, Or.inr ⟨fun e => e.2 hm, rfl, rfl⟩⟩, O5⟩
      · simp only [g0, g1, g2, g6, g7, g8, g10, g11, g12, m1, c0, c1, Int.toNat_natCast, Nat.zero_add, rd0, ho, yk, wkF, ↓reduceIte, reduceCtorEq, Nat.reduceAdd, Nat.reduceLeDiff, Nat.reduceMul, Nat.reduceLT, Nat.reduceEqDiff, wkG, wkH]
        exact Is_in ⟨F.C - (k + 1), sub_lt' hkq hc, k + 1, F1, o1, rfl, rfl, rfl, rfl, rfl, rfl, rfl, rfl, rfl, rfl, hc, ⟨F1, o1, hst, Or.inr ⟨fun e => ho e.1, rfl, rfl⟩⟩, O5⟩
    have c1 : ¬ (k : Int) < (F1.C : Int) := by omega
    have hkC' : k = F.C := by omega
    rw [hkC'] at hst
    obtain ⟨cb, tb, m1⟩ := rg_get O5
    simp only [g0, g1, g2, g6, g7, g8, g10, m1, c1, wkF, ↓reduceIte, reduceCtorEq, Nat.reduceAdd, Nat.reduceLeDiff, Nat.reduceMul, Nat.reduceLT, Nat.reduceEqDiff, wkG, wkH]
    refine Is_in ?_
    obtain ⟨j, rfl⟩ : ∃ j : Nat, r = (j : Int) := ⟨r.toNat, by have := hr.1; omega⟩
    have hj : j < F1.rob := by have := hr.2; omega
    have j0 : (0 : Int) ≤ (j : Int) := by omega
    have j1 : (j : Int) < (F1.rob : Int) := by omega
    obtain ⟨cb, tb, m2, m3, p3, O7⟩ := rg_tell (F := F1) (r := j) hj 1 O5
    have hset := rts_put F1 (r := j) hj 1
    have hfl := rts_flen F1
    have hin : j + 1 ≤ F1.rob := hj
    simp only [wkF, Y_box, Y_store, Y_makeMap, Y_buildSlice, ↓reduceIte, reduceCtorEq, wkO, wkS, Nat.reduceAdd, Nat.reduceLeDiff, Nat.reduceMul, Nat.reduceLT, Nat.reduceEqDiff, wkG]
    rw [X_seq]
    simp only [g0, g1, g2, g6, g7, g8, g10, m2, m3, p3, j0, j1, Int.toNat_natCast, Nat.zero_add, Nat.mul_one, hset, hfl, hin, wkF, Y_box, Y_store, Y_makeMap, Y_buildSlice, ↓reduceIte, reduceCtorEq, wkO, wkS, Nat.reduceAdd, Nat.reduceLeDiff, Nat.reduceMul, Nat.reduceLT, Nat.reduceEqDiff, wkG]
    generalize h5.setB tb _ = h9 at O7 ⊢
    clear m1 m2 m3 p3 hset hfl hin
    rw [X_seq]
    obtain ⟨wv, pv, bv, ga, gb, pb, one, O9⟩ := fin3 ((O7.at 2 rfl).at 2 rfl)
    simp only [ga, gb, pb, one, c3, s3, wkF, X_seq, Y_box, Y_store, Y_makeMap, Y_buildSlice, ↓reduceIte, reduceCtorEq, wkS, Nat.reduceAdd, Nat.reduceLeDiff, Nat.reduceMul, Nat.reduceLT, Nat.reduceEqDiff, wkG]
    exact leafO _ (answer2 _ _ _ _ (cellN O9 0 rfl rfl rfl) rfl) ⟨wv, pv, bv, _, _, _, rfl, Or.inr ⟨hr, rfl, F1, hF0 ▸ hst, rfl⟩, (O9.drop.at 1 rfl)⟩
  · simp only [hr, wkF, ↓reduceIte, reduceCtorEq, Nat.reduceAdd, Nat.reduceLeDiff, Nat.reduceMul, Nat.reduceLT, Nat.reduceEqDiff, wkG, wkH]
    obtain ⟨wv, pv, bv, ga, gb, pb, one, O9⟩ := fin3 ((O2.at 2 rfl).at 2 rfl)
    simp only [ga, gb, pb, one, c3, s3, wkF, X_seq, Y_box, Y_store, Y_makeMap, Y_buildSlice, ↓reduceIte, reduceCtorEq, wkS, Nat.reduceAdd, Nat.reduceLeDiff, Nat.reduceMul, Nat.reduceLT, Nat.reduceEqDiff, wkG]
    exact leafO _ (answer2 _ _ _ _ (cellN O9 0 rfl rfl rfl) rfl) ⟨wv, pv, bv, _, _, _, rfl, Or.inl ⟨hr, rfl, rfl, rfl⟩, (O9.drop.at 1 rfl)⟩
end
theorem env49 : env 49 = some ir49 := rfl
def Rf.Fine (F : Rf) (r c p : Int) : Prop := F.Rob r ∧ F.Is c ∧ 0 ≤ p ∧ p ≤ 15
def RAsk (F : Rf) (w : It) (c : Nat) (F' : Rf) (o' : Ou) : Prop :=
  ((F.E c).o = w.r ∧ F' = F ∧ o' = oz.post (grt w (c : Int) (F.E c).g)) ∨
    ((F.E c).o ≠ w.r ∧ (F.E c).o = -1 ∧ (((F.E c).g = 4294967295 ∧ F' = F ∧ o' = oz.post (dny w (c : Int) (-1))) ∨
      ((F.E c).g ≠ 4294967295 ∧ ∃ d, F' = F.put c ⟨w.r, (F.E c).g + 1⟩ (F.W c) ∧ o' = (oz.wr (c : Int) ⟨w.r, (F.E c).g + 1⟩ d).post (grt w (c : Int) ((F.E c).g + 1))))) ∨
    ((F.E c).o ≠ w.r ∧ (F.E c).o ≠ -1 ∧ ((¬ Hold (F.W c) w ∧ 8 ≤ (cutF (F.W c) w.r).length ∧ F' = F ∧ o' = oz.post (dny w (c : Int) (-1))) ∨
      ∃ l', ((Hold (F.W c) w ∧ l' = F.W c) ∨ (¬ Hold (F.W c) w ∧ (cutF (F.W c) w.r).length < 8 ∧ l' = insX w (cutF (F.W c) w.r))) ∧ F' = F.put c (F.E c) l' ∧ o' = oz.waits w (c : Int) (F.E c) true l'))
def RReq (F : Rf) (w : It) (c e : Int) (F' : Rf) (o' : Ou) : Prop :=
  (¬ F.Fine w.r c w.p ∧ e = 2 ∧ F' = F ∧ o' = oz) ∨ (F.Fine w.r c w.p ∧ F.T w.r.toNat = 0 ∧ e = 140 ∧ F' = F ∧ o' = oz) ∨
    (F.Fine w.r c w.p ∧ F.T w.r.toNat ≠ 0 ∧ e = 0 ∧ RAsk F w c.toNat F' o')
theorem insX_ne (x : It) (L : List It) : insX x L ≠ [] := by
  unfold insX
  split
  · rename_i h
    intro e
    have k : ∀ (L : List It) (s : List It × Bool), (s.2 = true → s.1 ≠ []) → ((L.foldl (gput x) s).2 = true → (L.foldl (gput x) s).1 ≠ []) := by
      intro L
      induction L with
      | nil => exact fun s h => h
      | cons y L ih =>
        intro s hs
        refine ih (gput x s y) ?_
        unfold gput
        split
        · intro _ e
          simp at e
        · intro _ e
          simp at e
    exact k L ([], false) (fun e => by cases e) h e
  · simp
theorem ne_get {l : List It} (h : l ≠ []) : l[0]? = some (nth l 0) := nth_get (List.length_pos_iff.2 h)
section
variable {ro : Nat → Option (List Value × Nat)} {h : Heap} {R : List Rs} {rb ob : Nat} {F : Rf} {o : Ou} {n c : Nat}
theorem rg_put2 {cb tb : Nat} {q : Nat → Value} {v : Value} (hc : c < F.C) (e : En) (l : List It) (O1 : Has ro h (Ob rb (.cells (rfc F cb tb) 1 false) :: Ob cb (.cells ((rcs (F.put c e l) fun x => if x = c then v else q x).flatMap rcell) 3 false) :: Ob tb (.cells ((rts F).flatMap zc) 1 false) :: Rrest F.W q F.C c :: Sc 3 ic v l :: R)) : Has ro h (Rg rb (F.put c e l) :: R) := by
  have O2 := ((O1.at 4 rfl).at 4 rfl).swap2
  have O3 : Has ro h (Rqs (F.put c e l).W (fun x => if x = c then v else q x) F.C :: _) := Has.rqBack (W := F.W) (q := q) (W' := (F.put c e l).W) (q' := fun x => if x = c then v else q x) hc (fun x hx => if_neg hx) (fun x hx => if_neg hx) (by
    have e1 : (F.put c e l).W c = l := if_pos rfl
    rw [e1, if_pos rfl]
    exact O2)
  exact Has.rgClose (F := F.put c e l) (((O3.at 3 rfl).at 3 rfl).at 3 rfl)
theorem rg_at {r : Nat} (hr : r < F.rob) (O : Has ro h (Rg rb F :: R)) : ∃ cb tb, h.get rb = some (.cells [.int .i64 F.home, .int .i64 (F.rob : Int), .slice (some ⟨cb, 0, none⟩) F.C F.C, .slice (some ⟨tb, 0, none⟩) F.rob F.rob] 1 false) ∧
    readC (h.get tb) r 1 = some [.int .i64 (F.T r)] := by
  obtain ⟨cb, tb, q, O1⟩ := Has.rgOpen O
  refine ⟨cb, tb, O1.get 0 rfl, ?_⟩
  have r1 := readC_flat zc_len (rts_get F hr) (zz := 1) (t := false) (k := 0) (m := 1) (by decide)
  rw [← O1.get 2 rfl, Nat.mul_one, Nat.add_zero] at r1
  exact r1
theorem rrequest_h (w : It) (cc : Int) (v : Rw F) (hn : 200 < n) (O : Has ro h (Rg rb F :: R)) :
    (callV env (n + 5) (.func (.func 49) #[] #[]) [.pointer (some ⟨rb, 0, none⟩), .int .i64 w.r, .int .i64 cc, .int .u64 w.s, .int .i64 w.p] h).Is fun p => ∃ wv pv bv e F' o', p.1 = .tuple #[.agg #[wv, pv, bv], .int .i64 e] ∧ RReq F w cc e F' o' ∧ Has ro p.2 (Rg rb F' :: Oo wv pv bv o' :: R) := by
  have z1 := v.z.r1
  refine call_is env49 ?_
  simp only [ir49, Nat.reduceAdd, Nat.reduceSub, wkF, X_seq, Y_store, Y_makeMap, Y_buildSlice, ↓reduceIte, reduceCtorEq, wkO, wkS, Nat.reduceLeDiff, Nat.reduceMul, Nat.reduceLT, Nat.reduceEqDiff, wkN, wkG]
  refine Y_boxO O ?_
  intro b10 h1 O1 _
  simp only [wkF, X_seq, Y_store, Y_makeMap, Y_buildSlice, ↓reduceIte, reduceCtorEq, wkO, wkS, Nat.reduceAdd, Nat.reduceLeDiff, Nat.reduceMul, Nat.reduceLT, Nat.reduceEqDiff, wkG]
  refine Y_boxO O1 ?_
  intro b12 h2 O2 _
  replace O2 : Has ro h2 (Ob b12 (.cells [.slice none 0 0, .slice none 0 0, .slice none 0 0] 1 false) :: Ob b10 (.cells [.slice none 0 0, .slice none 0 0, .slice none 0 0] 1 false) :: Rg rb F :: R) := O2
  replace O2 : Has ro h2 (Rg rb F :: Og b12 oz :: Ob b10 (.cells [.slice none 0 0, .slice none 0 0, .slice none 0 0] 1 false) :: R) := (Has.ogNew O2).at 2 rfl
  simp only [wkF, ↓reduceIte, reduceCtorEq, Nat.reduceAdd, Nat.reduceLeDiff, Nat.reduceMul, Nat.reduceLT, Nat.reduceEqDiff, wkG, wkH]
  refine Z_is (rrobot_h (n := n + 3) w.r O2) ?_
  rintro v' h3 ⟨rfl, rfl⟩
  clear O1 O
  by_cases hr : F.Rob w.r
  · simp only [hr, wkF, ↓reduceIte, reduceCtorEq, Nat.reduceAdd, Nat.reduceLeDiff, Nat.reduceMul, Nat.reduceLT, Nat.reduceEqDiff, wkG, wkH]
    refine Z_is (ris_h (n := n + 3) cc z1 O2) ?_
    rintro v' h3 ⟨rfl, rfl⟩
    by_cases hi : F.Is cc
    · by_cases hp0 : w.p < 0
      · simp only [hi, hp0, wkF, ↓reduceIte, reduceCtorEq, Nat.reduceAdd, Nat.reduceLeDiff, Nat.reduceMul, Nat.reduceLT, Nat.reduceEqDiff, wkG, wkH]
        obtain ⟨wv, pv, bv, ga, gb, pb, one, O99⟩ := fin3 ((O2.at 2 rfl).at 2 rfl)
        simp only [ga, gb, pb, one, c3, s3, wkF, X_seq, Y_box, Y_store, Y_makeMap, Y_buildSlice, ↓reduceIte, reduceCtorEq, wkS, Nat.reduceAdd, Nat.reduceLeDiff, Nat.reduceMul, Nat.reduceLT, Nat.reduceEqDiff, wkG]
        exact leafO _ (answer2 _ _ _ _ (cellN O99 0 rfl rfl rfl) rfl) ⟨wv, pv, bv, _, _, _, rfl, Or.inl ⟨fun x => by have := x.2.2.1; omega, rfl, rfl, rfl⟩, (O99.drop.at 1 rfl)⟩
      · by_cases hp1 : 15 < w.p
        · simp only [hi, hp0, hp1, wkF, ↓reduceIte, reduceCtorEq, Nat.reduceAdd, Nat.reduceLeDiff, Nat.reduceMul, Nat.reduceLT, Nat.reduceEqDiff, wkG, wkH]
          obtain ⟨wv, pv, bv, ga, gb, pb, one, O99⟩ := fin3 ((O2.at 2 rfl).at 2 rfl)
          simp only [ga, gb, pb, one, c3, s3, wkF, X_seq, Y_box, Y_store, Y_makeMap, Y_buildSlice, ↓reduceIte, reduceCtorEq, wkS, Nat.reduceAdd, Nat.reduceLeDiff, Nat.reduceMul, Nat.reduceLT, Nat.reduceEqDiff, wkG]
          exact leafO _ (answer2 _ _ _ _ (cellN O99 0 rfl rfl rfl) rfl) ⟨wv, pv, bv, _, _, _, rfl, Or.inl ⟨fun x => by have := x.2.2.2; omega, rfl, rfl, rfl⟩, (O99.drop.at 1 rfl)⟩
        · have hf : F.Fine w.r cc w.p := ⟨hr, hi, by omega, by omega⟩
          obtain ⟨c, rfl⟩ : ∃ k : Nat, cc = (k : Int) := ⟨cc.toNat, by have := hi.1; omega⟩
          obtain ⟨k, hk⟩ : ∃ k : Nat, w.r = (k : Int) := ⟨w.r.toNat, by have := hr.1; omega⟩
          have hkt : w.r.toNat = k := by rw [hk]; exact Int.toNat_natCast k
          have hkr : k < F.rob := by have := hr.2; omega
          have k0 : 0 ≤ w.r := by omega
          have k1 : w.r < (F.rob : Int) := by omega
          have hc : c < F.C := by have := hi.2.1; omega
          have c0 : (0 : Int) ≤ (c : Int) := by omega
          have c1 : (c : Int) < (F.C : Int) := by omega
          obtain ⟨ca, ta, m1, m2⟩ := rg_at hkr O2
          by_cases ht : F.T k = 0
          · have ht' := eq_true ht
            simp only [hi, hp0, hp1, m1, m2, k0, k1, hkt, Nat.zero_add, Nat.mul_one, ht', wkF, ↓reduceIte, reduceCtorEq, Nat.reduceAdd, Nat.reduceLeDiff, Nat.reduceMul, Nat.reduceLT, Nat.reduceEqDiff, wkG, wkH]
            obtain ⟨wv, pv, bv, ga, gb, pb, one, O99⟩ := fin3 ((O2.at 2 rfl).at 2 rfl)
            simp only [ga, gb, pb, one, c3, s3, wkF, X_seq, Y_box, Y_store, Y_makeMap, Y_buildSlice, ↓reduceIte, reduceCtorEq, wkS, Nat.reduceAdd, Nat.reduceLeDiff, Nat.reduceMul, Nat.reduceLT, Nat.reduceEqDiff, wkG]
            exact leafO _ (answer2 _ _ _ _ (cellN O99 0 rfl rfl rfl) rfl) ⟨wv, pv, bv, _, _, _, rfl, Or.inr (Or.inl ⟨hf, by rw [hkt]; exact ht, rfl, rfl, rfl⟩), (O99.drop.at 1 rfl)⟩
          simp only [hi, hp0, hp1, m1, m2, k0, k1, hkt, Nat.zero_add, Nat.mul_one, ht, wkF, X_seq, Y_store, Y_makeMap, Y_buildSlice, ↓reduceIte, reduceCtorEq, wkO, wkS, Nat.reduceAdd, Nat.reduceLeDiff, Nat.reduceMul, Nat.reduceLT, Nat.reduceEqDiff, wkG]
          refine Y_boxO O2 ?_
          intro b13 h4 O4 _
          replace O4 : Has ro h4 (Ob b13 (.cells [.int .i64 0, .int .u64 0, .int .i64 0] 1 false) :: Rg rb F :: Og b12 oz :: Ob b10 (.cells [.slice none 0 0, .slice none 0 0, .slice none 0 0] 1 false) :: R) := O4
          have g4 := O4.get 0 rfl
          have p4 := O4.can 0 rfl
          have O5 := O4.set 0 rfl (.cells [.int .i64 w.r, .int .u64 w.s, .int .i64 w.p] 1 false)
          simp only [List.set_cons_zero] at O5
          simp only [g4, p4, wkF, Y_box, Y_store, Y_makeMap, Y_buildSlice, ↓reduceIte, reduceCtorEq, wkO, wkS, Nat.reduceAdd, Nat.reduceLeDiff, Nat.reduceMul, Nat.reduceLT, Nat.reduceEqDiff, wkG]
          generalize h4.setB b13 _ = h5 at O5 ⊢
          clear g4 p4 O4 m1 m2 O2
          replace O5 : Has ro h5 (Ob b13 (.cells (ic w) 1 false) :: Rg rb F :: Og b12 oz :: Ob b10 (.cells [.slice none 0 0, .slice none 0 0, .slice none 0 0] 1 false) :: R) := O5
          obtain ⟨cb, tb, q, pq, cq, hqc, rd, _, _, _, O6⟩ := rg_take hc (O5.at 1 rfl)
          have m1 := O6.get 0 rfl
          unfold rfc at m1
          rw [X_seq]
          simp only [m1, rd, c0, c1, Int.toNat_natCast, Nat.zero_add, wkF, X_seq, Y_store, Y_makeMap, Y_buildSlice, ↓reduceIte, reduceCtorEq, wkO, wkS, Nat.reduceAdd, Nat.reduceLeDiff, Nat.reduceMul, Nat.reduceLT, Nat.reduceEqDiff, wkG]
          refine Y_boxO O6 ?_
          intro b14 h6 O7 _
          have m14 := O7.get 0 rfl
          have p14 := O7.can 0 rfl
          have O8 := O7.set 0 rfl (.cells [.int .i64 (F.E c).o, .int .u32 (F.E c).g, .slice pq (F.W c).length cq] 1 false)
          simp only [List.set_cons_zero] at O8
          simp only [m14, p14, wkF, Y_box, Y_store, Y_makeMap, Y_buildSlice, ↓reduceIte, reduceCtorEq, wkO, wkS, Nat.reduceAdd, Nat.reduceLeDiff, Nat.reduceMul, Nat.reduceLT, Nat.reduceEqDiff, wkG]
          generalize h6.setB b14 _ = h7 at O8 ⊢
          clear m14 p14 m1 rd O7 O6 O5
          replace O8 : Has ro h7 (Ob b14 (.cells [.int .i64 (F.E c).o, .int .u32 (F.E c).g, .slice pq (F.W c).length cq] 1 false) :: Ob rb (.cells (rfc F cb tb) 1 false) :: Ob cb (.cells ((rcs F q).flatMap rcell) 3 false) :: Ob tb (.cells ((rts F).flatMap zc) 1 false) :: Rrest F.W q F.C c :: Sc 3 ic (.slice pq (F.W c).length cq) (F.W c) :: Ob b13 (.cells (ic w) 1 false) :: Og b12 oz :: Ob b10 (.cells [.slice none 0 0, .slice none 0 0, .slice none 0 0] 1 false) :: R) := O8
          have m14 := O8.get 0 rfl
          have m13 := O8.get 6 rfl
          have O9 := O8
          rw [← hqc] at O9
          have O10 := rg_back hc (((((O9.at 5 rfl).at 5 rfl).at 5 rfl).at 5 rfl).at 5 rfl)
          replace O10 : Has ro h7 (Rg rb F :: Ob b14 (.cells [.int .i64 (F.E c).o, .int .u32 (F.E c).g, _] 1 false) :: Ob b13 (.cells (ic w) 1 false) :: Og b12 oz :: Ob b10 (.cells [.slice none 0 0, .slice none 0 0, .slice none 0 0] 1 false) :: R) := O10
          rw [X_seq]
          by_cases ho : (F.E c).o = w.r
          · have ho' := eq_true ho
            simp only [m14, ho', wkF, ↓reduceIte, reduceCtorEq, Nat.reduceAdd, Nat.reduceLeDiff, Nat.reduceMul, Nat.reduceLT, Nat.reduceEqDiff, wkG, wkH]
            refine Z_is (rpost_h (n := n + 3) (grt w (c : Int) (F.E c).g) (by decide) (by decide) (O10.at 3 rfl)) ?_
            rintro v' h8 O11
            simp only at O11
            simp only [wkF, ↓reduceIte, reduceCtorEq, Nat.reduceAdd, Nat.reduceLeDiff, Nat.reduceMul, Nat.reduceLT, Nat.reduceEqDiff, wkG, wkH]
            obtain ⟨wv, pv, bv, ga, gb, pb, one, O99⟩ := fin3 ((((O11.rid 3 rfl).rid 2 rfl).at 2 rfl).at 1 rfl)
            simp only [ga, gb, pb, one, c3, s3, wkF, X_seq, Y_box, Y_store, Y_makeMap, Y_buildSlice, ↓reduceIte, reduceCtorEq, wkS, Nat.reduceAdd, Nat.reduceLeDiff, Nat.reduceMul, Nat.reduceLT, Nat.reduceEqDiff, wkG]
            exact leafO _ (answer2 _ _ _ _ (cellN O99 0 rfl rfl rfl) rfl) ⟨wv, pv, bv, _, _, _, rfl, Or.inr (Or.inr ⟨hf, by rw [hkt]; exact ht, rfl, Or.inl ⟨ho, rfl, rfl⟩⟩), (O99.drop.at 1 rfl)⟩
          by_cases hf1 : (F.E c).o = -1
          · have hf1' := eq_true hf1
            simp only [m14, m13, ho, hf1', ic_len, tk_ic, tk_ic1, dr_ic1, dr_ic2, agg_ic, iv_cells, set_ic, ic_one, wkF, ↓reduceIte, reduceCtorEq, Nat.reduceAdd, Nat.reduceLeDiff, Nat.reduceMul, Nat.reduceLT, Nat.reduceEqDiff, wkG, wkH]
            refine Z_is (rgrant_h (n := n) (F := F) w v.z hc ⟨by omega, k1⟩ (by decide) (by decide) (by decide) ((O10.at 3 rfl).swap2)) ?_
            rintro v' h8 (⟨hm, rfl, O11⟩ | ⟨hm, rfl, d, O11⟩)
            · simp only at O11
              simp only [wkF, ↓reduceIte, reduceCtorEq, Nat.reduceAdd, Nat.reduceLeDiff, Nat.reduceMul, Nat.reduceLT, Nat.reduceEqDiff, wkG, wkH]
              obtain ⟨wv, pv, bv, ga, gb, pb, one, O99⟩ := fin3 (((((O11.rid 3 rfl).rid 2 rfl).at 2 rfl).at 2 rfl))
              simp only [ga, gb, pb, one, c3, s3, wkF, X_seq, Y_box, Y_store, Y_makeMap, Y_buildSlice, ↓reduceIte, reduceCtorEq, wkS, Nat.reduceAdd, Nat.reduceLeDiff, Nat.reduceMul, Nat.reduceLT, Nat.reduceEqDiff, wkG]
              exact leafO _ (answer2 _ _ _ _ (cellN O99 0 rfl rfl rfl) rfl) ⟨wv, pv, bv, _, _, _, rfl, Or.inr (Or.inr ⟨hf, by rw [hkt]; exact ht, rfl, Or.inr (Or.inl ⟨ho, hf1, Or.inl ⟨hm, rfl, rfl⟩⟩)⟩), (O99.drop.at 1 rfl)⟩
            · simp only at O11
              simp only [wkF, ↓reduceIte, reduceCtorEq, Nat.reduceAdd, Nat.reduceLeDiff, Nat.reduceMul, Nat.reduceLT, Nat.reduceEqDiff, wkG, wkH]
              obtain ⟨wv, pv, bv, ga, gb, pb, one, O99⟩ := fin3 (((((O11.rid 3 rfl).rid 2 rfl).at 2 rfl).at 2 rfl))
              simp only [ga, gb, pb, one, c3, s3, wkF, X_seq, Y_box, Y_store, Y_makeMap, Y_buildSlice, ↓reduceIte, reduceCtorEq, wkS, Nat.reduceAdd, Nat.reduceLeDiff, Nat.reduceMul, Nat.reduceLT, Nat.reduceEqDiff, wkG]
              exact leafO _ (answer2 _ _ _ _ (cellN O99 0 rfl rfl rfl) rfl) ⟨wv, pv, bv, _, _, _, rfl, Or.inr (Or.inr ⟨hf, by rw [hkt]; exact ht, rfl, Or.inr (Or.inl ⟨ho, hf1, Or.inr ⟨hm, d, rfl, rfl⟩⟩)⟩), (O99.drop.at 1 rfl)⟩
          simp only [m14, m13, ho, hf1, ic_len, tk_ic, tk_ic1, dr_ic1, dr_ic2, agg_ic, iv_cells, set_ic, ic_one, wkF, ↓reduceIte, reduceCtorEq, Nat.reduceAdd, Nat.reduceLeDiff, Nat.reduceMul, Nat.reduceLT, Nat.reduceEqDiff, wkG, wkH]
          refine Z_is (rput_h (n := n + 2) w (v.z.w c) (by omega) (O8.at 5 rfl)) ?_
          rintro v' h8 hv
          clear m14 m13 O10 O9
          have hv2 : (¬ Hold (F.W c) w ∧ 8 ≤ (cutF (F.W c) w.r).length ∧ v' = .tuple #[.slice pq (F.W c).length cq, .bool false] ∧ Has ro h8 (Sc 3 ic (.slice pq (F.W c).length cq) (F.W c) :: Ob b14 (.cells [.int .i64 (F.E c).o, .int .u32 (F.E c).g, .slice pq (F.W c).length cq] 1 false) :: Ob rb (.cells (rfc F cb tb) 1 false) :: Ob cb (.cells ((rcs F q).flatMap rcell) 3 false) :: Ob tb (.cells ((rts F).flatMap zc) 1 false) :: Rrest F.W q F.C c :: Ob b13 (.cells (ic w) 1 false) :: Og b12 oz :: Ob b10 (.cells [.slice none 0 0, .slice none 0 0, .slice none 0 0] 1 false) :: R)) ∨
              (∃ x l', ((Hold (F.W c) w ∧ l' = F.W c) ∨ (¬ Hold (F.W c) w ∧ (cutF (F.W c) w.r).length < 8 ∧ l' = insX w (cutF (F.W c) w.r))) ∧ l' ≠ [] ∧ v' = .tuple #[x, .bool true] ∧ Has ro h8 (Sc 3 ic x l' :: Ob b14 (.cells [.int .i64 (F.E c).o, .int .u32 (F.E c).g, .slice pq (F.W c).length cq] 1 false) :: Ob rb (.cells (rfc F cb tb) 1 false) :: Ob cb (.cells ((rcs F q).flatMap rcell) 3 false) :: Ob tb (.cells ((rts F).flatMap zc) 1 false) :: Rrest F.W q F.C c :: Ob b13 (.cells (ic w) 1 false) :: Og b12 oz :: Ob b10 (.cells [.slice none 0 0, .slice none 0 0, .slice none 0 0] 1 false) :: R)) := by
            rcases hv with ⟨hh, e, O11⟩ | ⟨hh, h8', e, O11⟩ | ⟨hh, h8', x, e, O11⟩
            · refine Or.inr ⟨_, F.W c, Or.inl ⟨hh, rfl⟩, ?_, e, O11⟩
              obtain ⟨y, hy, _⟩ := hh
              exact List.ne_nil_of_mem hy
            · exact Or.inl ⟨hh, h8', e, O11⟩
            · exact Or.inr ⟨x, _, Or.inr ⟨hh, h8', rfl⟩, insX_ne _ _, e, O11.rid 1 rfl⟩
          clear hv O8
          rcases hv2 with ⟨hh, h8', rfl, O11⟩ | ⟨x, l', hl', hne, rfl, O11⟩
          · simp only [wkF, ↓reduceIte, reduceCtorEq, Nat.reduceAdd, Nat.reduceLeDiff, Nat.reduceMul, Nat.reduceLT, Nat.reduceEqDiff, wkG, wkH]
            refine Z_is (rpost_h (n := n + 3) (dny w (c : Int) (-1)) (by decide) (by decide) (O11.at 7 rfl)) ?_
            rintro v' h9 O12
            simp only at O12
            simp only [wkF, ↓reduceIte, reduceCtorEq, Nat.reduceAdd, Nat.reduceLeDiff, Nat.reduceMul, Nat.reduceLT, Nat.reduceEqDiff, wkG, wkH]
            replace O12 : Has ro h9 (Og b12 (oz.post (dny w (c : Int) (-1))) :: Sc 3 ic (.slice pq (F.W c).length cq) (F.W c) :: Ob b14 (.cells [.int .i64 (F.E c).o, .int .u32 (F.E c).g, .slice pq (F.W c).length cq] 1 false) :: Ob rb (.cells (rfc F cb tb) 1 false) :: Ob cb (.cells ((rcs F q).flatMap rcell) 3 false) :: Ob tb (.cells ((rts F).flatMap zc) 1 false) :: Rrest F.W q F.C c :: Ob b13 (.cells (ic w) 1 false) :: Ob b10 (.cells [.slice none 0 0, .slice none 0 0, .slice none 0 0] 1 false) :: R) := O12
            rw [← hqc] at O12
            have O13 := (O12.rid 7 rfl).rid 2 rfl
            replace O13 : Has ro h9 (Ob rb (.cells (rfc F cb tb) 1 false) :: Ob cb (.cells ((rcs F q).flatMap rcell) 3 false) :: Ob tb (.cells ((rts F).flatMap zc) 1 false) :: Rrest F.W q F.C c :: Sc 3 ic (q c) (F.W c) :: Og b12 (oz.post (dny w (c : Int) (-1))) :: Ob b10 (.cells [.slice none 0 0, .slice none 0 0, .slice none 0 0] 1 false) :: R) := ((((O13.at 1 rfl).at 5 rfl).at 5 rfl).at 5 rfl).at 5 rfl
            have O14 := rg_back hc O13
            obtain ⟨wv, pv, bv, ga, gb, pb, one, O99⟩ := fin3 ((O14.at 2 rfl).at 2 rfl)
            simp only [ga, gb, pb, one, c3, s3, wkF, X_seq, Y_box, Y_store, Y_makeMap, Y_buildSlice, ↓reduceIte, reduceCtorEq, wkS, Nat.reduceAdd, Nat.reduceLeDiff, Nat.reduceMul, Nat.reduceLT, Nat.reduceEqDiff, wkG]
            exact leafO _ (answer2 _ _ _ _ (cellN O99 0 rfl rfl rfl) rfl) ⟨wv, pv, bv, _, _, _, rfl, Or.inr (Or.inr ⟨hf, by rw [hkt]; exact ht, rfl, Or.inr (Or.inr ⟨ho, hf1, Or.inl ⟨hh, h8', rfl, rfl⟩⟩)⟩), (O99.drop.at 1 rfl)⟩
          obtain ⟨pl, cl, rfl, _⟩ := O11.scVal 0 rfl
          have m14 := O11.get 1 rfl
          have p14 := O11.can 1 rfl
          have O12 := O11.set 1 rfl (.cells [.int .i64 (F.E c).o, .int .u32 (F.E c).g, .slice pl l'.length cl] 1 false)
          simp only [List.set_cons_zero, List.set_cons_succ] at O12
          simp only [wkF, Y_box, Y_store, Y_makeMap, Y_buildSlice, ↓reduceIte, reduceCtorEq, wkO, wkS, Nat.reduceAdd, Nat.reduceLeDiff, Nat.reduceMul, Nat.reduceLT, Nat.reduceEqDiff, wkG]
          rw [X_seq, X_seq]
          simp only [wkF, Y_box, Y_store, Y_makeMap, Y_buildSlice, ↓reduceIte, reduceCtorEq, wkO, wkS, Nat.reduceAdd, Nat.reduceLeDiff, Nat.reduceMul, Nat.reduceLT, Nat.reduceEqDiff, wkG]
          rw [X_seq]
          simp only [m14, p14, slI, wkF, Y_box, Y_store, Y_makeMap, Y_buildSlice, ↓reduceIte, reduceCtorEq, wkO, wkS, Nat.reduceAdd, Nat.reduceLeDiff, Nat.reduceMul, Nat.reduceLT, Nat.reduceEqDiff, wkG]
          generalize h8.setB b14 _ = h9 at O12 ⊢
          clear m14 p14 O11
          replace O12 : Has ro h9 (Ob rb (.cells (rfc F cb tb) 1 false) :: Ob cb (.cells ((rcs F q).flatMap rcell) 3 false) :: Ob tb (.cells ((rts F).flatMap zc) 1 false) :: Rrest F.W q F.C c :: Sc 3 ic (.slice pl l'.length cl) l' :: Ob b14 (.cells [.int .i64 (F.E c).o, .int .u32 (F.E c).g, .slice pl l'.length cl] 1 false) :: Ob b13 (.cells (ic w) 1 false) :: Og b12 oz :: Ob b10 (.cells [.slice none 0 0, .slice none 0 0, .slice none 0 0] 1 false) :: R) := ((((O12.at 5 rfl).at 5 rfl).at 5 rfl).at 5 rfl)
          have q1 := O12.get 0 rfl
          unfold rfc at q1
          have q2 := O12.get 1 rfl
          have p2 := O12.can 1 rfl
          have q3 := O12.get 5 rfl
          have hput : setAt ((rcs F q).flatMap rcell) (c * 3) [.int .i64 (F.E c).o, .int .u32 (F.E c).g, .slice pl l'.length cl] = _ := rcs_put F q hc (F.E c) (.slice pl l'.length cl) l'
          have hfl := rcs_flen F q
          have hin : c * 3 + 3 ≤ F.C * 3 := by omega
          have O13 := O12.set 1 rfl (.cells ((rcs (F.put c (F.E c) l') fun x => if x = c then .slice pl l'.length cl else q x).flatMap rcell) 3 false)
          simp only [List.set_cons_zero, List.set_cons_succ] at O13
          rw [X_seq]
          refine X_drawn _ fun an => ?_
          simp only [q1, q2, p2, q3, c0, c1, Int.toNat_natCast, Nat.zero_add, st3, hput, hfl, hin, wkF, Y_box, Y_store, Y_makeMap, Y_buildSlice, ↓reduceIte, reduceCtorEq, wkO, Nat.reduceAdd, Nat.reduceLeDiff, Nat.reduceMul, Nat.reduceLT, Nat.reduceEqDiff, wkG]
          generalize h9.setB cb _ = h10 at O13 ⊢
          clear q1 q2 p2 q3 hput hfl hin O12
          have q3 := O13.get 5 rfl
          rw [X_seq]
          simp only [q3, wkF, Y_box, Y_store, Y_makeMap, Y_buildSlice, ↓reduceIte, reduceCtorEq, wkO, wkS, Nat.reduceAdd, Nat.reduceLeDiff, Nat.reduceMul, Nat.reduceLT, Nat.reduceEqDiff, wkG]
          refine Z_is (rpost_h (n := n + 3) (o := oz) (dny w (c : Int) (F.E c).o) (by decide) (by decide) (O13.at 7 rfl)) ?_
          rintro v' h11 O14
          simp only at O14
          replace O14 : Has ro h11 (Og b12 (oz.post (dny w (c : Int) (F.E c).o)) :: Ob rb (.cells (rfc F cb tb) 1 false) :: Ob cb (.cells ((rcs (F.put c (F.E c) l') fun x => if x = c then .slice pl l'.length cl else q x).flatMap rcell) 3 false) :: Ob tb (.cells ((rts F).flatMap zc) 1 false) :: Rrest F.W q F.C c :: Sc 3 ic (.slice pl l'.length cl) l' :: Ob b14 (.cells [.int .i64 (F.E c).o, .int .u32 (F.E c).g, .slice pl l'.length cl] 1 false) :: Ob b13 (.cells (ic w) 1 false) :: Ob b10 (.cells [.slice none 0 0, .slice none 0 0, .slice none 0 0] 1 false) :: R) := O14
          have q3 := O14.get 6 rfl
          obtain ⟨b2, off2, sp2, c2, hv2, k2, _⟩ := (O14.vw 5 rfl).rd ic_len (ne_get hne)
          have e2 : pl = some ⟨b2, off2, sp2⟩ := by injection hv2
          subst e2
          have r2 := k2 2 1 (by decide)
          have q0 : ∀ x : It, readN (ic x) 2 1 = some [.int .i64 x.p] := fun _ => rfl
          rw [q0, Nat.zero_mul, Nat.add_zero] at r2
          have l0 : (0 : Int) < (l'.length : Int) := by have := List.length_pos_iff.2 hne; omega
          simp only [wkF, Y_box, Y_store, Y_makeMap, Y_buildSlice, ↓reduceIte, reduceCtorEq, wkO, wkS, Nat.reduceAdd, Nat.reduceLeDiff, Nat.reduceMul, Nat.reduceLT, Nat.reduceEqDiff, wkG]
          rw [X_seq]
          refine X_drawn _ fun an => ?_
          simp only [q3, r2, l0, Int.toNat_zero, Nat.zero_mul, Nat.zero_add, Nat.add_zero, Int.le_refl, wkF, Y_box, Y_store, Y_makeMap, Y_buildSlice, ↓reduceIte, reduceCtorEq, wkO, wkS, Nat.reduceAdd, Nat.reduceLeDiff, Nat.reduceMul, Nat.reduceLT, Nat.reduceEqDiff, wkG]
          refine DB_is (rpost_h (n := n + 3) (o := oz.post (dny w (c : Int) (F.E c).o)) (inh (c : Int) (F.E c) (nth l' 0).p) (show 1 < 1000000 by omega) (show 1 < 1000000 by omega) O14) ?_
          rintro v' h12 O15
          simp only at O15
          have q3 := O15.get 6 rfl
          simp only [wkF, Y_box, Y_store, Y_makeMap, Y_buildSlice, ↓reduceIte, reduceCtorEq, wkO, wkS, Nat.reduceAdd, Nat.reduceLeDiff, Nat.reduceMul, Nat.reduceLT, Nat.reduceEqDiff, wkG]
          rw [X_seq]
          simp only [q3, wkF, Y_box, Y_store, Y_makeMap, Y_buildSlice, ↓reduceIte, reduceCtorEq, wkO, wkS, Nat.reduceAdd, Nat.reduceLeDiff, Nat.reduceMul, Nat.reduceLT, Nat.reduceEqDiff, wkG]
          refine Z_is (rpost_h (n := n + 3) (o := (oz.post (dny w (c : Int) (F.E c).o)).post (inh (c : Int) (F.E c) (nth l' 0).p)) (rcl (c : Int) (F.E c)) (show 2 < 1000000 by omega) (show 2 < 1000000 by omega) O15) ?_
          rintro v' h13 O16
          simp only at O16
          simp only [wkF, ↓reduceIte, reduceCtorEq, Nat.reduceAdd, Nat.reduceLeDiff, Nat.reduceMul, Nat.reduceLT, Nat.reduceEqDiff, wkG, wkH]
          replace O16 : Has ro h13 (Og b12 (oz.waits w (c : Int) (F.E c) true l') :: Ob rb (.cells (rfc F cb tb) 1 false) :: Ob cb (.cells ((rcs (F.put c (F.E c) l') fun x => if x = c then .slice (some ⟨b2, off2, sp2⟩) l'.length cl else q x).flatMap rcell) 3 false) :: Ob tb (.cells ((rts F).flatMap zc) 1 false) :: Rrest F.W q F.C c :: Sc 3 ic (.slice (some ⟨b2, off2, sp2⟩) l'.length cl) l' :: Ob b14 (.cells [.int .i64 (F.E c).o, .int .u32 (F.E c).g, .slice (some ⟨b2, off2, sp2⟩) l'.length cl] 1 false) :: Ob b13 (.cells (ic w) 1 false) :: Ob b10 (.cells [.slice none 0 0, .slice none 0 0, .slice none 0 0] 1 false) :: R) := O16
          have O17 := (O16.rid 7 rfl).rid 6 rfl
          replace O17 : Has ro h13 (Rg rb (F.put c (F.E c) l') :: Og b12 (oz.waits w (c : Int) (F.E c) true l') :: Ob b10 (.cells [.slice none 0 0, .slice none 0 0, .slice none 0 0] 1 false) :: R) := rg_put2 hc (F.E c) l' (((((O17.at 5 rfl).at 5 rfl).at 5 rfl).at 5 rfl).at 5 rfl)
          obtain ⟨wv, pv, bv, ga, gb, pb, one, O99⟩ := fin3 ((O17.at 2 rfl).at 2 rfl)
          simp only [ga, gb, pb, one, c3, s3, wkF, X_seq, Y_box, Y_store, Y_makeMap, Y_buildSlice, ↓reduceIte, reduceCtorEq, wkS, Nat.reduceAdd, Nat.reduceLeDiff, Nat.reduceMul, Nat.reduceLT, Nat.reduceEqDiff, wkG]
          exact leafO _ (answer2 _ _ _ _ (cellN O99 0 rfl rfl rfl) rfl) ⟨wv, pv, bv, _, _, _, rfl, Or.inr (Or.inr ⟨hf, by rw [hkt]; exact ht, rfl, Or.inr (Or.inr ⟨ho, hf1, Or.inr ⟨l', hl', rfl, rfl⟩⟩)⟩), (O99.drop.at 1 rfl)⟩
    · simp only [hi, wkF, ↓reduceIte, reduceCtorEq, Nat.reduceAdd, Nat.reduceLeDiff, Nat.reduceMul, Nat.reduceLT, Nat.reduceEqDiff, wkG, wkH]
      obtain ⟨wv, pv, bv, ga, gb, pb, one, O99⟩ := fin3 ((O2.at 2 rfl).at 2 rfl)
      simp only [ga, gb, pb, one, c3, s3, wkF, X_seq, Y_box, Y_store, Y_makeMap, Y_buildSlice, ↓reduceIte, reduceCtorEq, wkS, Nat.reduceAdd, Nat.reduceLeDiff, Nat.reduceMul, Nat.reduceLT, Nat.reduceEqDiff, wkG]
      exact leafO _ (answer2 _ _ _ _ (cellN O99 0 rfl rfl rfl) rfl) ⟨wv, pv, bv, _, _, _, rfl, Or.inl ⟨fun x => hi x.2.1, rfl, rfl, rfl⟩, (O99.drop.at 1 rfl)⟩
  · simp only [hr, wkF, ↓reduceIte, reduceCtorEq, Nat.reduceAdd, Nat.reduceLeDiff, Nat.reduceMul, Nat.reduceLT, Nat.reduceEqDiff, wkG, wkH]
    obtain ⟨wv, pv, bv, ga, gb, pb, one, O99⟩ := fin3 ((O2.at 2 rfl).at 2 rfl)
    simp only [ga, gb, pb, one, c3, s3, wkF, X_seq, Y_box, Y_store, Y_makeMap, Y_buildSlice, ↓reduceIte, reduceCtorEq, wkS, Nat.reduceAdd, Nat.reduceLeDiff, Nat.reduceMul, Nat.reduceLT, Nat.reduceEqDiff, wkG]
    exact leafO _ (answer2 _ _ _ _ (cellN O99 0 rfl rfl rfl) rfl) ⟨wv, pv, bv, _, _, _, rfl, Or.inl ⟨fun x => hr x.1, rfl, rfl, rfl⟩, (O99.drop.at 1 rfl)⟩
end
theorem env29 : env 29 = some ir29 := rfl
theorem env48 : env 48 = some ir48 := rfl
def keyW (w : Wr) : Int × En := (w.c, w.e)
structure Ou.Like (o p : Ou) : Prop where
  ew : o.ws.map keyW = p.ws.map keyW
  ep : o.ps = p.ps
  eb : o.bs = p.bs
theorem keyW_rk {A B : List Wr} (h : A.map keyW = B.map keyW) : (A.map toR).map rkey = (B.map toR).map rkey := by
  have e : ∀ A : List Wr, (A.map toR).map rkey = (A.map keyW).map fun x => ((3 : Int), x.1, bE x.2) := by
    intro A
    rw [List.map_map, List.map_map]
    rfl
  rw [e, e, h]
theorem zc_len' (m : Int) : (zc m).length = 1 := rfl
theorem sub_lt2 {a i q : Nat} (hk : q = a - i) (h : i < a) : a - (i + 1) < q := by omega
section
variable {ro : Nat → Option (List Value × Nat)} {h : Heap} {R : List Rs} {n : Nat}
theorem same29_h (m : Po) (hn : 5 < n) (O : Has ro h R) : (callV env (n + 1) (.func (.func 29) #[] #[]) [.agg (mc m).toArray, .agg (mc m).toArray] h).Is fun p => p.1 = .bool true ∧ Has ro p.2 R := by
  refine call_is env29 ?_
  simp only [ir29, Nat.reduceAdd, Nat.reduceSub, wkF, X_seq, Y_store, Y_makeMap, Y_buildSlice, ↓reduceIte, reduceCtorEq, wkO, wkS, wkN, wkG]
  refine Y_boxO O ?_
  intro b2 h1 O1 _
  simp only [wkF, X_seq, Y_store, Y_makeMap, Y_buildSlice, ↓reduceIte, reduceCtorEq, wkO, wkS, Nat.reduceAdd, wkG]
  refine Y_boxO O1 ?_
  intro b3 h2 O2 _
  replace O2 : Has ro h2 (Ob b3 (.cells [.int .i64 m.kd, .int .i64 m.cell, .int .u32 m.gen, .int .u64 m.stamp, .int .i64 m.prio, .int .i64 m.hops, .int .i64 m.orig, .int .i64 m.oth, .slice none 0 0] 1 false) :: Ob b2 (.cells [.int .i64 m.kd, .int .i64 m.cell, .int .u32 m.gen, .int .u64 m.stamp, .int .i64 m.prio, .int .i64 m.hops, .int .i64 m.orig, .int .i64 m.oth, .slice none 0 0] 1 false) :: R) := O2
  clear O O1
  have m3 := O2.get 0 rfl
  have m2 := O2.get 1 rfl
  simp only [m2, m3, wkF, ↓reduceIte, reduceCtorEq, Nat.reduceAdd, Nat.reduceLeDiff, Nat.reduceMul, Nat.reduceLT, Nat.reduceEqDiff, wkG, wkH]
  refine L_is (fun q s => q = 0 ∧ s.defers = [] ∧ s.tmps.length = 87 ∧ s.tmps.getD 2 undefV = .pointer (some ⟨b2, 0, none⟩) ∧ s.tmps.getD 3 undefV = .pointer (some ⟨b3, 0, none⟩) ∧ s.tmps.getD 5 undefV = .int .i64 0 ∧ s.h = h2) 0 ?_ (by omega) ?_
  · exact ⟨rfl, rfl, rfl, rfl, rfl, rfl, rfl⟩
  rintro q' tm df h3 ⟨hk, hd, hlen_, g2, g3, g5, hh⟩
  simp only at hd g2 g3 g5 hh
  subst hd hh
  obtain ⟨w, hg_, rfl⟩ := explode hlen_
  simp only [hg_] at g2 g3 g5
  clear hlen_ hg_
  simp only [g2, g3, g5, m2, m3, wkF, ↓reduceIte, reduceCtorEq, Nat.reduceAdd, Nat.reduceLeDiff, Nat.reduceMul, Nat.reduceLT, Nat.reduceEqDiff, wkG, wkH]
  refine Is_in ?_
  simp only [wkF, ↓reduceIte, reduceCtorEq, Nat.reduceAdd, wkG, wkH]
  exact leaf1 ⟨rfl, (O2.drop).drop⟩
theorem done_h {wv pv bv wv' pv' bv' : Value} {o p : Ou} (k : o.Like p) (hb : o.bs.length = o.ps.length) (l1 : o.ws.length < 100000) (l2 : o.ps.length < 100000) (hn : o.ws.length + o.ps.length + 20 < n) (O : Has ro h (Oo wv pv bv o :: Oo wv' pv' bv' p :: R)) :
    (callV env (n + 3) (.func (.func 48) #[] #[]) [.agg #[wv, pv, bv], .agg #[wv', pv', bv']] h).Is fun q => q.1 = .bool true ∧ Has ro q.2 R := by
  obtain ⟨kw, kp, kb⟩ := k
  have hwl : p.ws.length = o.ws.length := by have := congrArg List.length kw; simpa using this.symm
  have hrk := keyW_rk kw
  refine call_is env48 ?_
  simp only [ir48, Nat.reduceAdd, Nat.reduceSub, wkF, X_seq, Y_store, Y_makeMap, Y_buildSlice, ↓reduceIte, reduceCtorEq, wkO, wkS, wkN, wkG]
  refine Y_boxO O ?_
  intro b2 h1 O1 _
  simp only [wkF, X_seq, Y_store, Y_makeMap, Y_buildSlice, ↓reduceIte, reduceCtorEq, wkO, wkS, Nat.reduceAdd, wkG]
  refine Y_boxO O1 ?_
  intro b3 h2 O2 _
  replace O2 : Has ro h2 (Oo wv pv bv o :: Oo wv' pv' bv' p :: Ob b3 (.cells [wv', pv', bv'] 1 false) :: Ob b2 (.cells [wv, pv, bv] 1 false) :: R) := (O2.at 2 rfl).at 3 rfl |>.swap2
  clear O O1
  replace O2 := Has.all.1 O2
  simp only [List.cons_append, List.nil_append] at O2
  replace O2 := Has.all.1 (O2.at 4 rfl)
  simp only [List.cons_append, List.nil_append] at O2
  replace O2 : Has ro h2 (Ob b3 (.cells [wv', pv', bv'] 1 false) :: Ob b2 (.cells [wv, pv, bv] 1 false) :: Sc 3 wc wv o.ws :: Sc 10 pc pv o.ps :: Sc 1 zc bv o.bs :: Dts o.ws :: Sc 3 wc wv' p.ws :: Sc 10 pc pv' p.ps :: Sc 1 zc bv' p.bs :: Dts p.ws :: R) := O2.perm (by
    refine List.Perm.trans ?_ (List.Perm.swap _ _ _)
    have h1 : ∀ (a b c d e f g i x y : Rs), (a :: b :: c :: d :: e :: f :: g :: i :: x :: y :: R).Perm (y :: x :: e :: f :: g :: i :: a :: b :: c :: d :: R) := by
      intro a b c d e f g i x y
      have e1 : (a :: b :: c :: d :: e :: f :: g :: i :: x :: y :: R) = [a, b, c, d] ++ ([e, f, g, i] ++ ([x, y] ++ R)) := rfl
      have e2 : (y :: x :: e :: f :: g :: i :: a :: b :: c :: d :: R) = [y, x] ++ ([e, f, g, i] ++ ([a, b, c, d] ++ R)) := rfl
      rw [e1, e2]
      have e3 : ([a, b, c, d] ++ ([e, f, g, i] ++ ([x, y] ++ R))).Perm ([x, y] ++ ([e, f, g, i] ++ ([a, b, c, d] ++ R))) := by
        refine List.Perm.trans (List.perm_append_comm_assoc _ _ _) ?_
        refine List.Perm.trans (List.Perm.append_left _ (List.perm_append_comm_assoc _ _ _)) ?_
        exact List.perm_append_comm_assoc _ _ _
      exact e3.trans (List.Perm.swap _ _ _)
    exact h1 _ _ _ _ _ _ _ _ _ _)
  obtain ⟨pw, cw, rfl, _⟩ := O2.scVal 2 rfl
  obtain ⟨pp, cp, rfl, _⟩ := O2.scVal 3 rfl
  obtain ⟨pb, cb, rfl, _⟩ := O2.scVal 4 rfl
  obtain ⟨pw', cw', rfl, _⟩ := O2.scVal 6 rfl
  obtain ⟨pp', cp', rfl, _⟩ := O2.scVal 7 rfl
  obtain ⟨pb', cb', rfl, _⟩ := O2.scVal 8 rfl
  rw [← kp, ← kb, hwl] at O2
  replace O2 : Has ro h2 (Ob b3 (.cells [.slice pw' o.ws.length cw', .slice pp' o.ps.length cp', .slice pb' o.bs.length cb'] 1 false) :: Ob b2 (.cells [.slice pw o.ws.length cw, .slice pp o.ps.length cp, .slice pb o.bs.length cb] 1 false) :: Sc 3 wc (.slice pw o.ws.length cw) o.ws :: Sc 10 pc (.slice pp o.ps.length cp) o.ps :: Sc 1 zc (.slice pb o.bs.length cb) o.bs :: Dts o.ws :: Sc 3 wc (.slice pw' o.ws.length cw') p.ws :: Sc 10 pc (.slice pp' o.ps.length cp') o.ps :: Sc 1 zc (.slice pb' o.bs.length cb') o.bs :: Dts p.ws :: R) := O2
  have m3 := O2.get 0 rfl
  have m2 := O2.get 1 rfl
  have hbi : ((o.ps.length : Int) = (o.bs.length : Int)) = True := eq_true (by omega)
  simp only [m2, m3, wkF, ↓reduceIte, reduceCtorEq, Nat.reduceAdd, Nat.reduceLeDiff, Nat.reduceMul, Nat.reduceLT, Nat.reduceEqDiff, wkG, wkH]
  refine Z_is (samerec_h (n := n + 1) (A := o.ws.map toR) (B := p.ws.map toR) (by rw [List.length_map]; omega) (by rw [List.length_map]; omega) hrk (scVw [] h2 (O2.at 2 rfl)) (scVw [] h2 (O2.at 6 rfl)) (fun x hx => ?_) (fun x hx => ?_)) ?_
  · obtain ⟨w, hw, rfl⟩ := List.mem_map.1 hx
    exact Has.dtsVw (O2.at 5 rfl) w hw
  · obtain ⟨w, hw, rfl⟩ := List.mem_map.1 hx
    exact Has.dtsVw (O2.at 9 rfl) w hw
  rintro v h3 e3
  cases e3
  simp only [m2, m3, hbi, wkF, ↓reduceIte, reduceCtorEq, Nat.reduceAdd, Nat.reduceLeDiff, Nat.reduceMul, Nat.reduceLT, Nat.reduceEqDiff, wkG, wkH]
  clear m2 m3
  refine L_is (fun q s => ∃ i : Nat, q = o.ps.length - i ∧ i ≤ o.ps.length ∧ s.defers = [] ∧ s.tmps.length = 88 ∧ s.tmps.getD 2 undefV = .pointer (some ⟨b2, 0, none⟩) ∧ s.tmps.getD 3 undefV = .pointer (some ⟨b3, 0, none⟩) ∧ s.tmps.getD 5 undefV = .int .i64 (i : Int) ∧ Has ro s.h (Ob b3 (.cells [.slice pw' o.ws.length cw', .slice pp' o.ps.length cp', .slice pb' o.bs.length cb'] 1 false) :: Ob b2 (.cells [.slice pw o.ws.length cw, .slice pp o.ps.length cp, .slice pb o.bs.length cb] 1 false) :: Sc 3 wc (.slice pw o.ws.length cw) o.ws :: Sc 10 pc (.slice pp o.ps.length cp) o.ps :: Sc 1 zc (.slice pb o.bs.length cb) o.bs :: Dts o.ws :: Sc 3 wc (.slice pw' o.ws.length cw') p.ws :: Sc 10 pc (.slice pp' o.ps.length cp') o.ps :: Sc 1 zc (.slice pb' o.bs.length cb') o.bs :: Dts p.ws :: R)) o.ps.length ?_ (by omega) ?_
  · exact ⟨0, rfl, Nat.zero_le _, rfl, rfl, rfl, rfl, rfl, O2⟩
  clear O2
  rintro q' tm df h4 ⟨i, hk, hi, hd, hlen_, g2, g3, g5, O4⟩
  simp only at hd g2 g3 g5 O4
  subst hd
  obtain ⟨w, hg_, rfl⟩ := explode hlen_
  simp only [hg_] at g2 g3 g5
  clear hlen_ hg_
  have m3 := O4.get 0 rfl
  have m2 := O4.get 1 rfl
  by_cases h0 : i < o.ps.length
  · have h0' : (i : Int) < (o.ps.length : Int) := by omega
    have h0b : (i : Int) < (o.bs.length : Int) := by omega
    have hi0 : (0 : Int) ≤ (i : Int) := by omega
    have gp : o.ps[i]? = some o.ps[i] := List.getElem?_eq_getElem h0
    have gb : o.bs[i]? = some o.bs[i] := List.getElem?_eq_getElem (by omega)
    generalize o.ps[i] = x at gp
    generalize o.bs[i] = y at gb
    obtain ⟨b4, off4, sp4, c4, hv4, k4, _⟩ := (O4.vw 3 rfl).rd pc_len gp
    obtain ⟨b5, off5, sp5, c5, hv5, k5, _⟩ := (O4.vw 7 rfl).rd pc_len gp
    have e4 : pp = some ⟨b4, off4, sp4⟩ := by injection hv4
    have e5 : pp' = some ⟨b5, off5, sp5⟩ := by injection hv5
    subst e4 e5
    have r40 := k4 0 1 (by decide)
    have r41 := k4 1 9 (by decide)
    have r50 := k5 0 1 (by decide)
    have r51 := k5 1 9 (by decide)
    rw [Nat.add_zero] at r40 r50
    have q0 : readN (pc x) 0 1 = some [.int .i64 x.to] := rfl
    have q1 : readN (pc x) 1 9 = some (mc x) := rfl
    rw [q0] at r40 r50
    rw [q1] at r41 r51
    have yi : IntKind.i64.wrap ((i : Int) + 1) = ((i + 1 : Nat) : Int) := by rw [wrap_i64 (by omega) (by omega)]; omega
    simp only [g2, g3, g5, m2, m3, h0', wkF, ↓reduceIte, reduceCtorEq, Nat.reduceAdd, Nat.reduceLeDiff, Nat.reduceMul, Nat.reduceLT, Nat.reduceEqDiff, wkG, wkH]
    refine X_drawn _ fun an => ?_
    simp (maxSteps := 4000000) only [g2, g3, g5, m2, m3, h0', hi0, Int.toNat_natCast, r40, r41, r50, r51, wkF, ↓reduceIte, reduceCtorEq, Nat.reduceAdd, Nat.reduceLeDiff, Nat.reduceMul, Nat.reduceLT, Nat.reduceEqDiff, wkG, wkH]
    refine DB_is (same29_h (n := n + 1) x (by omega) O4) ?_
    rintro v h5 ⟨rfl, O5⟩
    simp only at O5
    have m3 := O5.get 0 rfl
    have m2 := O5.get 1 rfl
    obtain ⟨b6, off6, sp6, c6, hv6, k6, _⟩ := (O5.vw 4 rfl).rd zc_len' gb
    obtain ⟨b7, off7, sp7, c7, hv7, k7, _⟩ := (O5.vw 8 rfl).rd zc_len' gb
    have e6 : pb = some ⟨b6, off6, sp6⟩ := by injection hv6
    have e7 : pb' = some ⟨b7, off7, sp7⟩ := by injection hv7
    subst e6 e7
    have r60 := k6 0 1 (by decide)
    have r70 := k7 0 1 (by decide)
    have q2 : readN (zc y) 0 1 = some [.int .i64 y] := rfl
    rw [Nat.add_zero, q2, Nat.mul_one] at r60 r70
    simp (maxSteps := 4000000) only [g2, g3, g5, m2, m3, h0b, hi0, Int.toNat_natCast, Nat.mul_one, r60, r70, yi, wkF, ↓reduceIte, reduceCtorEq, Nat.reduceAdd, Nat.reduceLeDiff, Nat.reduceMul, Nat.reduceLT, Nat.reduceEqDiff, wkG, wkH]
    exact Is_in ⟨o.ps.length - (i + 1), sub_lt2 hk h0, i + 1, rfl, h0, rfl, rfl, rfl, rfl, rfl, O5⟩
  · have h0' : ¬ (i : Int) < (o.ps.length : Int) := by omega
    simp only [g2, g3, g5, m2, m3, h0', wkF, ↓reduceIte, reduceCtorEq, Nat.reduceAdd, Nat.reduceLeDiff, Nat.reduceMul, Nat.reduceLT, Nat.reduceEqDiff, wkG, wkH]
    refine Is_in ?_
    simp only [g2, g3, g5, wkF, ↓reduceIte, reduceCtorEq, Nat.reduceAdd, wkG, wkH]
    exact leaf1 ⟨rfl, ((((((((((O4.drop).drop).drop).drop).drop).drop).drop).drop).drop).drop)⟩
end
def InOrd (l : List It) : Prop := l.Pairwise le
theorem nth_el {l : List It} {i : Nat} (h : i < l.length) : nth l i = l[i] := by
  have := nth_get h
  rw [List.getElem?_eq_getElem h] at this
  exact (Option.some.inj this).symm
theorem sorted_order {l : List It} : Sorted l 0 l.length ↔ InOrd l := by
  unfold Sorted InOrd
  rw [List.pairwise_iff_getElem]
  constructor
  · intro h i j hi hj hij
    rw [← nth_el hi, ← nth_el hj]
    exact h i j (by omega) hij hj
  · intro h i j _ hij hj
    rw [nth_el (by omega), nth_el hj]
    exact h i j (by omega) hj hij
theorem apart_perm {a b : List It} (p : a.Perm b) (h : Apt a) : Apt b := (p.pairwise_iff (fun h => Ne.symm h)).1 h
theorem erase_perm : ∀ {l : List It} {i : Nat}, i < l.length → l.Perm (nth l i :: l.eraseIdx i)
  | [], i, h => by simp at h
  | a :: l, 0, h => List.Perm.refl _
  | a :: l, i + 1, h => ((erase_perm (l := l) (i := i) (by simpa using h)).cons a).trans (List.Perm.swap _ _ _)
theorem set_perm : ∀ {l : List It} {i : Nat}, i < l.length → ∀ (w : It), (l.set i w).Perm (w :: l.eraseIdx i)
  | [], i, h, w => by simp at h
  | a :: l, 0, h, w => List.Perm.refl _
  | a :: l, i + 1, h, w => ((set_perm (l := l) (i := i) (by simpa using h) w).cons a).trans (List.Perm.swap _ _ _)
theorem nth_in {l : List It} {i : Nat} (h : i < l.length) : nth l i ∈ l := List.mem_of_getElem? (nth_get h)
theorem once_apt {l : List It} (h : Once l) : Apt l := by
  unfold Once List.Nodup at h
  rw [List.pairwise_map] at h
  exact h
theorem cutF_none {l : List It} {r : Int} (h : IsPlace l r (-1)) : cutF l r = l := by
  rcases h with ⟨_, h⟩ | ⟨i, h, _⟩
  · refine List.filter_eq_self.2 fun y hy => decide_eq_true ?_
    obtain ⟨j, hj, rfl⟩ := List.getElem_of_mem hy
    rw [← nth_el hj]
    exact h j hj
  · omega
theorem cutF_at : ∀ {l : List It} {r : Int} {i : Nat}, Apt l → i < l.length → (nth l i).r = r → cutF l r = l.eraseIdx i
  | [], r, i, _, h, _ => by simp at h
  | a :: l, r, 0, ha, _, e => by
    have e' : a.r = r := e
    subst e'
    exact cutF_head ha
  | a :: l, r, i + 1, ha, h, e => by
    have e' : (nth l i).r = r := e
    have hi : i < l.length := by simpa using h
    have h1 := List.pairwise_cons.1 ha
    have hne : a.r ≠ r := by rw [← e']; exact h1.1 _ (nth_in hi)
    have ih := cutF_at h1.2 hi e'
    unfold cutF at ih ⊢
    rw [List.filter_cons_of_pos (by simpa using hne), ih]
    rfl
theorem cutis_F {l l' : List It} {r : Int} {a : Bool} (ha : Apt l) (h : CutIs l r a l') : l' = cutF l r := by
  rcases h with ⟨_, p, rfl⟩ | ⟨_, i, p, hi, rfl⟩
  · exact (cutF_none p).symm
  · rcases p with ⟨e, _⟩ | ⟨j, e, _, hr, _⟩
    · omega
    · have : j = i := by omega
      subst this
      exact (cutF_at ha hi hr).symm
theorem ahd_le {x y : It} (h : ahd x y) : le x y := by
  unfold le
  by_cases h1 : x.p = y.p
  · by_cases h2 : x.s = y.s
    · have := (ahd_3 h1 h2).1 h; omega
    · have := (ahd_2 h1 h2).1 h; omega
  · have := (ahd_1 h1).1 h; omega
theorem nahd_le {x y : It} (h : ¬ ahd x y) : le y x := by
  unfold le
  by_cases h1 : x.p = y.p
  · by_cases h2 : x.s = y.s
    · have := Int.not_lt.1 fun k => h ((ahd_3 h1 h2).2 k); omega
    · have := Int.not_lt.1 fun k => h ((ahd_2 h1 h2).2 k); omega
  · have := Int.not_lt.1 fun k => h ((ahd_1 h1).2 k); omega
theorem le_tr {x y z : It} (h : le x y) (k : le y z) : le x z := by unfold le at *; omega
def insR (x : It) : List It → List It
  | [] => [x]
  | y :: L => if ahd x y then x :: y :: L else y :: insR x L
theorem ins_true (x : It) : ∀ (L acc : List It), L.foldl (gput x) (acc, true) = (acc ++ L, true)
  | [], acc => by rw [List.append_nil]; rfl
  | y :: L, acc => by
    rw [List.foldl_cons]
    have : gput x (acc, true) y = (acc ++ [y], true) := if_neg (fun h => by cases h.1)
    rw [this, ins_true x L, List.append_assoc]
    rfl
theorem ins_false (x : It) : ∀ (L acc : List It), (if (L.foldl (gput x) (acc, false)).2 then (L.foldl (gput x) (acc, false)).1 else (L.foldl (gput x) (acc, false)).1 ++ [x]) = acc ++ insR x L
  | [], acc => rfl
  | y :: L, acc => by
    rw [List.foldl_cons]
    by_cases h : ahd x y
    · have : gput x (acc, false) y = (acc ++ [x] ++ [y], true) := if_pos ⟨rfl, h⟩
      rw [this, ins_true, if_pos rfl]
      unfold insR
      rw [if_pos h, List.append_assoc, List.append_assoc]
      rfl
    · have : gput x (acc, false) y = (acc ++ [y], false) := if_neg (fun k => h k.2)
      rw [this, ins_false x L, List.append_assoc]
      show _ = acc ++ (if ahd x y then x :: y :: L else y :: insR x L)
      rw [if_neg h]
      rfl
theorem insX_R (x : It) (L : List It) : insX x L = insR x L := ins_false x L []
theorem insR_perm (x : It) : ∀ L, (insR x L).Perm (x :: L)
  | [] => List.Perm.refl _
  | y :: L => by
    unfold insR
    split
    · exact List.Perm.refl _
    · exact ((insR_perm x L).cons y).trans (List.Perm.swap _ _ _)
theorem insR_ord (x : It) : ∀ {L}, InOrd L → InOrd (insR x L)
  | [], _ => List.pairwise_singleton _ _
  | y :: L, h => by
    have h1 := List.pairwise_cons.1 h
    unfold insR
    split
    · rename_i hx
      have hx' := ahd_le hx
      refine List.pairwise_cons.2 ⟨fun z hz => ?_, h⟩
      rcases List.mem_cons.1 hz with rfl | hz
      · exact hx'
      · exact le_tr hx' (h1.1 z hz)
    · rename_i hx
      refine List.pairwise_cons.2 ⟨fun z hz => ?_, insR_ord x h1.2⟩
      rcases List.mem_cons.1 ((insR_perm x L).mem_iff.1 hz) with rfl | hz
      · exact nahd_le hx
      · exact h1.1 z hz
theorem put_doc {l l' : List It} {x : It} {a : Bool} {er : Int} (ha : Apt l) (ho : InOrd l) (h8 : l.length ≤ 8) (hb : ¬ BadW x) (h : PutIs l x a er l') :
    (a = false ∧ ¬ Hold l x ∧ 8 ≤ (cutF l x.r).length ∧ l' = l) ∨
      (a = true ∧ InOrd l' ∧ ((Hold l x ∧ l' = l) ∨ (¬ Hold l x ∧ (cutF l x.r).length < 8 ∧ l' = insX x (cutF l x.r)))) := by
  have hno : IsPlace l x.r (-1) → ¬ Hold l x := by
    rintro (⟨_, k⟩ | ⟨i, e, _⟩) ⟨y, hy, hr, _⟩
    · obtain ⟨j, hj, rfl⟩ := List.getElem_of_mem hy
      exact k j hj (by rw [nth_el hj]; exact hr)
    · omega
  rcases h with ⟨b, _⟩ | ⟨_, p, h8', rfl, _, rfl⟩ | ⟨_, rfl, _, l2, pt, q1, q2, q3⟩
  · exact absurd b hb
  · exact Or.inl ⟨rfl, hno p, by rw [cutF_none p]; exact h8', rfl⟩
  · refine Or.inr ⟨rfl, sorted_order.1 q3, ?_⟩
    have uq : ∀ {m : List It}, InOrd m → m.Perm l2 → l' = m := fun hm hp => sorted_uniq q3 (sorted_order.2 hm) fun y => by rw [q2, hp.count_eq]
    have hins : ∀ {L : List It}, InOrd L → InOrd (insX x L) := fun h => by rw [insX_R]; exact insR_ord x h
    have hprm : ∀ (L : List It), (insX x L).Perm (x :: L) := fun L => by rw [insX_R]; exact insR_perm x L
    rcases pt with ⟨p, hl, rfl⟩ | ⟨i, p, hi, ⟨hp, rfl⟩ | ⟨hp, el⟩⟩
    · rw [cutF_none p]
      refine Or.inr ⟨hno p, hl, uq (hins ho) ((hprm l).trans ?_)⟩
      exact (List.perm_append_comm (l₁ := [x]) (l₂ := l))
    · have hr : (nth l i).r = x.r := by
        rcases p with ⟨e, _⟩ | ⟨j, e, _, hr, _⟩
        · omega
        · have : j = i := by omega
          subst this
          exact hr
      have hc := cutF_at ha hi hr
      have hlen : (l.eraseIdx i).length + 1 = l.length := by rw [List.length_eraseIdx, if_pos hi]; omega
      refine Or.inr ⟨?_, by rw [hc]; omega, ?_⟩
      · rintro ⟨y, hy, hyr, hyp⟩
        rcases List.mem_cons.1 ((erase_perm hi).mem_iff.1 hy) with rfl | hy
        · omega
        · have h1 := List.pairwise_cons.1 (apart_perm (erase_perm hi) ha)
          exact h1.1 y hy (by rw [hr, hyr])
      · rw [hc]
        exact uq (hins (ho.sublist (List.eraseIdx_sublist _ _))) ((hprm _).trans (set_perm hi x).symm)
    · have el' := el.symm
      subst el'
      refine Or.inl ⟨⟨nth l i, nth_in hi, ?_, by omega⟩, uq ho (List.Perm.refl _)⟩
      rcases p with ⟨e, _⟩ | ⟨j, e, _, hr, _⟩
      · omega
      · have : j = i := by omega
        subst this
        exact hr
structure Sim (S : Ls) (F : Rf) : Prop where
  v : Nv S
  g : Gi S
  so : ∀ c, InOrd (S.W c)
  wi : ∀ c, S.W c ≠ [] → S.Is c
  hh : F.home = S.home
  hr : (F.rob : Int) = S.rob
  hC : (F.C : Int) = S.cells
  e : ∀ c : Nat, F.E c = S.E (c : Int)
  q : ∀ c : Nat, F.W c = S.W (c : Int)
  t : ∀ r : Nat, r < F.rob → F.T r = if 0 < S.T (r : Int) then 1 else 0
theorem eo_range {S : Ls} (v : Nv S) (c : Int) : -1 ≤ (S.E c).o ∧ (S.E c).o < S.rob := by
  have hr := v.w.z.r1
  unfold Ls.E
  cases h : lk S.ents c with
  | none => exact ⟨Int.le_refl _, by show (-1 : Int) < S.rob; omega⟩
  | some e => exact (v.e c e h).2.2
theorem eo_not {S : Ls} (v : Nv S) {c : Int} (h : ¬ S.Is c) : S.E c = e0 := by
  unfold Ls.E
  cases hl : lk S.ents c with
  | none => rfl
  | some e => exact absurd (v.e c e hl).2.1 h
theorem sim_rw {S : Ls} {F : Rf} (m : Sim S F) : Rw F := by
  have z := m.v.w.z
  have h1 := m.hr
  have h2 := m.hC
  have z1 := z.r1
  have z2 := z.r2
  have z3 := z.c1
  have z4 := z.c2
  refine ⟨⟨by omega, by omega, by omega, by omega, fun c => ?_, fun c => ?_, fun c => ?_⟩, fun c => ?_, fun c w hw => ?_⟩
  · rw [m.e]; exact m.v.w.g c
  · rw [m.e, m.hr]; exact eo_range m.v c
  · rw [m.q]; exact m.v.w.w8 c
  · rw [m.q]; exact once_apt (m.g.c c).o
  · rw [m.q] at hw
    have := m.v.q c w hw
    omega
theorem sim_is {S : Ls} {F : Rf} (m : Sim S F) (c : Int) : F.Is c ↔ S.Is c := by
  unfold Rf.Is Ls.Is
  have z1 := m.v.w.z.r1
  rw [m.hC, m.hr, m.hh]
  exact ⟨fun h => ⟨by omega, h⟩, fun h => h.2⟩
theorem sim_rob {S : Ls} {F : Rf} (m : Sim S F) (r : Int) : F.Rob r ↔ S.Rob r := by
  unfold Rf.Rob Ls.Rob
  have z1 := m.v.w.z.r1
  rw [m.hr]
  exact ⟨fun h => ⟨by omega, h⟩, fun h => h.2⟩
theorem sim_put {S S' : Ls} {F : Rf} (m : Sim S F) {k : Nat} {e : En} {l : List It} (hv : Nv S') (hg : Gi S') (hl : InOrd l) (hi : l ≠ [] → S.Is (k : Int)) (hs : S.Same S') (hE : ∀ x, S'.E x = if x = (k : Int) then e else S.E x) (hW : ∀ x, S'.W x = if x = (k : Int) then l else S.W x) (hT : ∀ x, S'.T x = S.T x) : Sim S' (F.put k e l) := by
  refine ⟨hv, hg, fun c => ?_, fun c hc => ?_, m.hh.trans hs.1.symm, m.hr.trans hs.2.1.symm, m.hC.trans hs.2.2.symm, fun c => ?_, fun c => ?_, fun r hr => ?_⟩
  · rw [hW]
    split
    · exact hl
    · exact m.so c
  · rw [is_eq hs]
    rw [hW] at hc
    split at hc
    · rename_i e
      rw [e]
      exact hi hc
    · exact m.wi c hc
  · show (if c = k then e else F.E c) = _
    rw [hE]
    by_cases h : c = k
    · rw [if_pos h, if_pos (by omega)]
    · rw [if_neg h, if_neg (by omega), m.e]
  · show (if c = k then l else F.W c) = _
    rw [hW]
    by_cases h : c = k
    · rw [if_pos h, if_pos (by omega)]
    · rw [if_neg h, if_neg (by omega), m.q]
  · rw [hT]
    exact m.t r hr
theorem put_self (F : Rf) (k : Nat) : F.put k (F.E k) (F.W k) = F := by
  unfold Rf.put
  have h1 : (fun x => if x = k then F.E k else F.E x) = F.E := by
    funext x
    split
    · rename_i e; rw [e]
    · rfl
  have h2 : (fun x => if x = k then F.W k else F.W x) = F.W := by
    funext x
    split
    · rename_i e; rw [e]
    · rfl
  rw [h1, h2]
theorem Ou.Like.refl (o : Ou) : o.Like o := ⟨rfl, rfl, rfl⟩
theorem Ou.Like.len {o p : Ou} (l : o.Like p) : o.ws.length = p.ws.length := by have := congrArg List.length l.ew; simpa using this
theorem like_wr {o p : Ou} (l : o.Like p) (c : Int) (e : En) (d d2 : Option Nat) : (o.wr c e d).Like (p.wr c e d2) := by
  refine ⟨?_, l.ep, l.eb⟩
  show (o.ws ++ [_]).map keyW = (p.ws ++ [_]).map keyW
  rw [List.map_append, List.map_append, l.ew]
  rfl
theorem like_post {o p : Ou} (l : o.Like p) (m : Po) : (o.post m).Like (p.post m) := by
  refine ⟨l.ew, ?_, ?_⟩
  · show o.ps ++ [m] = p.ps ++ [m]
    rw [l.ep]
  · show o.bs ++ [(o.ws.length : Int)] = p.bs ++ [(p.ws.length : Int)]
    rw [l.eb, l.len]
theorem like_denies (c : Int) : ∀ (W : List It) {o p : Ou}, o.Like p → (o.denies c W).Like (p.denies c W)
  | [], o, p, l => l
  | w :: W, o, p, l => like_denies c W (like_post l (dny w c (-1)))
theorem sim_free {S S' : Ls} {F F' : Rf} {o o' p p' : Ou} {k : Nat} (m : Sim S F) (hi : S.Is (k : Int)) (l : o.Like p) (h : FreeTo S o (k : Int) S' o') (j : RFree F p k F' p') : o'.Like p' ∧ Sim S' F' ∧ S.Same S' := by
  have hv := (nv_free m.v hi h).1
  have hg := (gi_free m.g h).1
  have hs := (free_wf m.v.w h).2
  have hso := m.so (k : Int)
  obtain ⟨d2, j⟩ := j
  rw [m.e, m.q] at j
  obtain ⟨d, ⟨hm, rfl, rfl⟩ | ⟨hm, hW, rfl, rfl⟩ | ⟨hm, w, rest, d3, hW, rfl, rfl⟩⟩ := h
  · rcases j with ⟨_, rfl, rfl⟩ | ⟨hm2, _⟩ | ⟨hm2, _⟩
    · refine ⟨like_denies _ _ (like_wr l _ _ _ _), sim_put m hv hg List.Pairwise.nil (fun h => absurd rfl h) hs (fun x => ?_) (fun x => rfl) (fun x => rfl), hs⟩
      rw [E_setW, E_set]
    · exact absurd hm hm2
    · exact absurd hm hm2
  · rcases j with ⟨hm2, _⟩ | ⟨_, _, rfl, rfl⟩ | ⟨_, w2, rest2, _, hW2, _⟩
    · exact absurd hm2 hm
    · refine ⟨like_wr l _ _ _ _, sim_put m hv hg List.Pairwise.nil (fun h => absurd rfl h) hs (fun x => ?_) (fun x => ?_) (fun x => rfl), hs⟩
      · rw [E_set]
      · show S.W x = _
        split
        · rename_i e; rw [e]; exact hW
        · rfl
    · rw [hW] at hW2; cases hW2
  · rcases j with ⟨hm2, _⟩ | ⟨_, hW2, _⟩ | ⟨_, w2, rest2, d4, hW2, rfl, rfl⟩
    · exact absurd hm2 hm
    · rw [hW] at hW2; cases hW2
    · rw [hW] at hW2
      obtain ⟨rfl, rfl⟩ := List.cons.inj hW2
      rw [hW] at hso
      refine ⟨like_post (like_wr (like_wr l _ _ _ _) _ _ _ _) _, sim_put m hv hg (List.pairwise_cons.1 hso).2 (fun _ => hi) hs (fun x => ?_) (fun x => rfl) (fun x => rfl), hs⟩
      rw [E_set, E_setW, E_set]
      split
      · rfl
      · rfl
theorem gn_cut {S : Ls} {F : Rf} (m : Sim S F) {r : Int} {W0 : Int → List It} (h : Gn S r S.N W0) (c : Int) : W0 c = cutF (S.W c) r := by
  by_cases hc : S.Is c
  · obtain ⟨i, hi⟩ := is_at m.v.w.z hc
    have hN : i < S.N := (lt_N m.v.w.z i).2 (by rw [← hi]; exact hc.2.2.1)
    obtain ⟨a, k⟩ := h.on i hN
    rw [hi]
    exact cutis_F (once_apt (m.g.c _).o) k
  · have hW : S.W c = [] := Classical.byContradiction fun hn => hc (m.wi c hn)
    rw [h.off c fun i hi e => hc (by rw [e]; exact at_is m.v.w.z hi), hW]
    rfl
theorem sim_cut {S : Ls} {F : Rf} (m : Sim S F) {r : Int} {W0 : Int → List It} (h : Gn S r S.N W0) : Sim { S with W := W0 } (F.cutAll r F.C) := by
  have hc := gn_cut m h
  refine ⟨nv_gone m.v h, gi_gone m.g h, fun c => ?_, fun c hn => ?_, m.hh, m.hr, m.hC, m.e, fun c => ?_, m.t⟩
  · show InOrd (W0 c)
    rw [hc]
    exact (m.so c).sublist (cutF_sub _ _)
  · have hn' : W0 c ≠ [] := hn
    rw [hc] at hn'
    exact m.wi c fun e => hn' (by rw [e]; rfl)
  · show (if c < F.C then cutF (F.W c) r else F.W c) = W0 (c : Int)
    rw [hc, m.q]
    split
    · rfl
    · have : S.W (c : Int) = [] := Classical.byContradiction fun hn => by
        have h1 := (m.wi _ hn).2.2.1
        have h2 := m.hC
        omega
      rw [this]
      rfl
theorem T_upd2 (S : Ls) (r x v : Int) : ({ S with told := upd1 S.told r v } : Ls).T x = if x = r then v else S.T x := by
  unfold Ls.T
  show (lk (upd1 S.told r v) x).getD 0 = _
  rw [lk_upd]
  split <;> rfl
theorem sim_tell {S : Ls} {F : Rf} (m : Sim S F) (r : Nat) {v : Int} (hv : v = if 0 < v then 1 else 0) : Sim { S with told := upd1 S.told (r : Int) v } (F.tell r v) := by
  refine ⟨nv_told m.v _, gi_told m.g _, m.so, m.wi, m.hh, m.hr, m.hC, m.e, m.q, fun x hx => ?_⟩
  rw [T_upd2]
  show (if x = r then v else F.T x) = _
  by_cases h : x = r
  · have h' : (x : Int) = (r : Int) := by omega
    rw [if_pos h, if_pos h']
    exact hv
  · have h' : ¬ (x : Int) = (r : Int) := by omega
    rw [if_neg h, if_neg h']
    exact m.t x hx
theorem at_lt' {S : Ls} (z : Sz S) {i j : Nat} : S.at i < S.at j ↔ i < j := by
  unfold Ls.at
  have h1 := z.r1
  constructor
  · intro h
    rcases Nat.lt_or_ge i j with k | k
    · exact k
    · have : (j : Int) * S.rob ≤ (i : Int) * S.rob := Int.mul_le_mul_of_nonneg_right (by omega) (by omega)
      omega
  · intro h
    have : ((i : Int) + 1) * S.rob ≤ (j : Int) * S.rob := Int.mul_le_mul_of_nonneg_right (by omega) (by omega)
    rw [Int.add_mul, Int.one_mul] at this
    omega
theorem sim_stto {S0 : Ls} {F0 : Rf} {r : Int} {L : List En} (m0 : Sim S0 F0) (hr : 0 ≤ r) : ∀ {k : Nat} {F' : Rf} {p' : Ou} {mm : Nat} {S' : Ls} {o' : Ou}, k ≤ F0.C → (∀ i, i < mm ↔ S0.at i < (k : Int)) → StTo S0 r L mm S' o' → RStTo F0 r L k F' p' → o'.Like p' ∧ Sim S' F' ∧ S0.Same S'
  | 0, F', p', mm, S', o', _, hm, h, j => by
    have : mm = 0 := by
      rcases Nat.eq_zero_or_pos mm with e | e
      · exact e
      · have h1 := (hm 0).1 e
        have h2 := (at_pos m0.v.w.z 0).1
        omega
    subst this
    obtain ⟨rfl, rfl⟩ := h
    obtain ⟨rfl, rfl⟩ := j
    exact ⟨Ou.Like.refl _, m0, Ls.Same.refl _⟩
  | k + 1, F', p', mm, S', o', hkC, hm, h, ⟨F1, p1, hF, st⟩ => by
    have z := m0.v.w.z
    by_cases hi : S0.Is (k : Int)
    · obtain ⟨j, hj⟩ := is_at z hi
      have e1 : mm = j + 1 := by
        have h1 := (hm j).2 (by rw [← hj]; omega)
        rcases Nat.lt_or_ge (j + 1) mm with h2 | h2
        · have h3 := (hm (j + 1)).1 h2
          have h4 := (at_lt' z (i := j) (j := j + 1)).2 (by omega)
          omega
        · omega
      subst e1
      obtain ⟨S1, o1, hS, st'⟩ := h
      obtain ⟨l1, m1, s1⟩ := sim_stto m0 hr (by omega) (fun i => by rw [hj]; exact (at_lt' z).symm) hS hF
      rw [← hj] at st'
      rw [m1.e] at st
      have hi1 := (is_eq s1 (k : Int)).2 hi
      rcases st with ⟨c1, f1⟩ | ⟨c1, rfl, rfl⟩ <;> rcases st' with ⟨c2, f2⟩ | ⟨c2, rfl, rfl⟩
      · obtain ⟨l2, m2, s2⟩ := sim_free m1 hi1 l1 f2 f1
        exact ⟨l2, m2, s1.trans s2⟩
      · exact absurd c1 c2
      · exact absurd c2 c1
      · exact ⟨l1, m1, s1⟩
    · have hC := m0.hC
      have hne : ∀ i, S0.at i ≠ (k : Int) := fun i e => hi (by rw [← e]; exact at_is z ((lt_N z i).2 (by rw [e]; omega)))
      obtain ⟨l1, m1, s1⟩ := sim_stto m0 hr (mm := mm) (by omega) (fun i => by
        have h1 := hne i
        have h2 := hm i
        rw [h2]
        omega) h hF
      have he := eo_not m1.v (fun h => hi ((is_eq s1 (k : Int)).1 h))
      rw [m1.e, he] at st
      rcases st with ⟨⟨c1, _⟩, _⟩ | ⟨_, rfl, rfl⟩
      · have c1' : (-1 : Int) = r := c1
        omega
      · exact ⟨l1, m1, s1⟩
theorem sim_rel {S S' : Ls} {F F' : Rf} {r c g e f : Int} {o' p' : Ou} (m : Sim S F) (h : RelIs S r c g e S' o') (j : RRel F r c g f F' p') : e = f ∧ o'.Like p' ∧ Sim S' F' := by
  unfold RRel at j
  rw [sim_rob m, sim_is m] at j
  rcases h with ⟨n1, rfl, rfl, rfl⟩ | ⟨n1, rfl, n2, h⟩ | ⟨n1, rfl, n2, rfl, rfl⟩ <;> rcases j with ⟨k1, rfl, rfl, rfl⟩ | ⟨k1, rfl, k2, j⟩ | ⟨k1, rfl, k2, rfl, rfl⟩
  · exact ⟨rfl, Ou.Like.refl _, m⟩
  · exact absurd k1 n1
  · exact absurd k1 n1
  · exact absurd n1 k1
  · obtain ⟨k, rfl⟩ : ∃ k : Nat, c = (k : Int) := ⟨c.toNat, by have := n1.2.2.1; omega⟩
    obtain ⟨l, m', _⟩ := sim_free m n1.2 (Ou.Like.refl oz) h j
    exact ⟨rfl, l, m'⟩
  · obtain ⟨k, rfl⟩ : ∃ k : Nat, c = (k : Int) := ⟨c.toNat, by have := n1.2.2.1; omega⟩
    rw [m.e] at k2
    exact absurd n2 k2
  · exact absurd n1 k1
  · obtain ⟨k, rfl⟩ : ∃ k : Nat, c = (k : Int) := ⟨c.toNat, by have := n1.2.2.1; omega⟩
    rw [m.e] at k2
    exact absurd k2 n2
  · exact ⟨rfl, Ou.Like.refl _, m⟩
theorem sim_stat {S S' : Ls} {F F' : Rf} {r e f : Int} {L : List En} {o' p' : Ou} (m : Sim S F) (h : StatIs S r L e S' o') (j : RStat F r L f F' p') : e = f ∧ o'.Like p' ∧ Sim S' F' := by
  unfold RStat at j
  rw [sim_rob m] at j
  rcases h with ⟨n1, rfl, rfl, rfl⟩ | ⟨n1, rfl, W0, Sk, hg, hs, rfl⟩ <;> rcases j with ⟨k1, rfl, rfl, rfl⟩ | ⟨k1, rfl, F1, hf, rfl⟩
  · exact ⟨rfl, Ou.Like.refl _, m⟩
  · exact absurd k1 n1
  · exact absurd n1 k1
  · have mc := sim_cut m hg
    obtain ⟨l, m1, s1⟩ := sim_stto mc n1.2.1 (k := F.C) (mm := S.N) (Nat.le_refl _) (fun i => by
      rw [m.hC]
      exact lt_N m.v.w.z i) hs hf
    have ht := sim_tell m1 r.toNat (v := 1) (by decide)
    have e1 : ((r.toNat : Nat) : Int) = r := Int.toNat_of_nonneg n1.2.1
    rw [e1] at ht
    exact ⟨rfl, l, ht⟩
theorem sim_ren {S S' : Ls} {F F' : Rf} {r : Int} (m : Sim S F) (h : RenIs S r S') (j : RRen F r F') : Sim S' F' := by
  unfold RRen at j
  rw [sim_rob m, m.hh] at j
  rcases h with ⟨n1, rfl⟩ | ⟨n1, W, hg, rfl⟩
  · rcases j with ⟨_, rfl⟩ | ⟨k1, _⟩ | ⟨k1, _⟩
    · exact m
    · exact absurd k1 n1
    · exact absurd k1 n1
  · have mc := sim_cut m hg
    rcases j with ⟨k1, _⟩ | ⟨_, hh, rfl⟩ | ⟨_, hh, rfl⟩
    · exact absurd n1 k1
    · rw [if_pos hh]
      exact mc
    · rw [if_neg hh]
      have ht := sim_tell mc r.toNat (v := 0) (by decide)
      have e1 : ((r.toNat : Nat) : Int) = r := Int.toNat_of_nonneg n1.2.1
      rw [e1] at ht
      exact ht
def PLike (rv rv' : Value) (D D' : Rs) : Prop := (rv = .agg #[.int .i64 0, .int .i64 0, .slice none 0 0] ∧ D = Rs.emp ∧ rv' = .agg #[.int .i64 0, .int .i64 0, .slice none 0 0] ∧ D' = Rs.emp) ∨
  ∃ c r d d', rv = .agg (wc ⟨c, ⟨r, 1⟩, d⟩).toArray ∧ D = Dt d ⟨r, 1⟩ ∧ rv' = .agg (wc ⟨c, ⟨r, 1⟩, d'⟩).toArray ∧ D' = Dt d' ⟨r, 1⟩
theorem sim_pla {S S' : Ls} {F F' : Rf} {c r e f : Int} {rv rv' : Value} {D D' : Rs} (m : Sim S F) (h : PlaIs S c r e S' rv D) (j : RPla F c r f F' rv' D') : e = f ∧ PLike rv rv' D D' ∧ Sim S' F' := by
  have w : Nv S' := by
    rcases stw_pla m.v h with ⟨_, _, k⟩ | ⟨_, _, _, _, k⟩
    · exact k.1
    · exact k.1
  have st := stp_pla m.g h
  unfold RPla at j
  rw [sim_rob m, sim_is m] at j
  rcases h with ⟨n1, rfl, rfl, rfl, rfl⟩ | ⟨n1, n2, rfl, rfl, rfl, rfl⟩ | ⟨n1, n2, rfl, rfl, d, rfl, rfl⟩ <;> rcases j with ⟨k1, rfl, rfl, rfl, rfl⟩ | ⟨k1, k2, rfl, rfl, rfl, rfl⟩ | ⟨k1, k2, rfl, rfl, d', rfl, rfl⟩
  · exact ⟨rfl, Or.inl ⟨rfl, rfl, rfl, rfl⟩, m⟩
  · exact absurd k1 n1
  · exact absurd k1 n1
  · exact absurd n1 k1
  · exact ⟨rfl, Or.inl ⟨rfl, rfl, rfl, rfl⟩, m⟩
  · obtain ⟨k, rfl⟩ : ∃ k : Nat, c = (k : Int) := ⟨c.toNat, by have := n1.1.2.1; omega⟩
    rw [m.e] at k2
    exact absurd k2 n2
  · exact absurd n1 k1
  · obtain ⟨k, rfl⟩ : ∃ k : Nat, c = (k : Int) := ⟨c.toNat, by have := n1.1.2.1; omega⟩
    rw [m.e] at k2
    exact absurd n2 k2
  · obtain ⟨k, rfl⟩ : ∃ k : Nat, c = (k : Int) := ⟨c.toNat, by have := n1.1.2.1; omega⟩
    refine ⟨rfl, Or.inr ⟨_, _, d, d', rfl, rfl, rfl, rfl⟩, ?_⟩
    have hq := m.q k
    have hq2 : F.W (Int.toNat (k : Int)) = S.W (k : Int) := hq
    rw [hq2]
    refine sim_put m w st.1 (m.so _) (m.wi _) st.2.1 (fun x => E_set _ _ _ _) (fun x => ?_) (fun x => rfl)
    show S.W x = _
    split
    · rename_i e; rw [e]; rfl
    · rfl
theorem sim_fine {S : Ls} {F : Rf} (m : Sim S F) (r c p : Int) : F.Fine r c p ↔ S.Fine r c p := by
  unfold Rf.Fine Ls.Fine
  rw [sim_rob m, sim_is m]
theorem sim_req {S S' : Ls} {F F' : Rf} {w : It} {c e f : Int} {o' p' : Ou} (m : Sim S F) (h : ReqIs S w c e S' o') (j : RReq F w c f F' p') : e = f ∧ o'.Like p' ∧ Sim S' F' := by
  have hv := (stw_req m.v h).1
  have st := stp_req m.g h
  unfold RReq at j
  rw [sim_fine m] at j
  have ht : S.Fine w.r c w.p → (F.T w.r.toNat = 0 ↔ ¬ 0 < S.T w.r) := by
    intro hf
    have h1 := m.t w.r.toNat (by have := hf.1.2.2; have := hf.1.2.1; have := m.hr; omega)
    rw [Int.toNat_of_nonneg hf.1.2.1] at h1
    rw [h1]
    split <;> simp [*]
  rcases h with ⟨n1, rfl, rfl, rfl⟩ | ⟨n1, n2, rfl, rfl, rfl⟩ | ⟨n1, n2, rfl, h⟩ <;> rcases j with ⟨k1, rfl, rfl, rfl⟩ | ⟨k1, k2, rfl, rfl, rfl⟩ | ⟨k1, k2, rfl, j⟩
  · exact ⟨rfl, Ou.Like.refl _, m⟩
  · exact absurd k1 n1
  · exact absurd k1 n1
  · exact absurd n1 k1
  · exact ⟨rfl, Ou.Like.refl _, m⟩
  · exact absurd ((ht n1).2 n2) k2
  · exact absurd n1 k1
  · exact absurd n2 ((ht n1).1 k2)
  · have ha := once_apt (m.g.c c).o
    have hso := m.so c
    have h8 := m.v.w.w8 c
    have hi := n1.2.1
    have hbad : ¬ BadW w := by
      have h1 := n1.1.2
      have h2 := n1.2.2
      have h3 := m.v.w.z.r2
      unfold BadW
      omega
    obtain ⟨k, rfl⟩ : ∃ k : Nat, c = (k : Int) := ⟨c.toNat, by have := n1.2.1.2.1; omega⟩
    unfold RAsk at j
    rw [Int.toNat_natCast, m.e, m.q] at j
    have hr0 := n1.1.2.1
    refine ⟨rfl, ?_⟩
    rcases h with ⟨h1, rfl, rfl⟩ | ⟨h1, d, rfl, rfl⟩ | ⟨h1, h2, qs', a, er, l', h3, h4, rfl, rfl⟩
    · rcases j with ⟨_, rfl, rfl⟩ | ⟨j1, _⟩ | ⟨j1, _⟩
      · exact ⟨Ou.Like.refl _, m⟩
      · exact absurd h1 j1
      · exact absurd h1 j1
    · rcases j with ⟨j1, _⟩ | ⟨_, _, j⟩ | ⟨_, j1, _⟩
      · omega
      · unfold Ls.grant at hv st ⊢
        unfold Ou.grant
        rcases j with ⟨hm, rfl, rfl⟩ | ⟨hm, d', rfl, rfl⟩
        · rw [if_pos hm, if_pos hm]
          exact ⟨Ou.Like.refl _, m⟩
        · rw [if_neg hm] at hv st ⊢
          rw [if_neg hm]
          refine ⟨like_post (like_wr (Ou.Like.refl _) _ _ _ _) _, sim_put m hv st.1 hso (m.wi _) st.2.1 (fun x => E_set _ _ _ _) (fun x => ?_) (fun x => rfl)⟩
          show S.W x = _
          split
          · rename_i e; rw [e]
          · rfl
      · exact absurd h1 j1
    · rcases j with ⟨j1, _⟩ | ⟨_, j1, _⟩ | ⟨_, _, j⟩
      · exact absurd j1 h1
      · exact absurd j1 h2
      · rcases put_doc ha hso h8 hbad h4 with ⟨rfl, hn, hc8, rfl⟩ | ⟨rfl, hord, hl⟩
        · rcases j with ⟨_, _, rfl, rfl⟩ | ⟨l2, j, _⟩
          · refine ⟨Ou.Like.refl _, ?_⟩
            have hs := sim_put m (k := k) (e := S.E (k : Int)) (l := S.W (k : Int)) hv st.1 hso (m.wi _) st.2.1 (fun x => ?_) (fun x => rfl) (fun x => rfl)
            · rw [← m.e, ← m.q, put_self] at hs
              rw [← m.q]
              exact hs
            · show S.E x = _
              split
              · rename_i e; rw [e]
              · rfl
          · rcases j with ⟨j1, _⟩ | ⟨_, j1, _⟩
            · exact absurd j1 hn
            · omega
        · rcases j with ⟨j1, j2, _⟩ | ⟨l2, j, rfl, rfl⟩
          · rcases hl with ⟨h5, _⟩ | ⟨_, h5, _⟩
            · exact absurd h5 j1
            · omega
          · have el : l2 = l' := by
              rcases hl with ⟨h5, rfl⟩ | ⟨h5, _, rfl⟩ <;> rcases j with ⟨h6, rfl⟩ | ⟨h6, _, rfl⟩
              · rfl
              · exact absurd h5 h6
              · exact absurd h6 h5
              · rfl
            subst el
            refine ⟨Ou.Like.refl _, sim_put m hv st.1 hord (fun _ => hi) st.2.1 (fun x => ?_) (fun x => rfl) (fun x => rfl)⟩
            show S.E x = _
            split
            · rename_i e; rw [e]
            · rfl
end Go.Proofs.Ytmpnldmdchchjaa
