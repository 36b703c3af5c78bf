import Derived.Test.YtmpnldmdchchjaaFk
import Derived.Test.YtmpnldmdchchjaaRst
import Derived.Test.YtmpnldmdchchjaaRrc
import Derived.Test.YtmpnldmdchchjaaRows
namespace Go.Proofs.Ytmpnldmdchchjaa
open Go Go.Ideal Go.ChangeShapes Go.RowKit
set_option maxHeartbeats 0
set_option linter.unusedSimpArgs false
set_option linter.unusedVariables false
set_option maxRecDepth 100000
attribute [local irreducible] callV T.All T.Is run
theorem env49 : env 49 = some ir49 := rfl
def Rf.Fine (F : Rf) (r c p : Int) : Prop := F.Rob r ∧ F.Is c ∧ 0 ≤ p ∧ p ≤ 15
def RAsk (F : Rf) (w : It) (c : Nat) (F' : Rf) (o' : Ou) : Prop :=
  ((F.E c).o = w.r ∧ F' = F ∧ o' = oz.post (grt w (c : Int) (F.E c).g)) ∨
    ((F.E c).o ≠ w.r ∧ (F.E c).o = -1 ∧ (((F.E c).g = 4294967295 ∧ F' = F ∧ o' = oz.post (dny w (c : Int) (-1))) ∨
      ((F.E c).g ≠ 4294967295 ∧ ∃ d, F' = F.put c ⟨w.r, (F.E c).g + 1⟩ (F.W c) ∧ o' = (oz.wr (c : Int) ⟨w.r, (F.E c).g + 1⟩ d).post (grt w (c : Int) ((F.E c).g + 1))))) ∨
    ((F.E c).o ≠ w.r ∧ (F.E c).o ≠ -1 ∧ ((¬ Hold (F.W c) w ∧ 8 ≤ (cutF (F.W c) w.r).length ∧ F' = F ∧ o' = oz.post (dny w (c : Int) (-1))) ∨
      ∃ l', ((Hold (F.W c) w ∧ l' = F.W c) ∨ (¬ Hold (F.W c) w ∧ (cutF (F.W c) w.r).length < 8 ∧ l' = insX w (cutF (F.W c) w.r))) ∧ F' = F.put c (F.E c) l' ∧ o' = oz.waits w (c : Int) (F.E c) true l'))
def RReq (F : Rf) (w : It) (c e : Int) (F' : Rf) (o' : Ou) : Prop :=
  (¬ F.Fine w.r c w.p ∧ e = 2 ∧ F' = F ∧ o' = oz) ∨ (F.Fine w.r c w.p ∧ F.T w.r.toNat = 0 ∧ e = 140 ∧ F' = F ∧ o' = oz) ∨
    (F.Fine w.r c w.p ∧ F.T w.r.toNat ≠ 0 ∧ e = 0 ∧ RAsk F w c.toNat F' o')
theorem insX_ne (x : It) (L : List It) : insX x L ≠ [] := by
  unfold insX
  split
  · rename_i h
    intro e
    have k : ∀ (L : List It) (s : List It × Bool), (s.2 = true → s.1 ≠ []) → ((L.foldl (gput x) s).2 = true → (L.foldl (gput x) s).1 ≠ []) := by
      intro L
      induction L with
      | nil => exact fun s h => h
      | cons y L ih =>
        intro s hs
        refine ih (gput x s y) ?_
        unfold gput
        split
        · intro _ e
          simp at e
        · intro _ e
          simp at e
    exact k L ([], false) (fun e => by cases e) h e
  · simp
theorem ne_get {l : List It} (h : l ≠ []) : l[0]? = some (nth l 0) := nth_get (List.length_pos_iff.2 h)
section
variable {ro : Nat → Option (List Value × Nat)} {h : Heap} {R : List Rs} {rb ob : Nat} {F : Rf} {o : Ou} {n c : Nat}
theorem rg_put2 {cb tb : Nat} {q : Nat → Value} {v : Value} (hc : c < F.C) (e : En) (l : List It) (O1 : Has ro h (Ob rb (.cells (rfc F cb tb) 1 false) :: Ob cb (.cells ((rcs (F.put c e l) fun x => if x = c then v else q x).flatMap rcell) 3 false) :: Ob tb (.cells ((rts F).flatMap zc) 1 false) :: Rrest F.W q F.C c :: Sc 3 ic v l :: R)) : Has ro h (Rg rb (F.put c e l) :: R) := by
  have O2 := ((O1.at 4 rfl).at 4 rfl).swap2
  have O3 : Has ro h (Rqs (F.put c e l).W (fun x => if x = c then v else q x) F.C :: _) := Has.rqBack (W := F.W) (q := q) (W' := (F.put c e l).W) (q' := fun x => if x = c then v else q x) hc (fun x hx => if_neg hx) (fun x hx => if_neg hx) (by
    have e1 : (F.put c e l).W c = l := if_pos rfl
    rw [e1, if_pos rfl]
    exact O2)
  exact Has.rgClose (F := F.put c e l) (((O3.at 3 rfl).at 3 rfl).at 3 rfl)
theorem rg_at {r : Nat} (hr : r < F.rob) (O : Has ro h (Rg rb F :: R)) : ∃ cb tb, h.get rb = some (.cells [.int .i64 F.home, .int .i64 (F.rob : Int), .slice (some ⟨cb, 0, none⟩) F.C F.C, .slice (some ⟨tb, 0, none⟩) F.rob F.rob] 1 false) ∧
    readC (h.get tb) r 1 = some [.int .i64 (F.T r)] := by
  obtain ⟨cb, tb, q, O1⟩ := Has.rgOpen O
  refine ⟨cb, tb, O1.get 0 rfl, ?_⟩
  have r1 := readC_flat zc_len (rts_get F hr) (zz := 1) (t := false) (k := 0) (m := 1) (by decide)
  rw [← O1.get 2 rfl, Nat.mul_one, Nat.add_zero] at r1
  exact r1
theorem rrequest_h (w : It) (cc : Int) (v : Rw F) (hn : 200 < n) (O : Has ro h (Rg rb F :: R)) :
    (callV env (n + 5) (.func (.func 49) #[] #[]) [.pointer (some ⟨rb, 0, none⟩), .int .i64 w.r, .int .i64 cc, .int .u64 w.s, .int .i64 w.p] h).Is fun p => ∃ wv pv bv e F' o', p.1 = .tuple #[.agg #[wv, pv, bv], .int .i64 e] ∧ RReq F w cc e F' o' ∧ Has ro p.2 (Rg rb F' :: Oo wv pv bv o' :: R) := by
  have z1 := v.z.r1
  refine call_is env49 ?_
  simp (disch := first | assumption | omega | (simp only [wkX, *]; done) | (simp only [wkY]; omega)) only [ir49, Nat.reduceAdd, Nat.reduceSub, wkF, X_seq, Y_store, Y_makeMap, Y_buildSlice, ↓reduceIte, reduceCtorEq, wkO, wkS, Nat.reduceLeDiff, Nat.reduceMul, Nat.reduceLT, Nat.reduceEqDiff, Int.reduceLT, Int.reduceLE, Int.reduceGT, Int.reduceGE, Int.reduceEq, Int.reduceNe, wkN, wkG]
  refine Y_boxO O ?_
  intro b10 h1 O1 _
  simp (disch := first | assumption | omega | (simp only [wkX, *]; done) | (simp only [wkY]; omega)) only [wkF, X_seq, Y_store, Y_makeMap, Y_buildSlice, ↓reduceIte, reduceCtorEq, wkO, wkS, Nat.reduceAdd, Nat.reduceLeDiff, Nat.reduceMul, Nat.reduceLT, Nat.reduceEqDiff, Int.reduceLT, Int.reduceLE, Int.reduceGT, Int.reduceGE, Int.reduceEq, Int.reduceNe, wkG]
  refine Y_boxO O1 ?_
  intro b12 h2 O2 _
  replace O2 : Has ro h2 (Ob b12 (.cells [.slice none 0 0, .slice none 0 0, .slice none 0 0] 1 false) :: Ob b10 (.cells [.slice none 0 0, .slice none 0 0, .slice none 0 0] 1 false) :: Rg rb F :: R) := O2
  replace O2 : Has ro h2 (Rg rb F :: Og b12 oz :: Ob b10 (.cells [.slice none 0 0, .slice none 0 0, .slice none 0 0] 1 false) :: R) := (Has.ogNew O2).at 2 rfl
  simp (disch := first | assumption | omega | (simp only [wkX, *]; done) | (simp only [wkY]; omega)) only [wkF, ↓reduceIte, reduceCtorEq, Nat.reduceAdd, Nat.reduceLeDiff, Nat.reduceMul, Nat.reduceLT, Nat.reduceEqDiff, Int.reduceLT, Int.reduceLE, Int.reduceGT, Int.reduceGE, Int.reduceEq, Int.reduceNe, wkG, wkH]
  refine Z_is (rrobot_h (n := n + 3) w.r O2) ?_
  rintro v' h3 ⟨rfl, rfl⟩
  clear O1 O
  by_cases hr : F.Rob w.r
  · simp (disch := first | assumption | omega | (simp only [wkX, *]; done) | (simp only [wkY]; omega)) only [hr, wkF, ↓reduceIte, reduceCtorEq, Nat.reduceAdd, Nat.reduceLeDiff, Nat.reduceMul, Nat.reduceLT, Nat.reduceEqDiff, Int.reduceLT, Int.reduceLE, Int.reduceGT, Int.reduceGE, Int.reduceEq, Int.reduceNe, wkG, wkH]
    refine Z_is (ris_h (n := n + 3) cc z1 O2) ?_
    rintro v' h3 ⟨rfl, rfl⟩
    by_cases hi : F.Is cc
    · by_cases hp0 : w.p < 0
      · simp (disch := first | assumption | omega | (simp only [wkX, *]; done) | (simp only [wkY]; omega)) only [hi, hp0, wkF, ↓reduceIte, reduceCtorEq, Nat.reduceAdd, Nat.reduceLeDiff, Nat.reduceMul, Nat.reduceLT, Nat.reduceEqDiff, Int.reduceLT, Int.reduceLE, Int.reduceGT, Int.reduceGE, Int.reduceEq, Int.reduceNe, wkG, wkH]
        obtain ⟨wv, pv, bv, ga, gb, pb, one, O99⟩ := fin3 ((O2.at 2 rfl).at 2 rfl)
        simp (disch := first | assumption | omega | (simp only [wkX, *]; done) | (simp only [wkY]; omega)) only [ga, gb, pb, one, c3, s3, wkF, X_seq, Y_box, Y_store, Y_makeMap, Y_buildSlice, ↓reduceIte, reduceCtorEq, wkS, Nat.reduceAdd, Nat.reduceLeDiff, Nat.reduceMul, Nat.reduceLT, Nat.reduceEqDiff, Int.reduceLT, Int.reduceLE, Int.reduceGT, Int.reduceGE, Int.reduceEq, Int.reduceNe, wkG]
        exact leafO _ (answer2 _ _ _ _ (cellN O99 0 rfl rfl rfl) rfl) ⟨wv, pv, bv, _, _, _, rfl, Or.inl ⟨fun x => by have := x.2.2.1; omega, rfl, rfl, rfl⟩, (O99.drop.at 1 rfl)⟩
      · by_cases hp1 : 15 < w.p
        · simp (disch := first | assumption | omega | (simp only [wkX, *]; done) | (simp only [wkY]; omega)) only [hi, hp0, hp1, wkF, ↓reduceIte, reduceCtorEq, Nat.reduceAdd, Nat.reduceLeDiff, Nat.reduceMul, Nat.reduceLT, Nat.reduceEqDiff, Int.reduceLT, Int.reduceLE, Int.reduceGT, Int.reduceGE, Int.reduceEq, Int.reduceNe, wkG, wkH]
          obtain ⟨wv, pv, bv, ga, gb, pb, one, O99⟩ := fin3 ((O2.at 2 rfl).at 2 rfl)
          simp (disch := first | assumption | omega | (simp only [wkX, *]; done) | (simp only [wkY]; omega)) only [ga, gb, pb, one, c3, s3, wkF, X_seq, Y_box, Y_store, Y_makeMap, Y_buildSlice, ↓reduceIte, reduceCtorEq, wkS, Nat.reduceAdd, Nat.reduceLeDiff, Nat.reduceMul, Nat.reduceLT, Nat.reduceEqDiff, Int.reduceLT, Int.reduceLE, Int.reduceGT, Int.reduceGE, Int.reduceEq, Int.reduceNe, wkG]
          exact leafO _ (answer2 _ _ _ _ (cellN O99 0 rfl rfl rfl) rfl) ⟨wv, pv, bv, _, _, _, rfl, Or.inl ⟨fun x => by have := x.2.2.2; omega, rfl, rfl, rfl⟩, (O99.drop.at 1 rfl)⟩
        · have hf : F.Fine w.r cc w.p := ⟨hr, hi, by omega, by omega⟩
          obtain ⟨c, rfl⟩ : ∃ k : Nat, cc = (k : Int) := ⟨cc.toNat, by have := hi.1; omega⟩
          obtain ⟨k, hk⟩ : ∃ k : Nat, w.r = (k : Int) := ⟨w.r.toNat, by have := hr.1; omega⟩
          have hkt : w.r.toNat = k := by rw [hk]; exact Int.toNat_natCast k
          have hkr : k < F.rob := by have := hr.2; omega
          have k0 : 0 ≤ w.r := by omega
          have k1 : w.r < (F.rob : Int) := by omega
          have hc : c < F.C := by have := hi.2.1; omega
          have c0 : (0 : Int) ≤ (c : Int) := by omega
          have c1 : (c : Int) < (F.C : Int) := by omega
          obtain ⟨ca, ta, m1, m2⟩ := rg_at hkr O2
          by_cases ht : F.T k = 0
          · have ht' := eq_true ht
            simp (disch := first | assumption | omega | (simp only [wkX, *]; done) | (simp only [wkY]; omega)) only [hi, hp0, hp1, m1, m2, k0, k1, hkt, Nat.zero_add, Nat.mul_one, ht', wkF, ↓reduceIte, reduceCtorEq, Nat.reduceAdd, Nat.reduceLeDiff, Nat.reduceMul, Nat.reduceLT, Nat.reduceEqDiff, Int.reduceLT, Int.reduceLE, Int.reduceGT, Int.reduceGE, Int.reduceEq, Int.reduceNe, wkG, wkH]
            obtain ⟨wv, pv, bv, ga, gb, pb, one, O99⟩ := fin3 ((O2.at 2 rfl).at 2 rfl)
            simp (disch := first | assumption | omega | (simp only [wkX, *]; done) | (simp only [wkY]; omega)) only [ga, gb, pb, one, c3, s3, wkF, X_seq, Y_box, Y_store, Y_makeMap, Y_buildSlice, ↓reduceIte, reduceCtorEq, wkS, Nat.reduceAdd, Nat.reduceLeDiff, Nat.reduceMul, Nat.reduceLT, Nat.reduceEqDiff, Int.reduceLT, Int.reduceLE, Int.reduceGT, Int.reduceGE, Int.reduceEq, Int.reduceNe, wkG]
            exact leafO _ (answer2 _ _ _ _ (cellN O99 0 rfl rfl rfl) rfl) ⟨wv, pv, bv, _, _, _, rfl, Or.inr (Or.inl ⟨hf, by rw [hkt]; exact ht, rfl, rfl, rfl⟩), (O99.drop.at 1 rfl)⟩
          simp (disch := first | assumption | omega | (simp only [wkX, *]; done) | (simp only [wkY]; omega)) only [hi, hp0, hp1, m1, m2, k0, k1, hkt, Nat.zero_add, Nat.mul_one, ht, wkF, X_seq, Y_store, Y_makeMap, Y_buildSlice, ↓reduceIte, reduceCtorEq, wkO, wkS, Nat.reduceAdd, Nat.reduceLeDiff, Nat.reduceMul, Nat.reduceLT, Nat.reduceEqDiff, Int.reduceLT, Int.reduceLE, Int.reduceGT, Int.reduceGE, Int.reduceEq, Int.reduceNe, wkG]
          refine Y_boxO O2 ?_
          intro b13 h4 O4 _
          replace O4 : Has ro h4 (Ob b13 (.cells [.int .i64 0, .int .u64 0, .int .i64 0] 1 false) :: Rg rb F :: Og b12 oz :: Ob b10 (.cells [.slice none 0 0, .slice none 0 0, .slice none 0 0] 1 false) :: R) := O4
          have g4 := O4.get 0 rfl
          have p4 := O4.can 0 rfl
          have O5 := O4.set 0 rfl (.cells [.int .i64 w.r, .int .u64 w.s, .int .i64 w.p] 1 false)
          simp only [List.set_cons_zero] at O5
          simp (disch := first | assumption | omega | (simp only [wkX, *]; done) | (simp only [wkY]; omega)) only [g4, p4, wkF, Y_box, Y_store, Y_makeMap, Y_buildSlice, ↓reduceIte, reduceCtorEq, wkO, wkS, Nat.reduceAdd, Nat.reduceLeDiff, Nat.reduceMul, Nat.reduceLT, Nat.reduceEqDiff, Int.reduceLT, Int.reduceLE, Int.reduceGT, Int.reduceGE, Int.reduceEq, Int.reduceNe, wkG]
          generalize h4.setB b13 _ = h5 at O5 ⊢
          clear g4 p4 O4 m1 m2 O2
          replace O5 : Has ro h5 (Ob b13 (.cells (ic w) 1 false) :: Rg rb F :: Og b12 oz :: Ob b10 (.cells [.slice none 0 0, .slice none 0 0, .slice none 0 0] 1 false) :: R) := O5
          obtain ⟨cb, tb, q, pq, cq, hqc, rd, _, _, _, O6⟩ := rg_take hc (O5.at 1 rfl)
          have m1 := O6.get 0 rfl
          unfold rfc at m1
          rw [X_seq]
          simp (disch := first | assumption | omega | (simp only [wkX, *]; done) | (simp only [wkY]; omega)) only [m1, rd, c0, c1, Int.toNat_natCast, Nat.zero_add, wkF, X_seq, Y_store, Y_makeMap, Y_buildSlice, ↓reduceIte, reduceCtorEq, wkO, wkS, Nat.reduceAdd, Nat.reduceLeDiff, Nat.reduceMul, Nat.reduceLT, Nat.reduceEqDiff, Int.reduceLT, Int.reduceLE, Int.reduceGT, Int.reduceGE, Int.reduceEq, Int.reduceNe, wkG]
          refine Y_boxO O6 ?_
          intro b14 h6 O7 _
          have m14 := O7.get 0 rfl
          have p14 := O7.can 0 rfl
          have O8 := O7.set 0 rfl (.cells [.int .i64 (F.E c).o, .int .u32 (F.E c).g, .slice pq (F.W c).length cq] 1 false)
          simp only [List.set_cons_zero] at O8
          simp (disch := first | assumption | omega | (simp only [wkX, *]; done) | (simp only [wkY]; omega)) only [m14, p14, wkF, Y_box, Y_store, Y_makeMap, Y_buildSlice, ↓reduceIte, reduceCtorEq, wkO, wkS, Nat.reduceAdd, Nat.reduceLeDiff, Nat.reduceMul, Nat.reduceLT, Nat.reduceEqDiff, Int.reduceLT, Int.reduceLE, Int.reduceGT, Int.reduceGE, Int.reduceEq, Int.reduceNe, wkG]
          generalize h6.setB b14 _ = h7 at O8 ⊢
          clear m14 p14 m1 rd O7 O6 O5
          replace O8 : Has ro h7 (Ob b14 (.cells [.int .i64 (F.E c).o, .int .u32 (F.E c).g, .slice pq (F.W c).length cq] 1 false) :: Ob rb (.cells (rfc F cb tb) 1 false) :: Ob cb (.cells ((rcs F q).flatMap rcell) 3 false) :: Ob tb (.cells ((rts F).flatMap zc) 1 false) :: Rrest F.W q F.C c :: Sc 3 ic (.slice pq (F.W c).length cq) (F.W c) :: Ob b13 (.cells (ic w) 1 false) :: Og b12 oz :: Ob b10 (.cells [.slice none 0 0, .slice none 0 0, .slice none 0 0] 1 false) :: R) := O8
          have m14 := O8.get 0 rfl
          have m13 := O8.get 6 rfl
          have O9 := O8
          rw [← hqc] at O9
          have O10 := rg_back hc (((((O9.at 5 rfl).at 5 rfl).at 5 rfl).at 5 rfl).at 5 rfl)
          replace O10 : Has ro h7 (Rg rb F :: Ob b14 (.cells [.int .i64 (F.E c).o, .int .u32 (F.E c).g, _] 1 false) :: Ob b13 (.cells (ic w) 1 false) :: Og b12 oz :: Ob b10 (.cells [.slice none 0 0, .slice none 0 0, .slice none 0 0] 1 false) :: R) := O10
          rw [X_seq]
          by_cases ho : (F.E c).o = w.r
          · have ho' := eq_true ho
            simp (disch := first | assumption | omega | (simp only [wkX, *]; done) | (simp only [wkY]; omega)) only [m14, ho', wkF, ↓reduceIte, reduceCtorEq, Nat.reduceAdd, Nat.reduceLeDiff, Nat.reduceMul, Nat.reduceLT, Nat.reduceEqDiff, Int.reduceLT, Int.reduceLE, Int.reduceGT, Int.reduceGE, Int.reduceEq, Int.reduceNe, wkG, wkH]
            refine Z_is (rpost_h (n := n + 3) (grt w (c : Int) (F.E c).g) (by decide) (by decide) (O10.at 3 rfl)) ?_
            rintro v' h8 O11
            simp only at O11
            simp (disch := first | assumption | omega | (simp only [wkX, *]; done) | (simp only [wkY]; omega)) only [wkF, ↓reduceIte, reduceCtorEq, Nat.reduceAdd, Nat.reduceLeDiff, Nat.reduceMul, Nat.reduceLT, Nat.reduceEqDiff, Int.reduceLT, Int.reduceLE, Int.reduceGT, Int.reduceGE, Int.reduceEq, Int.reduceNe, wkG, wkH]
            obtain ⟨wv, pv, bv, ga, gb, pb, one, O99⟩ := fin3 ((((O11.rid 3 rfl).rid 2 rfl).at 2 rfl).at 1 rfl)
            simp (disch := first | assumption | omega | (simp only [wkX, *]; done) | (simp only [wkY]; omega)) only [ga, gb, pb, one, c3, s3, wkF, X_seq, Y_box, Y_store, Y_makeMap, Y_buildSlice, ↓reduceIte, reduceCtorEq, wkS, Nat.reduceAdd, Nat.reduceLeDiff, Nat.reduceMul, Nat.reduceLT, Nat.reduceEqDiff, Int.reduceLT, Int.reduceLE, Int.reduceGT, Int.reduceGE, Int.reduceEq, Int.reduceNe, wkG]
            exact leafO _ (answer2 _ _ _ _ (cellN O99 0 rfl rfl rfl) rfl) ⟨wv, pv, bv, _, _, _, rfl, Or.inr (Or.inr ⟨hf, by rw [hkt]; exact ht, rfl, Or.inl ⟨ho, rfl, rfl⟩⟩), (O99.drop.at 1 rfl)⟩
          by_cases hf1 : (F.E c).o = -1
          · have hf1' := eq_true hf1
            simp (disch := first | assumption | omega | (simp only [wkX, *]; done) | (simp only [wkY]; omega)) only [m14, m13, ho, hf1', ic_len, tk_ic, tk_ic1, dr_ic1, dr_ic2, agg_ic, iv_cells, set_ic, ic_one, wkF, ↓reduceIte, reduceCtorEq, Nat.reduceAdd, Nat.reduceLeDiff, Nat.reduceMul, Nat.reduceLT, Nat.reduceEqDiff, Int.reduceLT, Int.reduceLE, Int.reduceGT, Int.reduceGE, Int.reduceEq, Int.reduceNe, wkG, wkH]
            refine Z_is (rgrant_h (n := n) (F := F) w v.z hc ⟨by omega, k1⟩ (by decide) (by decide) (by decide) ((O10.at 3 rfl).swap2)) ?_
            rintro v' h8 (⟨hm, rfl, O11⟩ | ⟨hm, rfl, d, O11⟩)
            · simp only at O11
              simp (disch := first | assumption | omega | (simp only [wkX, *]; done) | (simp only [wkY]; omega)) only [wkF, ↓reduceIte, reduceCtorEq, Nat.reduceAdd, Nat.reduceLeDiff, Nat.reduceMul, Nat.reduceLT, Nat.reduceEqDiff, Int.reduceLT, Int.reduceLE, Int.reduceGT, Int.reduceGE, Int.reduceEq, Int.reduceNe, wkG, wkH]
              obtain ⟨wv, pv, bv, ga, gb, pb, one, O99⟩ := fin3 (((((O11.rid 3 rfl).rid 2 rfl).at 2 rfl).at 2 rfl))
              simp (disch := first | assumption | omega | (simp only [wkX, *]; done) | (simp only [wkY]; omega)) only [ga, gb, pb, one, c3, s3, wkF, X_seq, Y_box, Y_store, Y_makeMap, Y_buildSlice, ↓reduceIte, reduceCtorEq, wkS, Nat.reduceAdd, Nat.reduceLeDiff, Nat.reduceMul, Nat.reduceLT, Nat.reduceEqDiff, Int.reduceLT, Int.reduceLE, Int.reduceGT, Int.reduceGE, Int.reduceEq, Int.reduceNe, wkG]
              exact leafO _ (answer2 _ _ _ _ (cellN O99 0 rfl rfl rfl) rfl) ⟨wv, pv, bv, _, _, _, rfl, Or.inr (Or.inr ⟨hf, by rw [hkt]; exact ht, rfl, Or.inr (Or.inl ⟨ho, hf1, Or.inl ⟨hm, rfl, rfl⟩⟩)⟩), (O99.drop.at 1 rfl)⟩
            · simp only at O11
              simp (disch := first | assumption | omega | (simp only [wkX, *]; done) | (simp only [wkY]; omega)) only [wkF, ↓reduceIte, reduceCtorEq, Nat.reduceAdd, Nat.reduceLeDiff, Nat.reduceMul, Nat.reduceLT, Nat.reduceEqDiff, Int.reduceLT, Int.reduceLE, Int.reduceGT, Int.reduceGE, Int.reduceEq, Int.reduceNe, wkG, wkH]
              obtain ⟨wv, pv, bv, ga, gb, pb, one, O99⟩ := fin3 (((((O11.rid 3 rfl).rid 2 rfl).at 2 rfl).at 2 rfl))
              simp (disch := first | assumption | omega | (simp only [wkX, *]; done) | (simp only [wkY]; omega)) only [ga, gb, pb, one, c3, s3, wkF, X_seq, Y_box, Y_store, Y_makeMap, Y_buildSlice, ↓reduceIte, reduceCtorEq, wkS, Nat.reduceAdd, Nat.reduceLeDiff, Nat.reduceMul, Nat.reduceLT, Nat.reduceEqDiff, Int.reduceLT, Int.reduceLE, Int.reduceGT, Int.reduceGE, Int.reduceEq, Int.reduceNe, wkG]
              exact leafO _ (answer2 _ _ _ _ (cellN O99 0 rfl rfl rfl) rfl) ⟨wv, pv, bv, _, _, _, rfl, Or.inr (Or.inr ⟨hf, by rw [hkt]; exact ht, rfl, Or.inr (Or.inl ⟨ho, hf1, Or.inr ⟨hm, d, rfl, rfl⟩⟩)⟩), (O99.drop.at 1 rfl)⟩
          simp (disch := first | assumption | omega | (simp only [wkX, *]; done) | (simp only [wkY]; omega)) only [m14, m13, ho, hf1, ic_len, tk_ic, tk_ic1, dr_ic1, dr_ic2, agg_ic, iv_cells, set_ic, ic_one, wkF, ↓reduceIte, reduceCtorEq, Nat.reduceAdd, Nat.reduceLeDiff, Nat.reduceMul, Nat.reduceLT, Nat.reduceEqDiff, Int.reduceLT, Int.reduceLE, Int.reduceGT, Int.reduceGE, Int.reduceEq, Int.reduceNe, wkG, wkH]
          refine Z_is (rput_h (n := n + 2) w (v.z.w c) (by omega) (O8.at 5 rfl)) ?_
          rintro v' h8 hv
          clear m14 m13 O10 O9
          have hv2 : (¬ Hold (F.W c) w ∧ 8 ≤ (cutF (F.W c) w.r).length ∧ v' = .tuple #[.slice pq (F.W c).length cq, .bool false] ∧ Has ro h8 (Sc 3 ic (.slice pq (F.W c).length cq) (F.W c) :: Ob b14 (.cells [.int .i64 (F.E c).o, .int .u32 (F.E c).g, .slice pq (F.W c).length cq] 1 false) :: Ob rb (.cells (rfc F cb tb) 1 false) :: Ob cb (.cells ((rcs F q).flatMap rcell) 3 false) :: Ob tb (.cells ((rts F).flatMap zc) 1 false) :: Rrest F.W q F.C c :: Ob b13 (.cells (ic w) 1 false) :: Og b12 oz :: Ob b10 (.cells [.slice none 0 0, .slice none 0 0, .slice none 0 0] 1 false) :: R)) ∨
              (∃ x l', ((Hold (F.W c) w ∧ l' = F.W c) ∨ (¬ Hold (F.W c) w ∧ (cutF (F.W c) w.r).length < 8 ∧ l' = insX w (cutF (F.W c) w.r))) ∧ l' ≠ [] ∧ v' = .tuple #[x, .bool true] ∧ Has ro h8 (Sc 3 ic x l' :: Ob b14 (.cells [.int .i64 (F.E c).o, .int .u32 (F.E c).g, .slice pq (F.W c).length cq] 1 false) :: Ob rb (.cells (rfc F cb tb) 1 false) :: Ob cb (.cells ((rcs F q).flatMap rcell) 3 false) :: Ob tb (.cells ((rts F).flatMap zc) 1 false) :: Rrest F.W q F.C c :: Ob b13 (.cells (ic w) 1 false) :: Og b12 oz :: Ob b10 (.cells [.slice none 0 0, .slice none 0 0, .slice none 0 0] 1 false) :: R)) := by
            rcases hv with ⟨hh, e, O11⟩ | ⟨hh, h8', e, O11⟩ | ⟨hh, h8', x, e, O11⟩
            · refine Or.inr ⟨_, F.W c, Or.inl ⟨hh, rfl⟩, ?_, e, O11⟩
              obtain ⟨y, hy, _⟩ := hh
              exact List.ne_nil_of_mem hy
            · exact Or.inl ⟨hh, h8', e, O11⟩
            · exact Or.inr ⟨x, _, Or.inr ⟨hh, h8', rfl⟩, insX_ne _ _, e, O11.rid 1 rfl⟩
          clear hv O8
          rcases hv2 with ⟨hh, h8', rfl, O11⟩ | ⟨x, l', hl', hne, rfl, O11⟩
          · simp (disch := first | assumption | omega | (simp only [wkX, *]; done) | (simp only [wkY]; omega)) only [wkF, ↓reduceIte, reduceCtorEq, Nat.reduceAdd, Nat.reduceLeDiff, Nat.reduceMul, Nat.reduceLT, Nat.reduceEqDiff, Int.reduceLT, Int.reduceLE, Int.reduceGT, Int.reduceGE, Int.reduceEq, Int.reduceNe, wkG, wkH]
            refine Z_is (rpost_h (n := n + 3) (dny w (c : Int) (-1)) (by decide) (by decide) (O11.at 7 rfl)) ?_
            rintro v' h9 O12
            simp only at O12
            simp (disch := first | assumption | omega | (simp only [wkX, *]; done) | (simp only [wkY]; omega)) only [wkF, ↓reduceIte, reduceCtorEq, Nat.reduceAdd, Nat.reduceLeDiff, Nat.reduceMul, Nat.reduceLT, Nat.reduceEqDiff, Int.reduceLT, Int.reduceLE, Int.reduceGT, Int.reduceGE, Int.reduceEq, Int.reduceNe, wkG, wkH]
            replace O12 : Has ro h9 (Og b12 (oz.post (dny w (c : Int) (-1))) :: Sc 3 ic (.slice pq (F.W c).length cq) (F.W c) :: Ob b14 (.cells [.int .i64 (F.E c).o, .int .u32 (F.E c).g, .slice pq (F.W c).length cq] 1 false) :: Ob rb (.cells (rfc F cb tb) 1 false) :: Ob cb (.cells ((rcs F q).flatMap rcell) 3 false) :: Ob tb (.cells ((rts F).flatMap zc) 1 false) :: Rrest F.W q F.C c :: Ob b13 (.cells (ic w) 1 false) :: Ob b10 (.cells [.slice none 0 0, .slice none 0 0, .slice none 0 0] 1 false) :: R) := O12
            rw [← hqc] at O12
            have O13 := (O12.rid 7 rfl).rid 2 rfl
            replace O13 : Has ro h9 (Ob rb (.cells (rfc F cb tb) 1 false) :: Ob cb (.cells ((rcs F q).flatMap rcell) 3 false) :: Ob tb (.cells ((rts F).flatMap zc) 1 false) :: Rrest F.W q F.C c :: Sc 3 ic (q c) (F.W c) :: Og b12 (oz.post (dny w (c : Int) (-1))) :: Ob b10 (.cells [.slice none 0 0, .slice none 0 0, .slice none 0 0] 1 false) :: R) := ((((O13.at 1 rfl).at 5 rfl).at 5 rfl).at 5 rfl).at 5 rfl
            have O14 := rg_back hc O13
            obtain ⟨wv, pv, bv, ga, gb, pb, one, O99⟩ := fin3 ((O14.at 2 rfl).at 2 rfl)
            simp (disch := first | assumption | omega | (simp only [wkX, *]; done) | (simp only [wkY]; omega)) only [ga, gb, pb, one, c3, s3, wkF, X_seq, Y_box, Y_store, Y_makeMap, Y_buildSlice, ↓reduceIte, reduceCtorEq, wkS, Nat.reduceAdd, Nat.reduceLeDiff, Nat.reduceMul, Nat.reduceLT, Nat.reduceEqDiff, Int.reduceLT, Int.reduceLE, Int.reduceGT, Int.reduceGE, Int.reduceEq, Int.reduceNe, wkG]
            exact leafO _ (answer2 _ _ _ _ (cellN O99 0 rfl rfl rfl) rfl) ⟨wv, pv, bv, _, _, _, rfl, Or.inr (Or.inr ⟨hf, by rw [hkt]; exact ht, rfl, Or.inr (Or.inr ⟨ho, hf1, Or.inl ⟨hh, h8', rfl, rfl⟩⟩)⟩), (O99.drop.at 1 rfl)⟩
          obtain ⟨pl, cl, rfl, _⟩ := O11.scVal 0 rfl
          have m14 := O11.get 1 rfl
          have p14 := O11.can 1 rfl
          have O12 := O11.set 1 rfl (.cells [.int .i64 (F.E c).o, .int .u32 (F.E c).g, .slice pl l'.length cl] 1 false)
          simp only [List.set_cons_zero, List.set_cons_succ] at O12
          simp (disch := first | assumption | omega | (simp only [wkX, *]; done) | (simp only [wkY]; omega)) only [wkF, Y_box, Y_store, Y_makeMap, Y_buildSlice, ↓reduceIte, reduceCtorEq, wkO, wkS, Nat.reduceAdd, Nat.reduceLeDiff, Nat.reduceMul, Nat.reduceLT, Nat.reduceEqDiff, Int.reduceLT, Int.reduceLE, Int.reduceGT, Int.reduceGE, Int.reduceEq, Int.reduceNe, wkG]
          rw [X_seq, X_seq]
          simp (disch := first | assumption | omega | (simp only [wkX, *]; done) | (simp only [wkY]; omega)) only [wkF, Y_box, Y_store, Y_makeMap, Y_buildSlice, ↓reduceIte, reduceCtorEq, wkO, wkS, Nat.reduceAdd, Nat.reduceLeDiff, Nat.reduceMul, Nat.reduceLT, Nat.reduceEqDiff, Int.reduceLT, Int.reduceLE, Int.reduceGT, Int.reduceGE, Int.reduceEq, Int.reduceNe, wkG]
          rw [X_seq]
          simp (disch := first | assumption | omega | (simp only [wkX, *]; done) | (simp only [wkY]; omega)) only [m14, p14, slI, wkF, Y_box, Y_store, Y_makeMap, Y_buildSlice, ↓reduceIte, reduceCtorEq, wkO, wkS, Nat.reduceAdd, Nat.reduceLeDiff, Nat.reduceMul, Nat.reduceLT, Nat.reduceEqDiff, Int.reduceLT, Int.reduceLE, Int.reduceGT, Int.reduceGE, Int.reduceEq, Int.reduceNe, wkG]
          generalize h8.setB b14 _ = h9 at O12 ⊢
          clear m14 p14 O11
          replace O12 : Has ro h9 (Ob rb (.cells (rfc F cb tb) 1 false) :: Ob cb (.cells ((rcs F q).flatMap rcell) 3 false) :: Ob tb (.cells ((rts F).flatMap zc) 1 false) :: Rrest F.W q F.C c :: Sc 3 ic (.slice pl l'.length cl) l' :: Ob b14 (.cells [.int .i64 (F.E c).o, .int .u32 (F.E c).g, .slice pl l'.length cl] 1 false) :: Ob b13 (.cells (ic w) 1 false) :: Og b12 oz :: Ob b10 (.cells [.slice none 0 0, .slice none 0 0, .slice none 0 0] 1 false) :: R) := ((((O12.at 5 rfl).at 5 rfl).at 5 rfl).at 5 rfl)
          have q1 := O12.get 0 rfl
          unfold rfc at q1
          have q2 := O12.get 1 rfl
          have p2 := O12.can 1 rfl
          have q3 := O12.get 5 rfl
          have hput : setAt ((rcs F q).flatMap rcell) (c * 3) [.int .i64 (F.E c).o, .int .u32 (F.E c).g, .slice pl l'.length cl] = _ := rcs_put F q hc (F.E c) (.slice pl l'.length cl) l'
          have hfl := rcs_flen F q
          have hin : c * 3 + 3 ≤ F.C * 3 := by omega
          have O13 := O12.set 1 rfl (.cells ((rcs (F.put c (F.E c) l') fun x => if x = c then .slice pl l'.length cl else q x).flatMap rcell) 3 false)
          simp only [List.set_cons_zero, List.set_cons_succ] at O13
          rw [X_seq]
          refine X_drawn _ fun an => ?_
          simp (disch := first | assumption | omega | (simp only [wkX, *]; done) | (simp only [wkY]; omega)) only [q1, q2, p2, q3, c0, c1, Int.toNat_natCast, Nat.zero_add, st3, hput, hfl, hin, wkF, Y_box, Y_store, Y_makeMap, Y_buildSlice, ↓reduceIte, reduceCtorEq, wkO, Nat.reduceAdd, Nat.reduceLeDiff, Nat.reduceMul, Nat.reduceLT, Nat.reduceEqDiff, Int.reduceLT, Int.reduceLE, Int.reduceGT, Int.reduceGE, Int.reduceEq, Int.reduceNe, wkG]
          generalize h9.setB cb _ = h10 at O13 ⊢
          clear q1 q2 p2 q3 hput hfl hin O12
          have q3 := O13.get 5 rfl
          rw [X_seq]
          simp (disch := first | assumption | omega | (simp only [wkX, *]; done) | (simp only [wkY]; omega)) only [q3, wkF, Y_box, Y_store, Y_makeMap, Y_buildSlice, ↓reduceIte, reduceCtorEq, wkO, wkS, Nat.reduceAdd, Nat.reduceLeDiff, Nat.reduceMul, Nat.reduceLT, Nat.reduceEqDiff, Int.reduceLT, Int.reduceLE, Int.reduceGT, Int.reduceGE, Int.reduceEq, Int.reduceNe, wkG]
          refine Z_is (rpost_h (n := n + 3) (o := oz) (dny w (c : Int) (F.E c).o) (by decide) (by decide) (O13.at 7 rfl)) ?_
          rintro v' h11 O14
          simp only at O14
          replace O14 : Has ro h11 (Og b12 (oz.post (dny w (c : Int) (F.E c).o)) :: Ob rb (.cells (rfc F cb tb) 1 false) :: Ob cb (.cells ((rcs (F.put c (F.E c) l') fun x => if x = c then .slice pl l'.length cl else q x).flatMap rcell) 3 false) :: Ob tb (.cells ((rts F).flatMap zc) 1 false) :: Rrest F.W q F.C c :: Sc 3 ic (.slice pl l'.length cl) l' :: Ob b14 (.cells [.int .i64 (F.E c).o, .int .u32 (F.E c).g, .slice pl l'.length cl] 1 false) :: Ob b13 (.cells (ic w) 1 false) :: Ob b10 (.cells [.slice none 0 0, .slice none 0 0, .slice none 0 0] 1 false) :: R) := O14
          have q3 := O14.get 6 rfl
          obtain ⟨b2, off2, sp2, c2, hv2, k2, _⟩ := (O14.vw 5 rfl).rd ic_len (ne_get hne)
          have e2 : pl = some ⟨b2, off2, sp2⟩ := by injection hv2
          subst e2
          have r2 := k2 2 1 (by decide)
          have q0 : ∀ x : It, readN (ic x) 2 1 = some [.int .i64 x.p] := fun _ => rfl
          rw [q0, Nat.zero_mul, Nat.add_zero] at r2
          have l0 : (0 : Int) < (l'.length : Int) := by have := List.length_pos_iff.2 hne; omega
          simp (disch := first | assumption | omega | (simp only [wkX, *]; done) | (simp only [wkY]; omega)) only [wkF, Y_box, Y_store, Y_makeMap, Y_buildSlice, ↓reduceIte, reduceCtorEq, wkO, wkS, Nat.reduceAdd, Nat.reduceLeDiff, Nat.reduceMul, Nat.reduceLT, Nat.reduceEqDiff, Int.reduceLT, Int.reduceLE, Int.reduceGT, Int.reduceGE, Int.reduceEq, Int.reduceNe, wkG]
          rw [X_seq]
          refine X_drawn _ fun an => ?_
          simp (disch := first | assumption | omega | (simp only [wkX, *]; done) | (simp only [wkY]; omega)) only [q3, r2, l0, Int.toNat_zero, Nat.zero_mul, Nat.zero_add, Nat.add_zero, Int.le_refl, wkF, Y_box, Y_store, Y_makeMap, Y_buildSlice, ↓reduceIte, reduceCtorEq, wkO, wkS, Nat.reduceAdd, Nat.reduceLeDiff, Nat.reduceMul, Nat.reduceLT, Nat.reduceEqDiff, Int.reduceLT, Int.reduceLE, Int.reduceGT, Int.reduceGE, Int.reduceEq, Int.reduceNe, wkG]
          refine DB_is (rpost_h (n := n + 3) (o := oz.post (dny w (c : Int) (F.E c).o)) (inh (c : Int) (F.E c) (nth l' 0).p) (show 1 < 1000000 by omega) (show 1 < 1000000 by omega) O14) ?_
          rintro v' h12 O15
          simp only at O15
          have q3 := O15.get 6 rfl
          simp (disch := first | assumption | omega | (simp only [wkX, *]; done) | (simp only [wkY]; omega)) only [wkF, Y_box, Y_store, Y_makeMap, Y_buildSlice, ↓reduceIte, reduceCtorEq, wkO, wkS, Nat.reduceAdd, Nat.reduceLeDiff, Nat.reduceMul, Nat.reduceLT, Nat.reduceEqDiff, Int.reduceLT, Int.reduceLE, Int.reduceGT, Int.reduceGE, Int.reduceEq, Int.reduceNe, wkG]
          rw [X_seq]
          simp (disch := first | assumption | omega | (simp only [wkX, *]; done) | (simp only [wkY]; omega)) only [q3, wkF, Y_box, Y_store, Y_makeMap, Y_buildSlice, ↓reduceIte, reduceCtorEq, wkO, wkS, Nat.reduceAdd, Nat.reduceLeDiff, Nat.reduceMul, Nat.reduceLT, Nat.reduceEqDiff, Int.reduceLT, Int.reduceLE, Int.reduceGT, Int.reduceGE, Int.reduceEq, Int.reduceNe, wkG]
          refine Z_is (rpost_h (n := n + 3) (o := (oz.post (dny w (c : Int) (F.E c).o)).post (inh (c : Int) (F.E c) (nth l' 0).p)) (rcl (c : Int) (F.E c)) (show 2 < 1000000 by omega) (show 2 < 1000000 by omega) O15) ?_
          rintro v' h13 O16
          simp only at O16
          simp (disch := first | assumption | omega | (simp only [wkX, *]; done) | (simp only [wkY]; omega)) only [wkF, ↓reduceIte, reduceCtorEq, Nat.reduceAdd, Nat.reduceLeDiff, Nat.reduceMul, Nat.reduceLT, Nat.reduceEqDiff, Int.reduceLT, Int.reduceLE, Int.reduceGT, Int.reduceGE, Int.reduceEq, Int.reduceNe, wkG, wkH]
          replace O16 : Has ro h13 (Og b12 (oz.waits w (c : Int) (F.E c) true l') :: Ob rb (.cells (rfc F cb tb) 1 false) :: Ob cb (.cells ((rcs (F.put c (F.E c) l') fun x => if x = c then .slice (some ⟨b2, off2, sp2⟩) l'.length cl else q x).flatMap rcell) 3 false) :: Ob tb (.cells ((rts F).flatMap zc) 1 false) :: Rrest F.W q F.C c :: Sc 3 ic (.slice (some ⟨b2, off2, sp2⟩) l'.length cl) l' :: Ob b14 (.cells [.int .i64 (F.E c).o, .int .u32 (F.E c).g, .slice (some ⟨b2, off2, sp2⟩) l'.length cl] 1 false) :: Ob b13 (.cells (ic w) 1 false) :: Ob b10 (.cells [.slice none 0 0, .slice none 0 0, .slice none 0 0] 1 false) :: R) := O16
          have O17 := (O16.rid 7 rfl).rid 6 rfl
          replace O17 : Has ro h13 (Rg rb (F.put c (F.E c) l') :: Og b12 (oz.waits w (c : Int) (F.E c) true l') :: Ob b10 (.cells [.slice none 0 0, .slice none 0 0, .slice none 0 0] 1 false) :: R) := rg_put2 hc (F.E c) l' (((((O17.at 5 rfl).at 5 rfl).at 5 rfl).at 5 rfl).at 5 rfl)
          obtain ⟨wv, pv, bv, ga, gb, pb, one, O99⟩ := fin3 ((O17.at 2 rfl).at 2 rfl)
          simp (disch := first | assumption | omega | (simp only [wkX, *]; done) | (simp only [wkY]; omega)) only [ga, gb, pb, one, c3, s3, wkF, X_seq, Y_box, Y_store, Y_makeMap, Y_buildSlice, ↓reduceIte, reduceCtorEq, wkS, Nat.reduceAdd, Nat.reduceLeDiff, Nat.reduceMul, Nat.reduceLT, Nat.reduceEqDiff, Int.reduceLT, Int.reduceLE, Int.reduceGT, Int.reduceGE, Int.reduceEq, Int.reduceNe, wkG]
          exact leafO _ (answer2 _ _ _ _ (cellN O99 0 rfl rfl rfl) rfl) ⟨wv, pv, bv, _, _, _, rfl, Or.inr (Or.inr ⟨hf, by rw [hkt]; exact ht, rfl, Or.inr (Or.inr ⟨ho, hf1, Or.inr ⟨l', hl', rfl, rfl⟩⟩)⟩), (O99.drop.at 1 rfl)⟩
    · simp (disch := first | assumption | omega | (simp only [wkX, *]; done) | (simp only [wkY]; omega)) only [hi, wkF, ↓reduceIte, reduceCtorEq, Nat.reduceAdd, Nat.reduceLeDiff, Nat.reduceMul, Nat.reduceLT, Nat.reduceEqDiff, Int.reduceLT, Int.reduceLE, Int.reduceGT, Int.reduceGE, Int.reduceEq, Int.reduceNe, wkG, wkH]
      obtain ⟨wv, pv, bv, ga, gb, pb, one, O99⟩ := fin3 ((O2.at 2 rfl).at 2 rfl)
      simp (disch := first | assumption | omega | (simp only [wkX, *]; done) | (simp only [wkY]; omega)) only [ga, gb, pb, one, c3, s3, wkF, X_seq, Y_box, Y_store, Y_makeMap, Y_buildSlice, ↓reduceIte, reduceCtorEq, wkS, Nat.reduceAdd, Nat.reduceLeDiff, Nat.reduceMul, Nat.reduceLT, Nat.reduceEqDiff, Int.reduceLT, Int.reduceLE, Int.reduceGT, Int.reduceGE, Int.reduceEq, Int.reduceNe, wkG]
      exact leafO _ (answer2 _ _ _ _ (cellN O99 0 rfl rfl rfl) rfl) ⟨wv, pv, bv, _, _, _, rfl, Or.inl ⟨fun x => hi x.2.1, rfl, rfl, rfl⟩, (O99.drop.at 1 rfl)⟩
  · simp (disch := first | assumption | omega | (simp only [wkX, *]; done) | (simp only [wkY]; omega)) only [hr, wkF, ↓reduceIte, reduceCtorEq, Nat.reduceAdd, Nat.reduceLeDiff, Nat.reduceMul, Nat.reduceLT, Nat.reduceEqDiff, Int.reduceLT, Int.reduceLE, Int.reduceGT, Int.reduceGE, Int.reduceEq, Int.reduceNe, wkG, wkH]
    obtain ⟨wv, pv, bv, ga, gb, pb, one, O99⟩ := fin3 ((O2.at 2 rfl).at 2 rfl)
    simp (disch := first | assumption | omega | (simp only [wkX, *]; done) | (simp only [wkY]; omega)) only [ga, gb, pb, one, c3, s3, wkF, X_seq, Y_box, Y_store, Y_makeMap, Y_buildSlice, ↓reduceIte, reduceCtorEq, wkS, Nat.reduceAdd, Nat.reduceLeDiff, Nat.reduceMul, Nat.reduceLT, Nat.reduceEqDiff, Int.reduceLT, Int.reduceLE, Int.reduceGT, Int.reduceGE, Int.reduceEq, Int.reduceNe, wkG]
    exact leafO _ (answer2 _ _ _ _ (cellN O99 0 rfl rfl rfl) rfl) ⟨wv, pv, bv, _, _, _, rfl, Or.inl ⟨fun x => hr x.1, rfl, rfl, rfl⟩, (O99.drop.at 1 rfl)⟩
end
theorem env29 : env 29 = some ir29 := rfl
theorem env48 : env 48 = some ir48 := rfl
def keyW (w : Wr) : Int × En := (w.c, w.e)
structure Ou.Like (o p : Ou) : Prop where
  ew : o.ws.map keyW = p.ws.map keyW
  ep : o.ps = p.ps
  eb : o.bs = p.bs
theorem keyW_rk {A B : List Wr} (h : A.map keyW = B.map keyW) : (A.map toR).map rkey = (B.map toR).map rkey := by
  have e : ∀ A : List Wr, (A.map toR).map rkey = (A.map keyW).map fun x => ((3 : Int), x.1, bE x.2) := by
    intro A
    rw [List.map_map, List.map_map]
    rfl
  rw [e, e, h]
theorem zc_len' (m : Int) : (zc m).length = 1 := rfl
theorem sub_lt2 {a i q : Nat} (hk : q = a - i) (h : i < a) : a - (i + 1) < q := by omega
section
variable {ro : Nat → Option (List Value × Nat)} {h : Heap} {R : List Rs} {n : Nat}
theorem same29_h (m : Po) (hn : 5 < n) (O : Has ro h R) : (callV env (n + 1) (.func (.func 29) #[] #[]) [.agg (mc m).toArray, .agg (mc m).toArray] h).Is fun p => p.1 = .bool true ∧ Has ro p.2 R := by
  refine call_is env29 ?_
  simp (disch := first | assumption | omega | (simp only [wkX, *]; done) | (simp only [wkY]; omega)) only [ir29, Nat.reduceAdd, Nat.reduceSub, wkF, X_seq, Y_store, Y_makeMap, Y_buildSlice, ↓reduceIte, reduceCtorEq, wkO, wkS, Nat.reduceLeDiff, Nat.reduceMul, Nat.reduceLT, Nat.reduceEqDiff, Int.reduceLT, Int.reduceLE, Int.reduceGT, Int.reduceGE, Int.reduceEq, Int.reduceNe, wkN, wkG]
  refine Y_boxO O ?_
  intro b2 h1 O1 _
  simp (disch := first | assumption | omega | (simp only [wkX, *]; done) | (simp only [wkY]; omega)) only [wkF, X_seq, Y_store, Y_makeMap, Y_buildSlice, ↓reduceIte, reduceCtorEq, wkO, wkS, Nat.reduceAdd, Nat.reduceLeDiff, Nat.reduceMul, Nat.reduceLT, Nat.reduceEqDiff, Int.reduceLT, Int.reduceLE, Int.reduceGT, Int.reduceGE, Int.reduceEq, Int.reduceNe, wkG]
  refine Y_boxO O1 ?_
  intro b3 h2 O2 _
  replace O2 : Has ro h2 (Ob b3 (.cells [.int .i64 m.kd, .int .i64 m.cell, .int .u32 m.gen, .int .u64 m.stamp, .int .i64 m.prio, .int .i64 m.hops, .int .i64 m.orig, .int .i64 m.oth, .slice none 0 0] 1 false) :: Ob b2 (.cells [.int .i64 m.kd, .int .i64 m.cell, .int .u32 m.gen, .int .u64 m.stamp, .int .i64 m.prio, .int .i64 m.hops, .int .i64 m.orig, .int .i64 m.oth, .slice none 0 0] 1 false) :: R) := O2
  clear O O1
  have m3 := O2.get 0 rfl
  have m2 := O2.get 1 rfl
  simp (disch := first | assumption | omega | (simp only [wkX, *]; done) | (simp only [wkY]; omega)) only [m2, m3, wkF, ↓reduceIte, reduceCtorEq, Nat.reduceAdd, Nat.reduceLeDiff, Nat.reduceMul, Nat.reduceLT, Nat.reduceEqDiff, Int.reduceLT, Int.reduceLE, Int.reduceGT, Int.reduceGE, Int.reduceEq, Int.reduceNe, wkG, wkH]
  refine L_is (fun q s => q = 0 ∧ s.defers = [] ∧ s.tmps.length = 87 ∧ s.tmps.getD 2 undefV = .pointer (some ⟨b2, 0, none⟩) ∧ s.tmps.getD 3 undefV = .pointer (some ⟨b3, 0, none⟩) ∧ s.tmps.getD 5 undefV = .int .i64 0 ∧ s.h = h2) 0 ?_ (by omega) ?_
  · exact ⟨rfl, rfl, rfl, rfl, rfl, rfl, rfl⟩
  rintro q' tm df h3 ⟨hk, hd, hlen_, g2, g3, g5, hh⟩
  simp only at hd g2 g3 g5 hh
  subst hd hh
  obtain ⟨w, hg_, rfl⟩ := explode hlen_
  simp only [hg_] at g2 g3 g5
  clear hlen_ hg_
  simp (disch := first | assumption | omega | (simp only [wkX, *]; done) | (simp only [wkY]; omega)) only [g2, g3, g5, m2, m3, wkF, ↓reduceIte, reduceCtorEq, Nat.reduceAdd, Nat.reduceLeDiff, Nat.reduceMul, Nat.reduceLT, Nat.reduceEqDiff, Int.reduceLT, Int.reduceLE, Int.reduceGT, Int.reduceGE, Int.reduceEq, Int.reduceNe, wkG, wkH]
  refine Is_in ?_
  simp (disch := first | assumption | omega | (simp only [wkX, *]; done) | (simp only [wkY]; omega)) only [wkF, ↓reduceIte, reduceCtorEq, Nat.reduceAdd, Nat.reduceLeDiff, Nat.reduceMul, Nat.reduceLT, Nat.reduceEqDiff, Int.reduceLT, Int.reduceLE, Int.reduceGT, Int.reduceGE, Int.reduceEq, Int.reduceNe, wkG, wkH]
  exact leaf1 ⟨rfl, (O2.drop).drop⟩
theorem done_h {wv pv bv wv' pv' bv' : Value} {o p : Ou} (k : o.Like p) (hb : o.bs.length = o.ps.length) (l1 : o.ws.length < 100000) (l2 : o.ps.length < 100000) (hn : o.ws.length + o.ps.length + 20 < n) (O : Has ro h (Oo wv pv bv o :: Oo wv' pv' bv' p :: R)) :
    (callV env (n + 3) (.func (.func 48) #[] #[]) [.agg #[wv, pv, bv], .agg #[wv', pv', bv']] h).Is fun q => q.1 = .bool true ∧ Has ro q.2 R := by
  obtain ⟨kw, kp, kb⟩ := k
  have hwl : p.ws.length = o.ws.length := by have := congrArg List.length kw; simpa using this.symm
  have hrk := keyW_rk kw
  refine call_is env48 ?_
  simp (disch := first | assumption | omega | (simp only [wkX, *]; done) | (simp only [wkY]; omega)) only [ir48, Nat.reduceAdd, Nat.reduceSub, wkF, X_seq, Y_store, Y_makeMap, Y_buildSlice, ↓reduceIte, reduceCtorEq, wkO, wkS, Nat.reduceLeDiff, Nat.reduceMul, Nat.reduceLT, Nat.reduceEqDiff, Int.reduceLT, Int.reduceLE, Int.reduceGT, Int.reduceGE, Int.reduceEq, Int.reduceNe, wkN, wkG]
  refine Y_boxO O ?_
  intro b2 h1 O1 _
  simp (disch := first | assumption | omega | (simp only [wkX, *]; done) | (simp only [wkY]; omega)) only [wkF, X_seq, Y_store, Y_makeMap, Y_buildSlice, ↓reduceIte, reduceCtorEq, wkO, wkS, Nat.reduceAdd, Nat.reduceLeDiff, Nat.reduceMul, Nat.reduceLT, Nat.reduceEqDiff, Int.reduceLT, Int.reduceLE, Int.reduceGT, Int.reduceGE, Int.reduceEq, Int.reduceNe, wkG]
  refine Y_boxO O1 ?_
  intro b3 h2 O2 _
  replace O2 : Has ro h2 (Oo wv pv bv o :: Oo wv' pv' bv' p :: Ob b3 (.cells [wv', pv', bv'] 1 false) :: Ob b2 (.cells [wv, pv, bv] 1 false) :: R) := (O2.at 2 rfl).at 3 rfl |>.swap2
  clear O O1
  replace O2 := Has.all.1 O2
  simp only [List.cons_append, List.nil_append] at O2
  replace O2 := Has.all.1 (O2.at 4 rfl)
  simp only [List.cons_append, List.nil_append] at O2
  replace O2 : Has ro h2 (Ob b3 (.cells [wv', pv', bv'] 1 false) :: Ob b2 (.cells [wv, pv, bv] 1 false) :: Sc 3 wc wv o.ws :: Sc 10 pc pv o.ps :: Sc 1 zc bv o.bs :: Dts o.ws :: Sc 3 wc wv' p.ws :: Sc 10 pc pv' p.ps :: Sc 1 zc bv' p.bs :: Dts p.ws :: R) := O2.perm (by
    refine List.Perm.trans ?_ (List.Perm.swap _ _ _)
    have h1 : ∀ (a b c d e f g i x y : Rs), (a :: b :: c :: d :: e :: f :: g :: i :: x :: y :: R).Perm (y :: x :: e :: f :: g :: i :: a :: b :: c :: d :: R) := by
      intro a b c d e f g i x y
      have e1 : (a :: b :: c :: d :: e :: f :: g :: i :: x :: y :: R) = [a, b, c, d] ++ ([e, f, g, i] ++ ([x, y] ++ R)) := rfl
      have e2 : (y :: x :: e :: f :: g :: i :: a :: b :: c :: d :: R) = [y, x] ++ ([e, f, g, i] ++ ([a, b, c, d] ++ R)) := rfl
      rw [e1, e2]
      have e3 : ([a, b, c, d] ++ ([e, f, g, i] ++ ([x, y] ++ R))).Perm ([x, y] ++ ([e, f, g, i] ++ ([a, b, c, d] ++ R))) := by
        refine List.Perm.trans (List.perm_append_comm_assoc _ _ _) ?_
        refine List.Perm.trans (List.Perm.append_left _ (List.perm_append_comm_assoc _ _ _)) ?_
        exact List.perm_append_comm_assoc _ _ _
      exact e3.trans (List.Perm.swap _ _ _)
    exact h1 _ _ _ _ _ _ _ _ _ _)
  obtain ⟨pw, cw, rfl, _⟩ := O2.scVal 2 rfl
  obtain ⟨pp, cp, rfl, _⟩ := O2.scVal 3 rfl
  obtain ⟨pb, cb, rfl, _⟩ := O2.scVal 4 rfl
  obtain ⟨pw', cw', rfl, _⟩ := O2.scVal 6 rfl
  obtain ⟨pp', cp', rfl, _⟩ := O2.scVal 7 rfl
  obtain ⟨pb', cb', rfl, _⟩ := O2.scVal 8 rfl
  rw [← kp, ← kb, hwl] at O2
  replace O2 : Has ro h2 (Ob b3 (.cells [.slice pw' o.ws.length cw', .slice pp' o.ps.length cp', .slice pb' o.bs.length cb'] 1 false) :: Ob b2 (.cells [.slice pw o.ws.length cw, .slice pp o.ps.length cp, .slice pb o.bs.length cb] 1 false) :: Sc 3 wc (.slice pw o.ws.length cw) o.ws :: Sc 10 pc (.slice pp o.ps.length cp) o.ps :: Sc 1 zc (.slice pb o.bs.length cb) o.bs :: Dts o.ws :: Sc 3 wc (.slice pw' o.ws.length cw') p.ws :: Sc 10 pc (.slice pp' o.ps.length cp') o.ps :: Sc 1 zc (.slice pb' o.bs.length cb') o.bs :: Dts p.ws :: R) := O2
  have m3 := O2.get 0 rfl
  have m2 := O2.get 1 rfl
  have hbi : ((o.ps.length : Int) = (o.bs.length : Int)) = True := eq_true (by omega)
  simp (disch := first | assumption | omega | (simp only [wkX, *]; done) | (simp only [wkY]; omega)) only [m2, m3, wkF, ↓reduceIte, reduceCtorEq, Nat.reduceAdd, Nat.reduceLeDiff, Nat.reduceMul, Nat.reduceLT, Nat.reduceEqDiff, Int.reduceLT, Int.reduceLE, Int.reduceGT, Int.reduceGE, Int.reduceEq, Int.reduceNe, wkG, wkH]
  refine Z_is (samerec_h (n := n + 1) (A := o.ws.map toR) (B := p.ws.map toR) (by rw [List.length_map]; omega) (by rw [List.length_map]; omega) hrk (scVw [] h2 (O2.at 2 rfl)) (scVw [] h2 (O2.at 6 rfl)) (fun x hx => ?_) (fun x hx => ?_)) ?_
  · obtain ⟨w, hw, rfl⟩ := List.mem_map.1 hx
    exact Has.dtsVw (O2.at 5 rfl) w hw
  · obtain ⟨w, hw, rfl⟩ := List.mem_map.1 hx
    exact Has.dtsVw (O2.at 9 rfl) w hw
  rintro v h3 e3
  cases e3
  simp (disch := first | assumption | omega | (simp only [wkX, *]; done) | (simp only [wkY]; omega)) only [m2, m3, hbi, wkF, ↓reduceIte, reduceCtorEq, Nat.reduceAdd, Nat.reduceLeDiff, Nat.reduceMul, Nat.reduceLT, Nat.reduceEqDiff, Int.reduceLT, Int.reduceLE, Int.reduceGT, Int.reduceGE, Int.reduceEq, Int.reduceNe, wkG, wkH]
  clear m2 m3
  refine L_is (fun q s => ∃ i : Nat, q = o.ps.length - i ∧ i ≤ o.ps.length ∧ s.defers = [] ∧ s.tmps.length = 88 ∧ s.tmps.getD 2 undefV = .pointer (some ⟨b2, 0, none⟩) ∧ s.tmps.getD 3 undefV = .pointer (some ⟨b3, 0, none⟩) ∧ s.tmps.getD 5 undefV = .int .i64 (i : Int) ∧ Has ro s.h (Ob b3 (.cells [.slice pw' o.ws.length cw', .slice pp' o.ps.length cp', .slice pb' o.bs.length cb'] 1 false) :: Ob b2 (.cells [.slice pw o.ws.length cw, .slice pp o.ps.length cp, .slice pb o.bs.length cb] 1 false) :: Sc 3 wc (.slice pw o.ws.length cw) o.ws :: Sc 10 pc (.slice pp o.ps.length cp) o.ps :: Sc 1 zc (.slice pb o.bs.length cb) o.bs :: Dts o.ws :: Sc 3 wc (.slice pw' o.ws.length cw') p.ws :: Sc 10 pc (.slice pp' o.ps.length cp') o.ps :: Sc 1 zc (.slice pb' o.bs.length cb') o.bs :: Dts p.ws :: R)) o.ps.length ?_ (by omega) ?_
  · exact ⟨0, rfl, Nat.zero_le _, rfl, rfl, rfl, rfl, rfl, O2⟩
  clear O2
  rintro q' tm df h4 ⟨i, hk, hi, hd, hlen_, g2, g3, g5, O4⟩
  simp only at hd g2 g3 g5 O4
  subst hd
  obtain ⟨w, hg_, rfl⟩ := explode hlen_
  simp only [hg_] at g2 g3 g5
  clear hlen_ hg_
  have m3 := O4.get 0 rfl
  have m2 := O4.get 1 rfl
  by_cases h0 : i < o.ps.length
  · have h0' : (i : Int) < (o.ps.length : Int) := by omega
    have h0b : (i : Int) < (o.bs.length : Int) := by omega
    have hi0 : (0 : Int) ≤ (i : Int) := by omega
    have gp : o.ps[i]? = some o.ps[i] := List.getElem?_eq_getElem h0
    have gb : o.bs[i]? = some o.bs[i] := List.getElem?_eq_getElem (by omega)
    generalize o.ps[i] = x at gp
    generalize o.bs[i] = y at gb
    obtain ⟨b4, off4, sp4, c4, hv4, k4, _⟩ := (O4.vw 3 rfl).rd pc_len gp
    obtain ⟨b5, off5, sp5, c5, hv5, k5, _⟩ := (O4.vw 7 rfl).rd pc_len gp
    have e4 : pp = some ⟨b4, off4, sp4⟩ := by injection hv4
    have e5 : pp' = some ⟨b5, off5, sp5⟩ := by injection hv5
    subst e4 e5
    have r40 := k4 0 1 (by decide)
    have r41 := k4 1 9 (by decide)
    have r50 := k5 0 1 (by decide)
    have r51 := k5 1 9 (by decide)
    rw [Nat.add_zero] at r40 r50
    have q0 : readN (pc x) 0 1 = some [.int .i64 x.to] := rfl
    have q1 : readN (pc x) 1 9 = some (mc x) := rfl
    rw [q0] at r40 r50
    rw [q1] at r41 r51
    have yi : IntKind.i64.wrap ((i : Int) + 1) = ((i + 1 : Nat) : Int) := by rw [wrap_i64 (by omega) (by omega)]; omega
    simp (disch := first | assumption | omega | (simp only [wkX, *]; done) | (simp only [wkY]; omega)) only [g2, g3, g5, m2, m3, h0', wkF, ↓reduceIte, reduceCtorEq, Nat.reduceAdd, Nat.reduceLeDiff, Nat.reduceMul, Nat.reduceLT, Nat.reduceEqDiff, Int.reduceLT, Int.reduceLE, Int.reduceGT, Int.reduceGE, Int.reduceEq, Int.reduceNe, wkG, wkH]
    refine X_drawn _ fun an => ?_
    simp (maxSteps := 4000000) (disch := first | assumption | omega | (simp only [wkX, *]; done) | (simp only [wkY]; omega)) only [g2, g3, g5, m2, m3, h0', hi0, Int.toNat_natCast, r40, r41, r50, r51, wkF, ↓reduceIte, reduceCtorEq, Nat.reduceAdd, Nat.reduceLeDiff, Nat.reduceMul, Nat.reduceLT, Nat.reduceEqDiff, Int.reduceLT, Int.reduceLE, Int.reduceGT, Int.reduceGE, Int.reduceEq, Int.reduceNe, wkG, wkH]
    refine DB_is (same29_h (n := n + 1) x (by omega) O4) ?_
    rintro v h5 ⟨rfl, O5⟩
    simp only at O5
    have m3 := O5.get 0 rfl
    have m2 := O5.get 1 rfl
    obtain ⟨b6, off6, sp6, c6, hv6, k6, _⟩ := (O5.vw 4 rfl).rd zc_len' gb
    obtain ⟨b7, off7, sp7, c7, hv7, k7, _⟩ := (O5.vw 8 rfl).rd zc_len' gb
    have e6 : pb = some ⟨b6, off6, sp6⟩ := by injection hv6
    have e7 : pb' = some ⟨b7, off7, sp7⟩ := by injection hv7
    subst e6 e7
    have r60 := k6 0 1 (by decide)
    have r70 := k7 0 1 (by decide)
    have q2 : readN (zc y) 0 1 = some [.int .i64 y] := rfl
    rw [Nat.add_zero, q2, Nat.mul_one] at r60 r70
    simp (maxSteps := 4000000) (disch := first | assumption | omega | (simp only [wkX, *]; done) | (simp only [wkY]; omega)) only [g2, g3, g5, m2, m3, h0b, hi0, Int.toNat_natCast, Nat.mul_one, r60, r70, yi, wkF, ↓reduceIte, reduceCtorEq, Nat.reduceAdd, Nat.reduceLeDiff, Nat.reduceMul, Nat.reduceLT, Nat.reduceEqDiff, Int.reduceLT, Int.reduceLE, Int.reduceGT, Int.reduceGE, Int.reduceEq, Int.reduceNe, wkG, wkH]
    exact Is_in ⟨o.ps.length - (i + 1), sub_lt2 hk h0, i + 1, rfl, h0, rfl, rfl, rfl, rfl, rfl, O5⟩
  · have h0' : ¬ (i : Int) < (o.ps.length : Int) := by omega
    simp (disch := first | assumption | omega | (simp only [wkX, *]; done) | (simp only [wkY]; omega)) only [g2, g3, g5, m2, m3, h0', wkF, ↓reduceIte, reduceCtorEq, Nat.reduceAdd, Nat.reduceLeDiff, Nat.reduceMul, Nat.reduceLT, Nat.reduceEqDiff, Int.reduceLT, Int.reduceLE, Int.reduceGT, Int.reduceGE, Int.reduceEq, Int.reduceNe, wkG, wkH]
    refine Is_in ?_
    simp (disch := first | assumption | omega | (simp only [wkX, *]; done) | (simp only [wkY]; omega)) only [g2, g3, g5, wkF, ↓reduceIte, reduceCtorEq, Nat.reduceAdd, Nat.reduceLeDiff, Nat.reduceMul, Nat.reduceLT, Nat.reduceEqDiff, Int.reduceLT, Int.reduceLE, Int.reduceGT, Int.reduceGE, Int.reduceEq, Int.reduceNe, wkG, wkH]
    exact leaf1 ⟨rfl, ((((((((((O4.drop).drop).drop).drop).drop).drop).drop).drop).drop).drop)⟩
end
def InOrd (l : List It) : Prop := l.Pairwise le
theorem nth_el {l : List It} {i : Nat} (h : i < l.length) : nth l i = l[i] := by
  have := nth_get h
  rw [List.getElem?_eq_getElem h] at this
  exact (Option.some.inj this).symm
theorem sorted_order {l : List It} : Sorted l 0 l.length ↔ InOrd l := by
  unfold Sorted InOrd
  rw [List.pairwise_iff_getElem]
  constructor
  · intro h i j hi hj hij
    rw [← nth_el hi, ← nth_el hj]
    exact h i j (by omega) hij hj
  · intro h i j _ hij hj
    rw [nth_el (by omega), nth_el hj]
    exact h i j (by omega) hj hij
theorem apart_perm {a b : List It} (p : a.Perm b) (h : Apt a) : Apt b := (p.pairwise_iff (fun h => Ne.symm h)).1 h
theorem erase_perm : ∀ {l : List It} {i : Nat}, i < l.length → l.Perm (nth l i :: l.eraseIdx i)
  | [], i, h => by simp at h
  | a :: l, 0, h => List.Perm.refl _
  | a :: l, i + 1, h => ((erase_perm (l := l) (i := i) (by simpa using h)).cons a).trans (List.Perm.swap _ _ _)
theorem set_perm : ∀ {l : List It} {i : Nat}, i < l.length → ∀ (w : It), (l.set i w).Perm (w :: l.eraseIdx i)
  | [], i, h, w => by simp at h
  | a :: l, 0, h, w => List.Perm.refl _
  | a :: l, i + 1, h, w => ((set_perm (l := l) (i := i) (by simpa using h) w).cons a).trans (List.Perm.swap _ _ _)
theorem nth_in {l : List It} {i : Nat} (h : i < l.length) : nth l i ∈ l := List.mem_of_getElem? (nth_get h)
theorem once_apt {l : List It} (h : Once l) : Apt l := by
  unfold Once List.Nodup at h
  rw [List.pairwise_map] at h
  exact h
theorem cutF_none {l : List It} {r : Int} (h : IsPlace l r (-1)) : cutF l r = l := by
  rcases h with ⟨_, h⟩ | ⟨i, h, _⟩
  · refine List.filter_eq_self.2 fun y hy => decide_eq_true ?_
    obtain ⟨j, hj, rfl⟩ := List.getElem_of_mem hy
    rw [← nth_el hj]
    exact h j hj
  · omega
theorem cutF_at : ∀ {l : List It} {r : Int} {i : Nat}, Apt l → i < l.length → (nth l i).r = r → cutF l r = l.eraseIdx i
  | [], r, i, _, h, _ => by simp at h
  | a :: l, r, 0, ha, _, e => by
    have e' : a.r = r := e
    subst e'
    exact cutF_head ha
  | a :: l, r, i + 1, ha, h, e => by
    have e' : (nth l i).r = r := e
    have hi : i < l.length := by simpa using h
    have h1 := List.pairwise_cons.1 ha
    have hne : a.r ≠ r := by rw [← e']; exact h1.1 _ (nth_in hi)
    have ih := cutF_at h1.2 hi e'
    unfold cutF at ih ⊢
    rw [List.filter_cons_of_pos (by simpa using hne), ih]
    rfl
theorem cutis_F {l l' : List It} {r : Int} {a : Bool} (ha : Apt l) (h : CutIs l r a l') : l' = cutF l r := by
  rcases h with ⟨_, p, rfl⟩ | ⟨_, i, p, hi, rfl⟩
  · exact (cutF_none p).symm
  · rcases p with ⟨e, _⟩ | ⟨j, e, _, hr, _⟩
    · omega
    · have : j = i := by omega
      subst this
      exact (cutF_at ha hi hr).symm
theorem ahd_le {x y : It} (h : ahd x y) : le x y := by
  unfold le
  by_cases h1 : x.p = y.p
  · by_cases h2 : x.s = y.s
    · have := (ahd_3 h1 h2).1 h; omega
    · have := (ahd_2 h1 h2).1 h; omega
  · have := (ahd_1 h1).1 h; omega
theorem nahd_le {x y : It} (h : ¬ ahd x y) : le y x := by
  unfold le
  by_cases h1 : x.p = y.p
  · by_cases h2 : x.s = y.s
    · have := Int.not_lt.1 fun k => h ((ahd_3 h1 h2).2 k); omega
    · have := Int.not_lt.1 fun k => h ((ahd_2 h1 h2).2 k); omega
  · have := Int.not_lt.1 fun k => h ((ahd_1 h1).2 k); omega
theorem le_tr {x y z : It} (h : le x y) (k : le y z) : le x z := by unfold le at *; omega
def insR (x : It) : List It → List It
  | [] => [x]
  | y :: L => if ahd x y then x :: y :: L else y :: insR x L
theorem ins_true (x : It) : ∀ (L acc : List It), L.foldl (gput x) (acc, true) = (acc ++ L, true)
  | [], acc => by rw [List.append_nil]; rfl
  | y :: L, acc => by
    rw [List.foldl_cons]
    have : gput x (acc, true) y = (acc ++ [y], true) := if_neg (fun h => by cases h.1)
    rw [this, ins_true x L, List.append_assoc]
    rfl
theorem ins_false (x : It) : ∀ (L acc : List It), (if (L.foldl (gput x) (acc, false)).2 then (L.foldl (gput x) (acc, false)).1 else (L.foldl (gput x) (acc, false)).1 ++ [x]) = acc ++ insR x L
  | [], acc => rfl
  | y :: L, acc => by
    rw [List.foldl_cons]
    by_cases h : ahd x y
    · have : gput x (acc, false) y = (acc ++ [x] ++ [y], true) := if_pos ⟨rfl, h⟩
      rw [this, ins_true, if_pos rfl]
      unfold insR
      rw [if_pos h, List.append_assoc, List.append_assoc]
      rfl
    · have : gput x (acc, false) y = (acc ++ [y], false) := if_neg (fun k => h k.2)
      rw [this, ins_false x L, List.append_assoc]
      show _ = acc ++ (if ahd x y then x :: y :: L else y :: insR x L)
      rw [if_neg h]
      rfl
theorem insX_R (x : It) (L : List It) : insX x L = insR x L := ins_false x L []
theorem insR_perm (x : It) : ∀ L, (insR x L).Perm (x :: L)
  | [] => List.Perm.refl _
  | y :: L => by
    unfold insR
    split
    · exact List.Perm.refl _
    · exact ((insR_perm x L).cons y).trans (List.Perm.swap _ _ _)
theorem insR_ord (x : It) : ∀ {L}, InOrd L → InOrd (insR x L)
  | [], _ => List.pairwise_singleton _ _
  | y :: L, h => by
    have h1 := List.pairwise_cons.1 h
    unfold insR
    split
    · rename_i hx
      have hx' := ahd_le hx
      refine List.pairwise_cons.2 ⟨fun z hz => ?_, h⟩
      rcases List.mem_cons.1 hz with rfl | hz
      · exact hx'
      · exact le_tr hx' (h1.1 z hz)
    · rename_i hx
      refine List.pairwise_cons.2 ⟨fun z hz => ?_, insR_ord x h1.2⟩
      rcases List.mem_cons.1 ((insR_perm x L).mem_iff.1 hz) with rfl | hz
      · exact nahd_le hx
      · exact h1.1 z hz
theorem put_doc {l l' : List It} {x : It} {a : Bool} {er : Int} (ha : Apt l) (ho : InOrd l) (h8 : l.length ≤ 8) (hb : ¬ BadW x) (h : PutIs l x a er l') :
    (a = false ∧ ¬ Hold l x ∧ 8 ≤ (cutF l x.r).length ∧ l' = l) ∨
      (a = true ∧ InOrd l' ∧ ((Hold l x ∧ l' = l) ∨ (¬ Hold l x ∧ (cutF l x.r).length < 8 ∧ l' = insX x (cutF l x.r)))) := by
  have hno : IsPlace l x.r (-1) → ¬ Hold l x := by
    rintro (⟨_, k⟩ | ⟨i, e, _⟩) ⟨y, hy, hr, _⟩
    · obtain ⟨j, hj, rfl⟩ := List.getElem_of_mem hy
      exact k j hj (by rw [nth_el hj]; exact hr)
    · omega
  rcases h with ⟨b, _⟩ | ⟨_, p, h8', rfl, _, rfl⟩ | ⟨_, rfl, _, l2, pt, q1, q2, q3⟩
  · exact absurd b hb
  · exact Or.inl ⟨rfl, hno p, by rw [cutF_none p]; exact h8', rfl⟩
  · refine Or.inr ⟨rfl, sorted_order.1 q3, ?_⟩
    have uq : ∀ {m : List It}, InOrd m → m.Perm l2 → l' = m := fun hm hp => sorted_uniq q3 (sorted_order.2 hm) fun y => by rw [q2, hp.count_eq]
    have hins : ∀ {L : List It}, InOrd L → InOrd (insX x L) := fun h => by rw [insX_R]; exact insR_ord x h
    have hprm : ∀ (L : List It), (insX x L).Perm (x :: L) := fun L => by rw [insX_R]; exact insR_perm x L
    rcases pt with ⟨p, hl, rfl⟩ | ⟨i, p, hi, ⟨hp, rfl⟩ | ⟨hp, el⟩⟩
    · rw [cutF_none p]
      refine Or.inr ⟨hno p, hl, uq (hins ho) ((hprm l).trans ?_)⟩
      exact (List.perm_append_comm (l₁ := [x]) (l₂ := l))
    · have hr : (nth l i).r = x.r := by
        rcases p with ⟨e, _⟩ | ⟨j, e, _, hr, _⟩
        · omega
        · have : j = i := by omega
          subst this
          exact hr
      have hc := cutF_at ha hi hr
      have hlen : (l.eraseIdx i).length + 1 = l.length := by rw [List.length_eraseIdx, if_pos hi]; omega
      refine Or.inr ⟨?_, by rw [hc]; omega, ?_⟩
      · rintro ⟨y, hy, hyr, hyp⟩
        rcases List.mem_cons.1 ((erase_perm hi).mem_iff.1 hy) with rfl | hy
        · omega
        · have h1 := List.pairwise_cons.1 (apart_perm (erase_perm hi) ha)
          exact h1.1 y hy (by rw [hr, hyr])
      · rw [hc]
        exact uq (hins (ho.sublist (List.eraseIdx_sublist _ _))) ((hprm _).trans (set_perm hi x).symm)
    · have el' := el.symm
      subst el'
      refine Or.inl ⟨⟨nth l i, nth_in hi, ?_, by omega⟩, uq ho (List.Perm.refl _)⟩
      rcases p with ⟨e, _⟩ | ⟨j, e, _, hr, _⟩
      · omega
      · have : j = i := by omega
        subst this
        exact hr
structure Sim (S : Ls) (F : Rf) : Prop where
  v : Nv S
  g : Gi S
  so : ∀ c, InOrd (S.W c)
  wi : ∀ c, S.W c ≠ [] → S.Is c
  hh : F.home = S.home
  hr : (F.rob : Int) = S.rob
  hC : (F.C : Int) = S.cells
  e : ∀ c : Nat, F.E c = S.E (c : Int)
  q : ∀ c : Nat, F.W c = S.W (c : Int)
  t : ∀ r : Nat, r < F.rob → (F.T r = 0 ↔ ¬ 0 < S.T (r : Int))
theorem eo_range {S : Ls} (v : Nv S) (c : Int) : -1 ≤ (S.E c).o ∧ (S.E c).o < S.rob := by
  have hr := v.w.z.r1
  unfold Ls.E
  cases h : lk S.ents c with
  | none => exact ⟨Int.le_refl _, by show (-1 : Int) < S.rob; omega⟩
  | some e => exact (v.e c e h).2.2
theorem eo_not {S : Ls} (v : Nv S) {c : Int} (h : ¬ S.Is c) : S.E c = e0 := by
  unfold Ls.E
  cases hl : lk S.ents c with
  | none => rfl
  | some e => exact absurd (v.e c e hl).2.1 h
theorem sim_rw {S : Ls} {F : Rf} (m : Sim S F) : Rw F := by
  have z := m.v.w.z
  have h1 := m.hr
  have h2 := m.hC
  have z1 := z.r1
  have z2 := z.r2
  have z3 := z.c1
  have z4 := z.c2
  refine ⟨⟨by omega, by omega, by omega, by omega, fun c => ?_, fun c => ?_, fun c => ?_⟩, fun c => ?_, fun c w hw => ?_⟩
  · rw [m.e]; exact m.v.w.g c
  · rw [m.e, m.hr]; exact eo_range m.v c
  · rw [m.q]; exact m.v.w.w8 c
  · rw [m.q]; exact once_apt (m.g.c c).o
  · rw [m.q] at hw
    have := m.v.q c w hw
    omega
theorem sim_is {S : Ls} {F : Rf} (m : Sim S F) (c : Int) : F.Is c ↔ S.Is c := by
  unfold Rf.Is Ls.Is
  have z1 := m.v.w.z.r1
  rw [m.hC, m.hr, m.hh]
  exact ⟨fun h => ⟨by omega, h⟩, fun h => h.2⟩
theorem sim_rob {S : Ls} {F : Rf} (m : Sim S F) (r : Int) : F.Rob r ↔ S.Rob r := by
  unfold Rf.Rob Ls.Rob
  have z1 := m.v.w.z.r1
  rw [m.hr]
  exact ⟨fun h => ⟨by omega, h⟩, fun h => h.2⟩
theorem sim_put {S S' : Ls} {F : Rf} (m : Sim S F) {k : Nat} {e : En} {l : List It} (hv : Nv S') (hg : Gi S') (hl : InOrd l) (hi : l ≠ [] → S.Is (k : Int)) (hs : S.Same S') (hE : ∀ x, S'.E x = if x = (k : Int) then e else S.E x) (hW : ∀ x, S'.W x = if x = (k : Int) then l else S.W x) (hT : ∀ x, S'.T x = S.T x) : Sim S' (F.put k e l) := by
  refine ⟨hv, hg, fun c => ?_, fun c hc => ?_, m.hh.trans hs.1.symm, m.hr.trans hs.2.1.symm, m.hC.trans hs.2.2.symm, fun c => ?_, fun c => ?_, fun r hr => ?_⟩
  · rw [hW]
    split
    · exact hl
    · exact m.so c
  · rw [is_eq hs]
    rw [hW] at hc
    split at hc
    · rename_i e
      rw [e]
      exact hi hc
    · exact m.wi c hc
  · show (if c = k then e else F.E c) = _
    rw [hE]
    by_cases h : c = k
    · rw [if_pos h, if_pos (by omega)]
    · rw [if_neg h, if_neg (by omega), m.e]
  · show (if c = k then l else F.W c) = _
    rw [hW]
    by_cases h : c = k
    · rw [if_pos h, if_pos (by omega)]
    · rw [if_neg h, if_neg (by omega), m.q]
  · rw [hT]
    exact m.t r hr
theorem put_self (F : Rf) (k : Nat) : F.put k (F.E k) (F.W k) = F := by
  unfold Rf.put
  have h1 : (fun x => if x = k then F.E k else F.E x) = F.E := by
    funext x
    split
    · rename_i e; rw [e]
    · rfl
  have h2 : (fun x => if x = k then F.W k else F.W x) = F.W := by
    funext x
    split
    · rename_i e; rw [e]
    · rfl
  rw [h1, h2]
theorem Ou.Like.refl (o : Ou) : o.Like o := ⟨rfl, rfl, rfl⟩
theorem Ou.Like.len {o p : Ou} (l : o.Like p) : o.ws.length = p.ws.length := by have := congrArg List.length l.ew; simpa using this
theorem like_wr {o p : Ou} (l : o.Like p) (c : Int) (e : En) (d d2 : Option Nat) : (o.wr c e d).Like (p.wr c e d2) := by
  refine ⟨?_, l.ep, l.eb⟩
  show (o.ws ++ [_]).map keyW = (p.ws ++ [_]).map keyW
  rw [List.map_append, List.map_append, l.ew]
  rfl
theorem like_post {o p : Ou} (l : o.Like p) (m : Po) : (o.post m).Like (p.post m) := by
  refine ⟨l.ew, ?_, ?_⟩
  · show o.ps ++ [m] = p.ps ++ [m]
    rw [l.ep]
  · show o.bs ++ [(o.ws.length : Int)] = p.bs ++ [(p.ws.length : Int)]
    rw [l.eb, l.len]
theorem like_denies (c : Int) : ∀ (W : List It) {o p : Ou}, o.Like p → (o.denies c W).Like (p.denies c W)
  | [], o, p, l => l
  | w :: W, o, p, l => like_denies c W (like_post l (dny w c (-1)))
theorem sim_free {S S' : Ls} {F F' : Rf} {o o' p p' : Ou} {k : Nat} (m : Sim S F) (hi : S.Is (k : Int)) (l : o.Like p) (h : FreeTo S o (k : Int) S' o') (j : RFree F p k F' p') : o'.Like p' ∧ Sim S' F' ∧ S.Same S' := by
  have hv := (nv_free m.v hi h).1
  have hg := (gi_free m.g h).1
  have hs := (free_wf m.v.w h).2
  have hso := m.so (k : Int)
  obtain ⟨d2, j⟩ := j
  rw [m.e, m.q] at j
  obtain ⟨d, ⟨hm, rfl, rfl⟩ | ⟨hm, hW, rfl, rfl⟩ | ⟨hm, w, rest, d3, hW, rfl, rfl⟩⟩ := h
  · rcases j with ⟨_, rfl, rfl⟩ | ⟨hm2, _⟩ | ⟨hm2, _⟩
    · refine ⟨like_denies _ _ (like_wr l _ _ _ _), sim_put m hv hg List.Pairwise.nil (fun h => absurd rfl h) hs (fun x => ?_) (fun x => rfl) (fun x => rfl), hs⟩
      rw [E_setW, E_set]
    · exact absurd hm hm2
    · exact absurd hm hm2
  · rcases j with ⟨hm2, _⟩ | ⟨_, _, rfl, rfl⟩ | ⟨_, w2, rest2, _, hW2, _⟩
    · exact absurd hm2 hm
    · refine ⟨like_wr l _ _ _ _, sim_put m hv hg List.Pairwise.nil (fun h => absurd rfl h) hs (fun x => ?_) (fun x => ?_) (fun x => rfl), hs⟩
      · rw [E_set]
      · show S.W x = _
        split
        · rename_i e; rw [e]; exact hW
        · rfl
    · rw [hW] at hW2; cases hW2
  · rcases j with ⟨hm2, _⟩ | ⟨_, hW2, _⟩ | ⟨_, w2, rest2, d4, hW2, rfl, rfl⟩
    · exact absurd hm2 hm
    · rw [hW] at hW2; cases hW2
    · rw [hW] at hW2
      obtain ⟨rfl, rfl⟩ := List.cons.inj hW2
      rw [hW] at hso
      refine ⟨like_post (like_wr (like_wr l _ _ _ _) _ _ _ _) _, sim_put m hv hg (List.pairwise_cons.1 hso).2 (fun _ => hi) hs (fun x => ?_) (fun x => rfl) (fun x => rfl), hs⟩
      rw [E_set, E_setW, E_set]
      split
      · rfl
      · rfl
theorem gn_cut {S : Ls} {F : Rf} (m : Sim S F) {r : Int} {W0 : Int → List It} (h : Gn S r S.N W0) (c : Int) : W0 c = cutF (S.W c) r := by
  by_cases hc : S.Is c
  · obtain ⟨i, hi⟩ := is_at m.v.w.z hc
    have hN : i < S.N := (lt_N m.v.w.z i).2 (by rw [← hi]; exact hc.2.2.1)
    obtain ⟨a, k⟩ := h.on i hN
    rw [hi]
    exact cutis_F (once_apt (m.g.c _).o) k
  · have hW : S.W c = [] := Classical.byContradiction fun hn => hc (m.wi c hn)
    rw [h.off c fun i hi e => hc (by rw [e]; exact at_is m.v.w.z hi), hW]
    rfl
theorem sim_cut {S : Ls} {F : Rf} (m : Sim S F) {r : Int} {W0 : Int → List It} (h : Gn S r S.N W0) : Sim { S with W := W0 } (F.cutAll r F.C) := by
  have hc := gn_cut m h
  refine ⟨nv_gone m.v h, gi_gone m.g h, fun c => ?_, fun c hn => ?_, m.hh, m.hr, m.hC, m.e, fun c => ?_, m.t⟩
  · show InOrd (W0 c)
    rw [hc]
    exact (m.so c).sublist (cutF_sub _ _)
  · have hn' : W0 c ≠ [] := hn
    rw [hc] at hn'
    exact m.wi c fun e => hn' (by rw [e]; rfl)
  · show (if c < F.C then cutF (F.W c) r else F.W c) = W0 (c : Int)
    rw [hc, m.q]
    split
    · rfl
    · have : S.W (c : Int) = [] := Classical.byContradiction fun hn => by
        have h1 := (m.wi _ hn).2.2.1
        have h2 := m.hC
        omega
      rw [this]
      rfl
theorem T_upd2 (S : Ls) (r x v : Int) : ({ S with told := upd1 S.told r v } : Ls).T x = if x = r then v else S.T x := by
  unfold Ls.T
  show (lk (upd1 S.told r v) x).getD 0 = _
  rw [lk_upd]
  split <;> rfl
theorem sim_tell {S : Ls} {F : Rf} (m : Sim S F) (r : Nat) {v : Int} (hv : v = 0 ↔ ¬ 0 < v) : Sim { S with told := upd1 S.told (r : Int) v } (F.tell r v) := by
  refine ⟨nv_told m.v _, gi_told m.g _, m.so, m.wi, m.hh, m.hr, m.hC, m.e, m.q, fun x hx => ?_⟩
  rw [T_upd2]
  show (if x = r then v else F.T x) = 0 ↔ _
  by_cases h : x = r
  · rw [if_pos h, if_pos (by omega)]
    exact hv
  · rw [if_neg h, if_neg (by omega)]
    exact m.t x hx
theorem at_lt' {S : Ls} (z : Sz S) {i j : Nat} : S.at i < S.at j ↔ i < j := by
  unfold Ls.at
  have h1 := z.r1
  constructor
  · intro h
    rcases Nat.lt_or_ge i j with k | k
    · exact k
    · have : (j : Int) * S.rob ≤ (i : Int) * S.rob := Int.mul_le_mul_of_nonneg_right (by omega) (by omega)
      omega
  · intro h
    have : ((i : Int) + 1) * S.rob ≤ (j : Int) * S.rob := Int.mul_le_mul_of_nonneg_right (by omega) (by omega)
    rw [Int.add_mul, Int.one_mul] at this
    omega
theorem sim_stto {S0 : Ls} {F0 : Rf} {r : Int} {L : List En} (m0 : Sim S0 F0) (hr : 0 ≤ r) : ∀ {k : Nat} {F' : Rf} {p' : Ou} {mm : Nat} {S' : Ls} {o' : Ou}, k ≤ F0.C → (∀ i, i < mm ↔ S0.at i < (k : Int)) → StTo S0 r L mm S' o' → RStTo F0 r L k F' p' → o'.Like p' ∧ Sim S' F' ∧ S0.Same S'
  | 0, F', p', mm, S', o', _, hm, h, j => by
    have : mm = 0 := by
      rcases Nat.eq_zero_or_pos mm with e | e
      · exact e
      · have h1 := (hm 0).1 e
        have h2 := (at_pos m0.v.w.z 0).1
        omega
    subst this
    obtain ⟨rfl, rfl⟩ := h
    obtain ⟨rfl, rfl⟩ := j
    exact ⟨Ou.Like.refl _, m0, Ls.Same.refl _⟩
  | k + 1, F', p', mm, S', o', hkC, hm, h, ⟨F1, p1, hF, st⟩ => by
    have z := m0.v.w.z
    by_cases hi : S0.Is (k : Int)
    · obtain ⟨j, hj⟩ := is_at z hi
      have e1 : mm = j + 1 := by
        have h1 := (hm j).2 (by rw [← hj]; omega)
        rcases Nat.lt_or_ge (j + 1) mm with h2 | h2
        · have h3 := (hm (j + 1)).1 h2
          have h4 := (at_lt' z (i := j) (j := j + 1)).2 (by omega)
          omega
        · omega
      subst e1
      obtain ⟨S1, o1, hS, st'⟩ := h
      obtain ⟨l1, m1, s1⟩ := sim_stto m0 hr (by omega) (fun i => by rw [hj]; exact (at_lt' z).symm) hS hF
      rw [← hj] at st'
      rw [m1.e] at st
      have hi1 := (is_eq s1 (k : Int)).2 hi
      rcases st with ⟨c1, f1⟩ | ⟨c1, rfl, rfl⟩ <;> rcases st' with ⟨c2, f2⟩ | ⟨c2, rfl, rfl⟩
      · obtain ⟨l2, m2, s2⟩ := sim_free m1 hi1 l1 f2 f1
        exact ⟨l2, m2, s1.trans s2⟩
      · exact absurd c1 c2
      · exact absurd c2 c1
      · exact ⟨l1, m1, s1⟩
    · have hC := m0.hC
      have hne : ∀ i, S0.at i ≠ (k : Int) := fun i e => hi (by rw [← e]; exact at_is z ((lt_N z i).2 (by rw [e]; omega)))
      obtain ⟨l1, m1, s1⟩ := sim_stto m0 hr (mm := mm) (by omega) (fun i => by
        have h1 := hne i
        have h2 := hm i
        rw [h2]
        omega) h hF
      have he := eo_not m1.v (fun h => hi ((is_eq s1 (k : Int)).1 h))
      rw [m1.e, he] at st
      rcases st with ⟨⟨c1, _⟩, _⟩ | ⟨_, rfl, rfl⟩
      · have c1' : (-1 : Int) = r := c1
        omega
      · exact ⟨l1, m1, s1⟩
theorem sim_rel {S S' : Ls} {F F' : Rf} {r c g e f : Int} {o' p' : Ou} (m : Sim S F) (h : RelIs S r c g e S' o') (j : RRel F r c g f F' p') : e = f ∧ o'.Like p' ∧ Sim S' F' := by
  unfold RRel at j
  rw [sim_rob m, sim_is m] at j
  rcases h with ⟨n1, rfl, rfl, rfl⟩ | ⟨n1, rfl, n2, h⟩ | ⟨n1, rfl, n2, rfl, rfl⟩ <;> rcases j with ⟨k1, rfl, rfl, rfl⟩ | ⟨k1, rfl, k2, j⟩ | ⟨k1, rfl, k2, rfl, rfl⟩
  · exact ⟨rfl, Ou.Like.refl _, m⟩
  · exact absurd k1 n1
  · exact absurd k1 n1
  · exact absurd n1 k1
  · obtain ⟨k, rfl⟩ : ∃ k : Nat, c = (k : Int) := ⟨c.toNat, by have := n1.2.2.1; omega⟩
    obtain ⟨l, m', _⟩ := sim_free m n1.2 (Ou.Like.refl oz) h j
    exact ⟨rfl, l, m'⟩
  · obtain ⟨k, rfl⟩ : ∃ k : Nat, c = (k : Int) := ⟨c.toNat, by have := n1.2.2.1; omega⟩
    rw [m.e] at k2
    exact absurd n2 k2
  · exact absurd n1 k1
  · obtain ⟨k, rfl⟩ : ∃ k : Nat, c = (k : Int) := ⟨c.toNat, by have := n1.2.2.1; omega⟩
    rw [m.e] at k2
    exact absurd k2 n2
  · exact ⟨rfl, Ou.Like.refl _, m⟩
theorem sim_stat {S S' : Ls} {F F' : Rf} {r e f : Int} {L : List En} {o' p' : Ou} (m : Sim S F) (h : StatIs S r L e S' o') (j : RStat F r L f F' p') : e = f ∧ o'.Like p' ∧ Sim S' F' := by
  unfold RStat at j
  rw [sim_rob m] at j
  rcases h with ⟨n1, rfl, rfl, rfl⟩ | ⟨n1, rfl, W0, Sk, hg, hs, rfl⟩ <;> rcases j with ⟨k1, rfl, rfl, rfl⟩ | ⟨k1, rfl, F1, hf, rfl⟩
  · exact ⟨rfl, Ou.Like.refl _, m⟩
  · exact absurd k1 n1
  · exact absurd n1 k1
  · have mc := sim_cut m hg
    obtain ⟨l, m1, s1⟩ := sim_stto mc n1.2.1 (k := F.C) (mm := S.N) (Nat.le_refl _) (fun i => by
      rw [m.hC]
      exact lt_N m.v.w.z i) hs hf
    have ht := sim_tell m1 r.toNat (v := 1) (by decide)
    have e1 : ((r.toNat : Nat) : Int) = r := Int.toNat_of_nonneg n1.2.1
    rw [e1] at ht
    exact ⟨rfl, l, ht⟩
theorem sim_ren {S S' : Ls} {F F' : Rf} {r : Int} (m : Sim S F) (h : RenIs S r S') (j : RRen F r F') : Sim S' F' := by
  unfold RRen at j
  rw [sim_rob m, m.hh] at j
  rcases h with ⟨n1, rfl⟩ | ⟨n1, W, hg, rfl⟩
  · rcases j with ⟨_, rfl⟩ | ⟨k1, _⟩ | ⟨k1, _⟩
    · exact m
    · exact absurd k1 n1
    · exact absurd k1 n1
  · have mc := sim_cut m hg
    rcases j with ⟨k1, _⟩ | ⟨_, hh, rfl⟩ | ⟨_, hh, rfl⟩
    · exact absurd n1 k1
    · rw [if_pos hh]
      exact mc
    · rw [if_neg hh]
      have ht := sim_tell mc r.toNat (v := 0) (by decide)
      have e1 : ((r.toNat : Nat) : Int) = r := Int.toNat_of_nonneg n1.2.1
      rw [e1] at ht
      exact ht
def PLike (rv rv' : Value) (D D' : Rs) : Prop := (rv = .agg #[.int .i64 0, .int .i64 0, .slice none 0 0] ∧ D = Rs.emp ∧ rv' = .agg #[.int .i64 0, .int .i64 0, .slice none 0 0] ∧ D' = Rs.emp) ∨
  ∃ c r d d', rv = .agg (wc ⟨c, ⟨r, 1⟩, d⟩).toArray ∧ D = Dt d ⟨r, 1⟩ ∧ rv' = .agg (wc ⟨c, ⟨r, 1⟩, d'⟩).toArray ∧ D' = Dt d' ⟨r, 1⟩
theorem sim_pla {S S' : Ls} {F F' : Rf} {c r e f : Int} {rv rv' : Value} {D D' : Rs} (m : Sim S F) (h : PlaIs S c r e S' rv D) (j : RPla F c r f F' rv' D') : e = f ∧ PLike rv rv' D D' ∧ Sim S' F' := by
  have w : Nv S' := by
    rcases stw_pla m.v h with ⟨_, _, k⟩ | ⟨_, _, _, _, k⟩
    · exact k.1
    · exact k.1
  have st := stp_pla m.g h
  unfold RPla at j
  rw [sim_rob m, sim_is m] at j
  rcases h with ⟨n1, rfl, rfl, rfl, rfl⟩ | ⟨n1, n2, rfl, rfl, rfl, rfl⟩ | ⟨n1, n2, rfl, rfl, d, rfl, rfl⟩ <;> rcases j with ⟨k1, rfl, rfl, rfl, rfl⟩ | ⟨k1, k2, rfl, rfl, rfl, rfl⟩ | ⟨k1, k2, rfl, rfl, d', rfl, rfl⟩
  · exact ⟨rfl, Or.inl ⟨rfl, rfl, rfl, rfl⟩, m⟩
  · exact absurd k1 n1
  · exact absurd k1 n1
  · exact absurd n1 k1
  · exact ⟨rfl, Or.inl ⟨rfl, rfl, rfl, rfl⟩, m⟩
  · obtain ⟨k, rfl⟩ : ∃ k : Nat, c = (k : Int) := ⟨c.toNat, by have := n1.1.2.1; omega⟩
    rw [m.e] at k2
    exact absurd k2 n2
  · exact absurd n1 k1
  · obtain ⟨k, rfl⟩ : ∃ k : Nat, c = (k : Int) := ⟨c.toNat, by have := n1.1.2.1; omega⟩
    rw [m.e] at k2
    exact absurd n2 k2
  · obtain ⟨k, rfl⟩ : ∃ k : Nat, c = (k : Int) := ⟨c.toNat, by have := n1.1.2.1; omega⟩
    refine ⟨rfl, Or.inr ⟨_, _, d, d', rfl, rfl, rfl, rfl⟩, ?_⟩
    have hq := m.q k
    have hq2 : F.W (Int.toNat (k : Int)) = S.W (k : Int) := hq
    rw [hq2]
    refine sim_put m w st.1 (m.so _) (m.wi _) st.2.1 (fun x => E_set _ _ _ _) (fun x => ?_) (fun x => rfl)
    show S.W x = _
    split
    · rename_i e; rw [e]; rfl
    · rfl
theorem sim_fine {S : Ls} {F : Rf} (m : Sim S F) (r c p : Int) : F.Fine r c p ↔ S.Fine r c p := by
  unfold Rf.Fine Ls.Fine
  rw [sim_rob m, sim_is m]
theorem sim_req {S S' : Ls} {F F' : Rf} {w : It} {c e f : Int} {o' p' : Ou} (m : Sim S F) (h : ReqIs S w c e S' o') (j : RReq F w c f F' p') : e = f ∧ o'.Like p' ∧ Sim S' F' := by
  have hv := (stw_req m.v h).1
  have st := stp_req m.g h
  unfold RReq at j
  rw [sim_fine m] at j
  have ht : S.Fine w.r c w.p → (F.T w.r.toNat = 0 ↔ ¬ 0 < S.T w.r) := by
    intro hf
    have h1 := m.t w.r.toNat (by have := hf.1.2.2; have := hf.1.2.1; have := m.hr; omega)
    rw [Int.toNat_of_nonneg hf.1.2.1] at h1
    exact h1
  rcases h with ⟨n1, rfl, rfl, rfl⟩ | ⟨n1, n2, rfl, rfl, rfl⟩ | ⟨n1, n2, rfl, h⟩ <;> rcases j with ⟨k1, rfl, rfl, rfl⟩ | ⟨k1, k2, rfl, rfl, rfl⟩ | ⟨k1, k2, rfl, j⟩
  · exact ⟨rfl, Ou.Like.refl _, m⟩
  · exact absurd k1 n1
  · exact absurd k1 n1
  · exact absurd n1 k1
  · exact ⟨rfl, Ou.Like.refl _, m⟩
  · exact absurd ((ht n1).2 n2) k2
  · exact absurd n1 k1
  · exact absurd n2 ((ht n1).1 k2)
  · have ha := once_apt (m.g.c c).o
    have hso := m.so c
    have h8 := m.v.w.w8 c
    have hi := n1.2.1
    have hbad : ¬ BadW w := by
      have h1 := n1.1.2
      have h2 := n1.2.2
      have h3 := m.v.w.z.r2
      unfold BadW
      omega
    obtain ⟨k, rfl⟩ : ∃ k : Nat, c = (k : Int) := ⟨c.toNat, by have := n1.2.1.2.1; omega⟩
    unfold RAsk at j
    rw [Int.toNat_natCast, m.e, m.q] at j
    have hr0 := n1.1.2.1
    refine ⟨rfl, ?_⟩
    rcases h with ⟨h1, rfl, rfl⟩ | ⟨h1, d, rfl, rfl⟩ | ⟨h1, h2, qs', a, er, l', h3, h4, rfl, rfl⟩
    · rcases j with ⟨_, rfl, rfl⟩ | ⟨j1, _⟩ | ⟨j1, _⟩
      · exact ⟨Ou.Like.refl _, m⟩
      · exact absurd h1 j1
      · exact absurd h1 j1
    · rcases j with ⟨j1, _⟩ | ⟨_, _, j⟩ | ⟨_, j1, _⟩
      · omega
      · unfold Ls.grant at hv st ⊢
        unfold Ou.grant
        rcases j with ⟨hm, rfl, rfl⟩ | ⟨hm, d', rfl, rfl⟩
        · rw [if_pos hm, if_pos hm]
          exact ⟨Ou.Like.refl _, m⟩
        · rw [if_neg hm] at hv st ⊢
          rw [if_neg hm]
          refine ⟨like_post (like_wr (Ou.Like.refl _) _ _ _ _) _, sim_put m hv st.1 hso (m.wi _) st.2.1 (fun x => E_set _ _ _ _) (fun x => ?_) (fun x => rfl)⟩
          show S.W x = _
          split
          · rename_i e; rw [e]
          · rfl
      · exact absurd h1 j1
    · rcases j with ⟨j1, _⟩ | ⟨_, j1, _⟩ | ⟨_, _, j⟩
      · exact absurd j1 h1
      · exact absurd j1 h2
      · rcases put_doc ha hso h8 hbad h4 with ⟨rfl, hn, hc8, rfl⟩ | ⟨rfl, hord, hl⟩
        · rcases j with ⟨_, _, rfl, rfl⟩ | ⟨l2, j, _⟩
          · refine ⟨Ou.Like.refl _, ?_⟩
            have hs := sim_put m (k := k) (e := S.E (k : Int)) (l := S.W (k : Int)) hv st.1 hso (m.wi _) st.2.1 (fun x => ?_) (fun x => rfl) (fun x => rfl)
            · rw [← m.e, ← m.q, put_self] at hs
              rw [← m.q]
              exact hs
            · show S.E x = _
              split
              · rename_i e; rw [e]
              · rfl
          · rcases j with ⟨j1, _⟩ | ⟨_, j1, _⟩
            · exact absurd j1 hn
            · omega
        · rcases j with ⟨j1, j2, _⟩ | ⟨l2, j, rfl, rfl⟩
          · rcases hl with ⟨h5, _⟩ | ⟨_, h5, _⟩
            · exact absurd h5 j1
            · omega
          · have el : l2 = l' := by
              rcases hl with ⟨h5, rfl⟩ | ⟨h5, _, rfl⟩ <;> rcases j with ⟨h6, rfl⟩ | ⟨h6, _, rfl⟩
              · rfl
              · exact absurd h5 h6
              · exact absurd h6 h5
              · rfl
            subst el
            refine ⟨Ou.Like.refl _, sim_put m hv st.1 hord (fun _ => hi) st.2.1 (fun x => ?_) (fun x => rfl) (fun x => rfl)⟩
            show S.E x = _
            split
            · rename_i e; rw [e]
            · rfl
theorem env22 : env 22 = some ir22 := rfl
structure Bal (o : Ou) : Prop where
  b : o.bs.length = o.ps.length
  w : o.ws.length ≤ 2048
  p : o.ps.length ≤ 8192
theorem bal_oz : Bal oz := ⟨rfl, Nat.zero_le _, Nat.zero_le _⟩
theorem bal_free {S S' : Ls} {o o' : Ou} {c : Int} (h : FreeTo S o c S' o') (b : o.bs.length = o.ps.length) : o'.bs.length = o'.ps.length := by
  obtain ⟨d, ⟨_, _, rfl⟩ | ⟨_, _, _, rfl⟩ | ⟨hg, x, rest, d2, hW, _, rfl⟩⟩ := h
  · obtain ⟨_, e2, e3⟩ := denies_len (S.W c) (o.wr c ⟨-1, (S.E c).g⟩ d) (c := c)
    rw [e2, e3]
    show o.bs.length + _ = o.ps.length + _
    omega
  · exact b
  · simp only [Ou.wr, Ou.post, List.length_append, List.length_cons, List.length_nil]
    omega
theorem bal_stto {S0 : Ls} {r : Int} {L : List En} : ∀ {k : Nat} {S' : Ls} {o' : Ou}, StTo S0 r L k S' o' → o'.bs.length = o'.ps.length
  | 0, S', o', ⟨_, h2⟩ => by subst h2; rfl
  | k + 1, S', o', ⟨S1, o1, h, hs⟩ => by
    have b := bal_stto h
    rcases hs with ⟨_, hf⟩ | ⟨_, rfl, rfl⟩
    · exact bal_free hf b
    · exact b
theorem bal_stat {S S' : Ls} {r e : Int} {L : List En} {o' : Ou} (w : Wf S) (h : StatIs S r L e S' o') : Bal o' := by
  have hl := len_stat w h
  rcases h with ⟨_, _, rfl, rfl⟩ | ⟨_, _, W0, Sk, h1, h2, rfl⟩
  · exact bal_oz
  · have h3 := (stto_wf (gn_wf w h1) h2).2.2.2.1
    have h4 := N_le w.z
    exact ⟨bal_stto h2, hl, by omega⟩
theorem bal_rel {S S' : Ls} {r c k e : Int} {o' : Ou} (w : Wf S) (h : RelIs S r c k e S' o') : Bal o' := by
  have hl := len_rel w h
  rcases h with ⟨_, _, rfl, rfl⟩ | ⟨hr, _, _, h⟩ | ⟨_, _, _, rfl, rfl⟩
  · exact bal_oz
  · have h3 := (free_len w h).2.1
    have h4 : oz.ps.length = 0 := rfl
    exact ⟨bal_free h rfl, hl, by omega⟩
  · exact bal_oz
theorem bal_req {S S' : Ls} {w : It} {c e : Int} {o' : Ou} (h : ReqIs S w c e S' o') : Bal o' := by
  have hl := len_req h
  rcases h with ⟨_, _, rfl, rfl⟩ | ⟨_, _, _, rfl, rfl⟩ | ⟨hf, _, _, ⟨_, rfl, rfl⟩ | ⟨ho, d, rfl, rfl⟩ | ⟨h1, h2, qs', a, er, l', h3, h4, rfl, rfl⟩⟩
  · exact bal_oz
  · exact bal_oz
  · exact ⟨rfl, hl, by show 1 ≤ 8192; omega⟩
  · refine ⟨?_, hl, ?_⟩
    · unfold Ou.grant
      split <;> rfl
    · unfold Ou.grant
      split <;> exact (show 1 ≤ 8192 by omega)
  · refine ⟨?_, hl, ?_⟩
    · unfold Ou.waits
      split <;> rfl
    · unfold Ou.waits
      split
      · exact (show 3 ≤ 8192 by omega)
      · exact (show 1 ≤ 8192 by omega)
def pkey (c r : Int) : Int × Int × List Nat := (3, c, bE ⟨r, 1⟩)
def pkey0 : Int × Int × List Nat := (0, 0, [])
section
variable {ro : Nat → Option (List Value × Nat)} {h : Heap} {R : List Rs} {n lb rb : Nat} {S : Ls} {F : Rf}
theorem dt_vw {d : Option Nat} {e : En} (i : Nat) {L : List Rs} (O : Has ro h L) (hi : L[i]? = some (Dt d e)) : Vw 1 bx h (dvv d) (bE e) := Has.dtVw (O.at i hi)
theorem dvv_one (d : Option Nat) : oneCell (dvv d) = true := by cases d <;> rfl
def PRec (D : Rs) (key : Int × Int × List Nat) (rv : Value) : Prop := ∃ X : Rq, rv = .agg #[.int .i64 X.kd, .int .i64 X.nn, X.dv] ∧ oneCell X.dv = true ∧ (∀ (ro : Nat → Option (List Value × Nat)) (h : Heap) (L : List Rs) (i : Nat), Has ro h L → L[i]? = some D → Vw 1 bx h X.dv X.B) ∧ rkey X = key
theorem prec0 : PRec Rs.emp pkey0 (.agg #[.int .i64 0, .int .i64 0, .slice none 0 0]) := ⟨⟨0, 0, .slice none 0 0, []⟩, rfl, rfl, fun ro h L i O _ => Vw.nil h none 0, rfl⟩
theorem prec1 (c r : Int) (d : Option Nat) : PRec (Dt d ⟨r, 1⟩) (pkey c r) (.agg (wc ⟨c, ⟨r, 1⟩, d⟩).toArray) := ⟨toR ⟨c, ⟨r, 1⟩, d⟩, rfl, dvv_one d, fun ro h L i O hi => dt_vw i O hi, rfl⟩
theorem pla_rq {S S' : Ls} {c r e : Int} {rv : Value} {D : Rs} (h : PlaIs S c r e S' rv D) : PRec D (if (S.Is c ∧ S.Rob r) ∧ S.E c = e0 then pkey c r else pkey0) rv := by
  rcases h with ⟨n1, _, _, rfl, rfl⟩ | ⟨n1, n2, _, _, rfl, rfl⟩ | ⟨n1, n2, _, _, d, rfl, rfl⟩
  · rw [if_neg (fun x => n1 x.1)]; exact prec0
  · rw [if_neg (fun x => n2 x.2)]; exact prec0
  · rw [if_pos ⟨n1, n2⟩]; exact prec1 c r d
theorem rpla_rq {S : Ls} {F F' : Rf} {c r e : Int} {rv : Value} {D : Rs} (m : Sim S F) (h : RPla F c r e F' rv D) : PRec D (if (S.Is c ∧ S.Rob r) ∧ S.E c = e0 then pkey c r else pkey0) rv := by
  unfold RPla at h
  rw [sim_rob m, sim_is m] at h
  have hE : S.Is c → F.E c.toNat = S.E c := fun hi => by
    have := m.e c.toNat
    rw [Int.toNat_of_nonneg hi.2.1] at this
    exact this
  rcases h with ⟨n1, _, _, rfl, rfl⟩ | ⟨n1, n2, _, _, rfl, rfl⟩ | ⟨n1, n2, _, _, d, rfl, rfl⟩
  · rw [if_neg (fun x => n1 x.1)]; exact prec0
  · rw [if_neg (fun x => n2 (by rw [hE n1.1]; exact x.2))]; exact prec0
  · rw [if_pos ⟨n1, by rw [← hE n1.1]; exact n2⟩]; exact prec1 c r d
theorem vw_one {b : Nat} {X : Rq} (O : Has ro h (Ob b (.cells [.int .i64 X.kd, .int .i64 X.nn, X.dv] 3 false) :: R)) : Vw 3 rq h (.slice (some ⟨b, 0, none⟩) 1 1) [X] := by
  have g := O.get 0 rfl
  have i := O.info (i := 0) rfl
  exact ⟨some ⟨b, 0, none⟩, 1, rfl, Nat.le_refl _, fun _ => ⟨b, 0, none, [], [], 3, false, rfl, Or.inl rfl, rfl, by rw [g]; rfl, Or.inr i.2.2.2.1⟩⟩
theorem step_h {x : Cq} (ok : OkQ ro x) (h40 : x.L.length ≤ 40) (m : Sim S F) (hn : 12000 < n) (O : Has ro h (Lg lb S :: Rg rb F :: R)) :
    (callV env (n + 21) (.func (.func 22) #[] #[]) [.pointer (some ⟨lb, 0, none⟩), .pointer (some ⟨rb, 0, none⟩), .agg (cq x).toArray] h).Is fun p => p.1 = .bool true ∧ ∃ S' F', Sim S' F' ∧ S.Same S' ∧ Has ro p.2 (Lg lb S' :: Rg rb F' :: R) := by
  have nv := m.v
  have rw0 := sim_rw m
  obtain ⟨xp, xc, hxv⟩ := ok.s
  refine call_is env22 ?_
  have hcq : Value.agg (cq x).toArray = .agg #[.int .i64 x.kd, .int .i64 x.rb, .int .i64 x.cell, .int .u32 x.gen, .int .u64 x.st, .int .i64 x.pr, .slice xp x.L.length xc] := by unfold cq; rw [hxv]
  rw [hcq]
  simp (disch := first | assumption | omega | (simp only [wkX, *]; done) | (simp only [wkY]; omega)) only [ir22, Nat.reduceAdd, Nat.reduceSub, wkF, X_seq, Y_store, Y_makeMap, Y_buildSlice, ↓reduceIte, reduceCtorEq, wkO, wkS, Nat.reduceLeDiff, Nat.reduceMul, Nat.reduceLT, Nat.reduceEqDiff, Int.reduceLT, Int.reduceLE, Int.reduceGT, Int.reduceGE, Int.reduceEq, Int.reduceNe, wkN, wkG]
  refine Y_boxO O ?_
  intro b5 h1 O1 _
  replace O1 : Has ro h1 (Lg lb S :: Ob b5 (.cells [.int .i64 x.kd, .int .i64 x.rb, .int .i64 x.cell, .int .u32 x.gen, .int .u64 x.st, .int .i64 x.pr, .slice xp x.L.length xc] 1 false) :: Rg rb F :: R) := O1.at 1 rfl
  clear O
  have g5 := O1.get 1 rfl
  by_cases d0 : x.kd = 0
  · have d0' : (x.kd = 0) = True := eq_true d0
    simp (disch := first | assumption | omega | (simp only [wkX, *]; done) | (simp only [wkY]; omega)) only [g5, d0', wkF, X_seq, Y_store, Y_makeMap, Y_buildSlice, ↓reduceIte, reduceCtorEq, wkO, wkS, Nat.reduceAdd, Nat.reduceLeDiff, Nat.reduceMul, Nat.reduceLT, Nat.reduceEqDiff, Int.reduceLT, Int.reduceLE, Int.reduceGT, Int.reduceGE, Int.reduceEq, Int.reduceNe, wkG]
    refine Z_is (place_h' (n := n + 10) x.cell x.rb nv.w O1) ?_
    rintro v h2 ⟨rv, e, S', D, rfl, hp, O2⟩
    simp only at O2
    obtain ⟨X, rfl, x1, xd, xk⟩ := pla_rq hp
    simp (disch := first | assumption | omega | (simp only [wkX, *]; done) | (simp only [wkY]; omega)) only [wkF, X_seq, Y_store, Y_makeMap, Y_buildSlice, ↓reduceIte, reduceCtorEq, wkO, wkS, Nat.reduceAdd, Nat.reduceLeDiff, Nat.reduceMul, Nat.reduceLT, Nat.reduceEqDiff, Int.reduceLT, Int.reduceLE, Int.reduceGT, Int.reduceGE, Int.reduceEq, Int.reduceNe, wkG]
    refine Y_boxO O2 ?_
    intro b7 h3 O3 _
    replace O3 : Has ro h3 (Ob b7 (.cells [.int .i64 0, .int .i64 0, .slice none 0 0] 1 false) :: Lg lb S' :: D :: Ob b5 (.cells [.int .i64 x.kd, .int .i64 x.rb, .int .i64 x.cell, .int .u32 x.gen, .int .u64 x.st, .int .i64 x.pr, .slice xp x.L.length xc] 1 false) :: Rg rb F :: R) := O3
    have g7 := O3.get 0 rfl
    have p7 := O3.can 0 rfl
    have O4 := O3.set 0 rfl (.cells [.int .i64 X.kd, .int .i64 X.nn, X.dv] 1 false)
    simp only [List.set_cons_zero] at O4
    have one : ([.int .i64 X.kd, .int .i64 X.nn, X.dv] : List Value).all oneCell = true := by
      show (true && (true && (oneCell X.dv && true))) = true
      rw [x1]
      rfl
    simp (disch := first | assumption | omega | (simp only [wkX, *]; done) | (simp only [wkY]; omega)) only [g7, p7, st3, s3, one, wkF, Y_box, Y_store, Y_makeMap, Y_buildSlice, ↓reduceIte, reduceCtorEq, wkS, Nat.reduceAdd, Nat.reduceLeDiff, Nat.reduceMul, Nat.reduceLT, Nat.reduceEqDiff, Int.reduceLT, Int.reduceLE, Int.reduceGT, Int.reduceGE, Int.reduceEq, Int.reduceNe, wkG]
    generalize h3.setB b7 _ = h4 at O4 ⊢
    clear g5 g7 p7 O3 O2 O1
    replace O4 : Has ro h4 (Rg rb F :: Ob b7 (.cells [.int .i64 X.kd, .int .i64 X.nn, X.dv] 1 false) :: Lg lb S' :: D :: Ob b5 (.cells [.int .i64 x.kd, .int .i64 x.rb, .int .i64 x.cell, .int .u32 x.gen, .int .u64 x.st, .int .i64 x.pr, .slice xp x.L.length xc] 1 false) :: R) := O4.at 4 rfl
    have g5 := O4.get 4 rfl
    rw [X_seq]
    simp (disch := first | assumption | omega | (simp only [wkX, *]; done) | (simp only [wkY]; omega)) only [g5, wkF, X_seq, Y_store, Y_makeMap, Y_buildSlice, ↓reduceIte, reduceCtorEq, wkO, wkS, Nat.reduceAdd, Nat.reduceLeDiff, Nat.reduceMul, Nat.reduceLT, Nat.reduceEqDiff, Int.reduceLT, Int.reduceLE, Int.reduceGT, Int.reduceGE, Int.reduceEq, Int.reduceNe, wkG]
    refine Z_is (rplace_h (n := n + 15) x.cell x.rb rw0.z O4) ?_
    rintro v h5 ⟨rv2, f, F', D', rfl, hq, O5⟩
    simp only at O5
    obtain ⟨X', rfl, y1, yd, yk⟩ := rpla_rq m hq
    obtain ⟨rfl, _, m'⟩ := sim_pla m hp hq
    simp (disch := first | assumption | omega | (simp only [wkX, *]; done) | (simp only [wkY]; omega)) only [wkF, X_seq, Y_store, Y_makeMap, Y_buildSlice, ↓reduceIte, reduceCtorEq, wkO, wkS, Nat.reduceAdd, Nat.reduceLeDiff, Nat.reduceMul, Nat.reduceLT, Nat.reduceEqDiff, Int.reduceLT, Int.reduceLE, Int.reduceGT, Int.reduceGE, Int.reduceEq, Int.reduceNe, wkG]
    refine Y_boxO O5 ?_
    intro b9 h6 O6 _
    replace O6 : Has ro h6 (Ob b9 (.cells [.int .i64 0, .int .i64 0, .slice none 0 0] 1 false) :: Rg rb F' :: D' :: Ob b7 (.cells [.int .i64 X.kd, .int .i64 X.nn, X.dv] 1 false) :: Lg lb S' :: D :: Ob b5 (.cells [.int .i64 x.kd, .int .i64 x.rb, .int .i64 x.cell, .int .u32 x.gen, .int .u64 x.st, .int .i64 x.pr, .slice xp x.L.length xc] 1 false) :: R) := O6
    have g9 := O6.get 0 rfl
    have p9 := O6.can 0 rfl
    have O7 := O6.set 0 rfl (.cells [.int .i64 X'.kd, .int .i64 X'.nn, X'.dv] 1 false)
    simp only [List.set_cons_zero] at O7
    have one : ([.int .i64 X'.kd, .int .i64 X'.nn, X'.dv] : List Value).all oneCell = true := by
      show (true && (true && (oneCell X'.dv && true))) = true
      rw [y1]
      rfl
    simp (disch := first | assumption | omega | (simp only [wkX, *]; done) | (simp only [wkY]; omega)) only [g9, p9, st3, s3, one, wkF, Y_box, Y_store, Y_makeMap, Y_buildSlice, ↓reduceIte, reduceCtorEq, wkS, Nat.reduceAdd, Nat.reduceLeDiff, Nat.reduceMul, Nat.reduceLT, Nat.reduceEqDiff, Int.reduceLT, Int.reduceLE, Int.reduceGT, Int.reduceGE, Int.reduceEq, Int.reduceNe, wkG]
    generalize h6.setB b9 _ = h7 at O7 ⊢
    clear g5 g9 p9 O6 O5 O4
    have g9 := O7.get 0 rfl
    have g7 := O7.get 3 rfl
    rw [X_seq]
    simp (disch := first | assumption | omega | (simp only [wkX, *]; done) | (simp only [wkY]; omega)) only [g9, g7, wkF, X_seq, Y_box, Y_store, Y_makeMap, ↓reduceIte, reduceCtorEq, wkO, wkS, Nat.reduceAdd, Nat.reduceLeDiff, Nat.reduceMul, Nat.reduceLT, Nat.reduceEqDiff, Int.reduceLT, Int.reduceLE, Int.reduceGT, Int.reduceGE, Int.reduceEq, Int.reduceNe, wkG]
    refine Y_buildSliceO O7 (cs := [.int .i64 X.kd, .int .i64 X.nn, X.dv]) rfl ?_
    intro b46 h8 O8 _
    have g9 := O8.get 1 rfl
    have g7 := O8.get 4 rfl
    simp (disch := first | assumption | omega | (simp only [wkX, *]; done) | (simp only [wkY]; omega)) only [g9, g7, wkF, X_seq, Y_box, Y_store, Y_makeMap, ↓reduceIte, reduceCtorEq, wkO, wkS, Nat.reduceAdd, Nat.reduceLeDiff, Nat.reduceMul, Nat.reduceLT, Nat.reduceEqDiff, Int.reduceLT, Int.reduceLE, Int.reduceGT, Int.reduceGE, Int.reduceEq, Int.reduceNe, wkG]
    refine Y_buildSliceO O8 (cs := [.int .i64 X'.kd, .int .i64 X'.nn, X'.dv]) rfl ?_
    intro b48 h9 O9 _
    replace O9 : Has ro h9 (Ob b48 (.cells [.int .i64 X'.kd, .int .i64 X'.nn, X'.dv] 3 false) :: Ob b46 (.cells [.int .i64 X.kd, .int .i64 X.nn, X.dv] 3 false) :: Ob b9 (.cells [.int .i64 X'.kd, .int .i64 X'.nn, X'.dv] 1 false) :: Rg rb F' :: D' :: Ob b7 (.cells [.int .i64 X.kd, .int .i64 X.nn, X.dv] 1 false) :: Lg lb S' :: D :: Ob b5 (.cells [.int .i64 x.kd, .int .i64 x.rb, .int .i64 x.cell, .int .u32 x.gen, .int .u64 x.st, .int .i64 x.pr, .slice xp x.L.length xc] 1 false) :: R) := O9
    simp (disch := first | assumption | omega | (simp only [wkX, *]; done) | (simp only [wkY]; omega)) only [wkF, ↓reduceIte, reduceCtorEq, Nat.reduceAdd, Nat.reduceLeDiff, Nat.reduceMul, Nat.reduceLT, Nat.reduceEqDiff, Int.reduceLT, Int.reduceLE, Int.reduceGT, Int.reduceGE, Int.reduceEq, Int.reduceNe, wkG, wkH]
    refine Z_is (samerec_h (n := n + 19) (A := [X]) (B := [X']) (by show 1 + 10 < n + 19; omega) (show 1 < 1000000 by omega) (by show [rkey X] = [rkey X']; rw [xk, yk]) (vw_one (O9.at 1 rfl)) (vw_one O9) (fun u hu => by
      rw [List.mem_singleton] at hu
      rw [hu]
      exact xd ro h9 _ 7 O9 rfl) (fun u hu => by
      rw [List.mem_singleton] at hu
      rw [hu]
      exact yd ro h9 _ 4 O9 rfl)) ?_
    rintro v h10 e10
    cases e10
    simp (disch := first | assumption | omega | (simp only [wkX, *]; done) | (simp only [wkY]; omega)) only [wkF, ↓reduceIte, reduceCtorEq, Nat.reduceAdd, Nat.reduceLeDiff, Nat.reduceMul, Nat.reduceLT, Nat.reduceEqDiff, Int.reduceLT, Int.reduceLE, Int.reduceGT, Int.reduceGE, Int.reduceEq, Int.reduceNe, wkG, wkH]
    have O10 := ((((((O9.rid 8 rfl).rid 7 rfl).rid 5 rfl).rid 4 rfl).rid 2 rfl).rid 1 rfl).rid 0 rfl
    have hs : S.Same S' := (stp_pla m.g hp).2.1
    first
      | exact leaf1 ⟨rfl, S', F', m', hs, O10.at 1 rfl⟩
      | exact leaf1 ⟨S', F', m', hs, O10.at 1 rfl⟩
  by_cases d1 : x.kd = 1
  · have d1' : (x.kd = 1) = True := eq_true d1
    simp (disch := first | assumption | omega | (simp only [wkX, *]; done) | (simp only [wkY]; omega)) only [g5, d1', d0, wkF, ↓reduceIte, reduceCtorEq, Nat.reduceAdd, Nat.reduceLeDiff, Nat.reduceMul, Nat.reduceLT, Nat.reduceEqDiff, Int.reduceLT, Int.reduceLE, Int.reduceGT, Int.reduceGE, Int.reduceEq, Int.reduceNe, wkG, wkH]
    refine Z_is (renewed_h (n := n + 10) x.rb nv.w (by omega) O1) ?_
    rintro v h2 ⟨S', hp, O2⟩
    simp only at O2
    have g5 := O2.get 1 rfl
    simp (disch := first | assumption | omega | (simp only [wkX, *]; done) | (simp only [wkY]; omega)) only [g5, wkF, ↓reduceIte, reduceCtorEq, Nat.reduceAdd, Nat.reduceLeDiff, Nat.reduceMul, Nat.reduceLT, Nat.reduceEqDiff, Int.reduceLT, Int.reduceLE, Int.reduceGT, Int.reduceGE, Int.reduceEq, Int.reduceNe, wkG, wkH]
    refine Z_is (rrenewed_h (n := n + 17) x.rb rw0 (by omega) (O2.at 2 rfl)) ?_
    rintro v h3 ⟨F', hq, O3⟩
    simp only at O3
    have m' := sim_ren m hp hq
    simp (disch := first | assumption | omega | (simp only [wkX, *]; done) | (simp only [wkY]; omega)) only [wkF, ↓reduceIte, reduceCtorEq, Nat.reduceAdd, Nat.reduceLeDiff, Nat.reduceMul, Nat.reduceLT, Nat.reduceEqDiff, Int.reduceLT, Int.reduceLE, Int.reduceGT, Int.reduceGE, Int.reduceEq, Int.reduceNe, wkG, wkH]
    exact leaf1 ⟨rfl, S', F', m', (stp_ren m.g hp).2.1, (O3.rid 2 rfl).at 1 rfl⟩
  by_cases d2 : x.kd = 2
  · have d2' : (x.kd = 2) = True := eq_true d2
    simp (disch := first | assumption | omega | (simp only [wkX, *]; done) | (simp only [wkY]; omega)) only [g5, d2', d0, d1, wkF, X_seq, Y_store, Y_makeMap, Y_buildSlice, ↓reduceIte, reduceCtorEq, wkO, wkS, Nat.reduceAdd, Nat.reduceLeDiff, Nat.reduceMul, Nat.reduceLT, Nat.reduceEqDiff, Int.reduceLT, Int.reduceLE, Int.reduceGT, Int.reduceGE, Int.reduceEq, Int.reduceNe, wkG]
    refine Z_is (status_h (n := n) (L := x.L) x.rb nv.w (by omega) (by omega) ⟨_, _, _, rfl⟩ (fun M h O => by rw [← hxv]; exact ok.v _ h O) O1) ?_
    rintro v h2 ⟨wv, pv, bv, e, S', o', rfl, hp, O2⟩
    simp only at O2
    simp (disch := first | assumption | omega | (simp only [wkX, *]; done) | (simp only [wkY]; omega)) only [wkF, X_seq, Y_store, Y_makeMap, Y_buildSlice, ↓reduceIte, reduceCtorEq, wkO, wkS, Nat.reduceAdd, Nat.reduceLeDiff, Nat.reduceMul, Nat.reduceLT, Nat.reduceEqDiff, Int.reduceLT, Int.reduceLE, Int.reduceGT, Int.reduceGE, Int.reduceEq, Int.reduceNe, wkG]
    refine Y_boxO O2 ?_
    intro b11 h3 O3 _
    replace O3 : Has ro h3 (Ob b11 (.cells [.slice none 0 0, .slice none 0 0, .slice none 0 0] 1 false) :: Lg lb S' :: Oo wv pv bv o' :: Ob b5 (.cells [.int .i64 x.kd, .int .i64 x.rb, .int .i64 x.cell, .int .u32 x.gen, .int .u64 x.st, .int .i64 x.pr, .slice xp x.L.length xc] 1 false) :: Rg rb F :: R) := O3
    have g7 := O3.get 0 rfl
    have p7 := O3.can 0 rfl
    have one := os_one (O3.at 2 rfl)
    have O4 := O3.set 0 rfl (.cells [wv, pv, bv] 1 false)
    simp only [List.set_cons_zero] at O4
    simp (disch := first | assumption | omega | (simp only [wkX, *]; done) | (simp only [wkY]; omega)) only [g7, p7, c3, s3, one, wkF, Y_box, Y_store, Y_makeMap, Y_buildSlice, ↓reduceIte, reduceCtorEq, wkS, Nat.reduceAdd, Nat.reduceLeDiff, Nat.reduceMul, Nat.reduceLT, Nat.reduceEqDiff, Int.reduceLT, Int.reduceLE, Int.reduceGT, Int.reduceGE, Int.reduceEq, Int.reduceNe, wkG]
    generalize h3.setB b11 _ = h4 at O4 ⊢
    clear g5 g7 p7 one O3 O2 O1
    replace O4 : Has ro h4 (Rg rb F :: Ob b11 (.cells [wv, pv, bv] 1 false) :: Lg lb S' :: Oo wv pv bv o' :: Ob b5 (.cells [.int .i64 x.kd, .int .i64 x.rb, .int .i64 x.cell, .int .u32 x.gen, .int .u64 x.st, .int .i64 x.pr, .slice xp x.L.length xc] 1 false) :: R) := O4.at 4 rfl
    have g5 := O4.get 4 rfl
    rw [X_seq]
    simp (disch := first | assumption | omega | (simp only [wkX, *]; done) | (simp only [wkY]; omega)) only [g5, wkF, X_seq, Y_store, Y_makeMap, Y_buildSlice, ↓reduceIte, reduceCtorEq, wkO, wkS, Nat.reduceAdd, Nat.reduceLeDiff, Nat.reduceMul, Nat.reduceLT, Nat.reduceEqDiff, Int.reduceLT, Int.reduceLE, Int.reduceGT, Int.reduceGE, Int.reduceEq, Int.reduceNe, wkG]
    refine Z_is (rstatus_h (n := n + 14) (L := x.L) x.rb rw0 (by omega) (by omega) (fun M h O => by rw [← hxv]; exact ok.v _ h O) O4) ?_
    rintro v h5 ⟨wv2, pv2, bv2, f, F', p', rfl, hq, O5⟩
    simp only at O5
    obtain ⟨rfl, lk', m'⟩ := sim_stat m hp hq
    simp (disch := first | assumption | omega | (simp only [wkX, *]; done) | (simp only [wkY]; omega)) only [wkF, X_seq, Y_store, Y_makeMap, Y_buildSlice, ↓reduceIte, reduceCtorEq, wkO, wkS, Nat.reduceAdd, Nat.reduceLeDiff, Nat.reduceMul, Nat.reduceLT, Nat.reduceEqDiff, Int.reduceLT, Int.reduceLE, Int.reduceGT, Int.reduceGE, Int.reduceEq, Int.reduceNe, wkG]
    refine Y_boxO O5 ?_
    intro b13 h6 O6 _
    replace O6 : Has ro h6 (Ob b13 (.cells [.slice none 0 0, .slice none 0 0, .slice none 0 0] 1 false) :: Rg rb F' :: Oo wv2 pv2 bv2 p' :: Ob b11 (.cells [wv, pv, bv] 1 false) :: Lg lb S' :: Oo wv pv bv o' :: Ob b5 (.cells [.int .i64 x.kd, .int .i64 x.rb, .int .i64 x.cell, .int .u32 x.gen, .int .u64 x.st, .int .i64 x.pr, .slice xp x.L.length xc] 1 false) :: R) := O6
    have g9 := O6.get 0 rfl
    have p9 := O6.can 0 rfl
    have one := os_one (O6.at 2 rfl)
    have O7 := O6.set 0 rfl (.cells [wv2, pv2, bv2] 1 false)
    simp only [List.set_cons_zero] at O7
    simp (disch := first | assumption | omega | (simp only [wkX, *]; done) | (simp only [wkY]; omega)) only [g9, p9, c3, s3, one, wkF, Y_box, Y_store, Y_makeMap, Y_buildSlice, ↓reduceIte, reduceCtorEq, wkS, Nat.reduceAdd, Nat.reduceLeDiff, Nat.reduceMul, Nat.reduceLT, Nat.reduceEqDiff, Int.reduceLT, Int.reduceLE, Int.reduceGT, Int.reduceGE, Int.reduceEq, Int.reduceNe, wkG]
    generalize h6.setB b13 _ = h7 at O7 ⊢
    clear g5 g9 p9 one O6 O5 O4
    have g9 := O7.get 0 rfl
    have g7 := O7.get 3 rfl
    rw [X_seq]
    simp (disch := first | assumption | omega | (simp only [wkX, *]; done) | (simp only [wkY]; omega)) only [g9, g7, wkF, ↓reduceIte, reduceCtorEq, Nat.reduceAdd, Nat.reduceLeDiff, Nat.reduceMul, Nat.reduceLT, Nat.reduceEqDiff, Int.reduceLT, Int.reduceLE, Int.reduceGT, Int.reduceGE, Int.reduceEq, Int.reduceNe, wkG, wkH]
    have bl := bal_stat nv.w hp
    replace O7 : Has ro h7 (Oo wv pv bv o' :: Oo wv2 pv2 bv2 p' :: Ob b13 (.cells [wv2, pv2, bv2] 1 false) :: Rg rb F' :: Ob b11 (.cells [wv, pv, bv] 1 false) :: Lg lb S' :: Ob b5 (.cells [.int .i64 x.kd, .int .i64 x.rb, .int .i64 x.cell, .int .u32 x.gen, .int .u64 x.st, .int .i64 x.pr, .slice xp x.L.length xc] 1 false) :: R) := (O7.at 2 rfl).at 5 rfl
    refine Z_is (done_h (n := n + 17) lk' bl.b (by have := bl.w; omega) (by have := bl.p; omega) (by have := bl.w; have := bl.p; omega) O7) ?_
    rintro v h8 ⟨rfl, O8⟩
    simp only at O8
    simp (disch := first | assumption | omega | (simp only [wkX, *]; done) | (simp only [wkY]; omega)) only [wkF, ↓reduceIte, reduceCtorEq, Nat.reduceAdd, Nat.reduceLeDiff, Nat.reduceMul, Nat.reduceLT, Nat.reduceEqDiff, Int.reduceLT, Int.reduceLE, Int.reduceGT, Int.reduceGE, Int.reduceEq, Int.reduceNe, wkG, wkH]
    have O10 := ((O8.rid 4 rfl).rid 2 rfl).rid 0 rfl
    have hs : S.Same S' := (stp_stat m.g hp).2.1
    first
      | exact leaf1 ⟨rfl, S', F', m', hs, O10.at 1 rfl⟩
      | exact leaf1 ⟨S', F', m', hs, O10.at 1 rfl⟩
  by_cases d3 : x.kd = 3
  · have d3' : (x.kd = 3) = True := eq_true d3
    simp (disch := first | assumption | omega | (simp only [wkX, *]; done) | (simp only [wkY]; omega)) only [g5, d3', d0, d1, d2, wkF, X_seq, Y_store, Y_makeMap, Y_buildSlice, ↓reduceIte, reduceCtorEq, wkO, wkS, Nat.reduceAdd, Nat.reduceLeDiff, Nat.reduceMul, Nat.reduceLT, Nat.reduceEqDiff, Int.reduceLT, Int.reduceLE, Int.reduceGT, Int.reduceGE, Int.reduceEq, Int.reduceNe, wkG]
    refine Z_is (request_h (n := n + 9) ⟨x.rb, x.st, x.pr⟩ x.cell nv.w (by omega) O1) ?_
    rintro v h2 ⟨wv, pv, bv, e, S', o', rfl, hp, O2⟩
    simp only at O2
    simp (disch := first | assumption | omega | (simp only [wkX, *]; done) | (simp only [wkY]; omega)) only [wkF, X_seq, Y_store, Y_makeMap, Y_buildSlice, ↓reduceIte, reduceCtorEq, wkO, wkS, Nat.reduceAdd, Nat.reduceLeDiff, Nat.reduceMul, Nat.reduceLT, Nat.reduceEqDiff, Int.reduceLT, Int.reduceLE, Int.reduceGT, Int.reduceGE, Int.reduceEq, Int.reduceNe, wkG]
    refine Y_boxO O2 ?_
    intro b11 h3 O3 _
    replace O3 : Has ro h3 (Ob b11 (.cells [.slice none 0 0, .slice none 0 0, .slice none 0 0] 1 false) :: Lg lb S' :: Oo wv pv bv o' :: Ob b5 (.cells [.int .i64 x.kd, .int .i64 x.rb, .int .i64 x.cell, .int .u32 x.gen, .int .u64 x.st, .int .i64 x.pr, .slice xp x.L.length xc] 1 false) :: Rg rb F :: R) := O3
    have g7 := O3.get 0 rfl
    have p7 := O3.can 0 rfl
    have one := os_one (O3.at 2 rfl)
    have O4 := O3.set 0 rfl (.cells [wv, pv, bv] 1 false)
    simp only [List.set_cons_zero] at O4
    simp (disch := first | assumption | omega | (simp only [wkX, *]; done) | (simp only [wkY]; omega)) only [g7, p7, c3, s3, one, wkF, Y_box, Y_store, Y_makeMap, Y_buildSlice, ↓reduceIte, reduceCtorEq, wkS, Nat.reduceAdd, Nat.reduceLeDiff, Nat.reduceMul, Nat.reduceLT, Nat.reduceEqDiff, Int.reduceLT, Int.reduceLE, Int.reduceGT, Int.reduceGE, Int.reduceEq, Int.reduceNe, wkG]
    generalize h3.setB b11 _ = h4 at O4 ⊢
    clear g5 g7 p7 one O3 O2 O1
    replace O4 : Has ro h4 (Rg rb F :: Ob b11 (.cells [wv, pv, bv] 1 false) :: Lg lb S' :: Oo wv pv bv o' :: Ob b5 (.cells [.int .i64 x.kd, .int .i64 x.rb, .int .i64 x.cell, .int .u32 x.gen, .int .u64 x.st, .int .i64 x.pr, .slice xp x.L.length xc] 1 false) :: R) := O4.at 4 rfl
    have g5 := O4.get 4 rfl
    rw [X_seq]
    simp (disch := first | assumption | omega | (simp only [wkX, *]; done) | (simp only [wkY]; omega)) only [g5, wkF, X_seq, Y_store, Y_makeMap, Y_buildSlice, ↓reduceIte, reduceCtorEq, wkO, wkS, Nat.reduceAdd, Nat.reduceLeDiff, Nat.reduceMul, Nat.reduceLT, Nat.reduceEqDiff, Int.reduceLT, Int.reduceLE, Int.reduceGT, Int.reduceGE, Int.reduceEq, Int.reduceNe, wkG]
    refine Z_is (rrequest_h (n := n + 15) ⟨x.rb, x.st, x.pr⟩ x.cell rw0 (by omega) O4) ?_
    rintro v h5 ⟨wv2, pv2, bv2, f, F', p', rfl, hq, O5⟩
    simp only at O5
    obtain ⟨rfl, lk', m'⟩ := sim_req m hp hq
    simp (disch := first | assumption | omega | (simp only [wkX, *]; done) | (simp only [wkY]; omega)) only [wkF, X_seq, Y_store, Y_makeMap, Y_buildSlice, ↓reduceIte, reduceCtorEq, wkO, wkS, Nat.reduceAdd, Nat.reduceLeDiff, Nat.reduceMul, Nat.reduceLT, Nat.reduceEqDiff, Int.reduceLT, Int.reduceLE, Int.reduceGT, Int.reduceGE, Int.reduceEq, Int.reduceNe, wkG]
    refine Y_boxO O5 ?_
    intro b13 h6 O6 _
    replace O6 : Has ro h6 (Ob b13 (.cells [.slice none 0 0, .slice none 0 0, .slice none 0 0] 1 false) :: Rg rb F' :: Oo wv2 pv2 bv2 p' :: Ob b11 (.cells [wv, pv, bv] 1 false) :: Lg lb S' :: Oo wv pv bv o' :: Ob b5 (.cells [.int .i64 x.kd, .int .i64 x.rb, .int .i64 x.cell, .int .u32 x.gen, .int .u64 x.st, .int .i64 x.pr, .slice xp x.L.length xc] 1 false) :: R) := O6
    have g9 := O6.get 0 rfl
    have p9 := O6.can 0 rfl
    have one := os_one (O6.at 2 rfl)
    have O7 := O6.set 0 rfl (.cells [wv2, pv2, bv2] 1 false)
    simp only [List.set_cons_zero] at O7
    simp (disch := first | assumption | omega | (simp only [wkX, *]; done) | (simp only [wkY]; omega)) only [g9, p9, c3, s3, one, wkF, Y_box, Y_store, Y_makeMap, Y_buildSlice, ↓reduceIte, reduceCtorEq, wkS, Nat.reduceAdd, Nat.reduceLeDiff, Nat.reduceMul, Nat.reduceLT, Nat.reduceEqDiff, Int.reduceLT, Int.reduceLE, Int.reduceGT, Int.reduceGE, Int.reduceEq, Int.reduceNe, wkG]
    generalize h6.setB b13 _ = h7 at O7 ⊢
    clear g5 g9 p9 one O6 O5 O4
    have g9 := O7.get 0 rfl
    have g7 := O7.get 3 rfl
    rw [X_seq]
    simp (disch := first | assumption | omega | (simp only [wkX, *]; done) | (simp only [wkY]; omega)) only [g9, g7, wkF, ↓reduceIte, reduceCtorEq, Nat.reduceAdd, Nat.reduceLeDiff, Nat.reduceMul, Nat.reduceLT, Nat.reduceEqDiff, Int.reduceLT, Int.reduceLE, Int.reduceGT, Int.reduceGE, Int.reduceEq, Int.reduceNe, wkG, wkH]
    have bl := bal_req hp
    replace O7 : Has ro h7 (Oo wv pv bv o' :: Oo wv2 pv2 bv2 p' :: Ob b13 (.cells [wv2, pv2, bv2] 1 false) :: Rg rb F' :: Ob b11 (.cells [wv, pv, bv] 1 false) :: Lg lb S' :: Ob b5 (.cells [.int .i64 x.kd, .int .i64 x.rb, .int .i64 x.cell, .int .u32 x.gen, .int .u64 x.st, .int .i64 x.pr, .slice xp x.L.length xc] 1 false) :: R) := (O7.at 2 rfl).at 5 rfl
    refine Z_is (done_h (n := n + 17) lk' bl.b (by have := bl.w; omega) (by have := bl.p; omega) (by have := bl.w; have := bl.p; omega) O7) ?_
    rintro v h8 ⟨rfl, O8⟩
    simp only at O8
    simp (disch := first | assumption | omega | (simp only [wkX, *]; done) | (simp only [wkY]; omega)) only [wkF, ↓reduceIte, reduceCtorEq, Nat.reduceAdd, Nat.reduceLeDiff, Nat.reduceMul, Nat.reduceLT, Nat.reduceEqDiff, Int.reduceLT, Int.reduceLE, Int.reduceGT, Int.reduceGE, Int.reduceEq, Int.reduceNe, wkG, wkH]
    have O10 := ((O8.rid 4 rfl).rid 2 rfl).rid 0 rfl
    have hs : S.Same S' := (stp_req m.g hp).2.1
    first
      | exact leaf1 ⟨rfl, S', F', m', hs, O10.at 1 rfl⟩
      | exact leaf1 ⟨S', F', m', hs, O10.at 1 rfl⟩
  by_cases d4 : x.kd = 4
  · have d4' : (x.kd = 4) = True := eq_true d4
    simp (disch := first | assumption | omega | (simp only [wkX, *]; done) | (simp only [wkY]; omega)) only [g5, d4', d0, d1, d2, d3, wkF, X_seq, Y_store, Y_makeMap, Y_buildSlice, ↓reduceIte, reduceCtorEq, wkO, wkS, Nat.reduceAdd, Nat.reduceLeDiff, Nat.reduceMul, Nat.reduceLT, Nat.reduceEqDiff, Int.reduceLT, Int.reduceLE, Int.reduceGT, Int.reduceGE, Int.reduceEq, Int.reduceNe, wkG]
    refine Z_is (release_h (n := n + 13) x.rb x.cell x.gen nv.w (by omega) O1) ?_
    rintro v h2 ⟨wv, pv, bv, e, S', o', rfl, hp, O2⟩
    simp only at O2
    simp (disch := first | assumption | omega | (simp only [wkX, *]; done) | (simp only [wkY]; omega)) only [wkF, X_seq, Y_store, Y_makeMap, Y_buildSlice, ↓reduceIte, reduceCtorEq, wkO, wkS, Nat.reduceAdd, Nat.reduceLeDiff, Nat.reduceMul, Nat.reduceLT, Nat.reduceEqDiff, Int.reduceLT, Int.reduceLE, Int.reduceGT, Int.reduceGE, Int.reduceEq, Int.reduceNe, wkG]
    refine Y_boxO O2 ?_
    intro b11 h3 O3 _
    replace O3 : Has ro h3 (Ob b11 (.cells [.slice none 0 0, .slice none 0 0, .slice none 0 0] 1 false) :: Lg lb S' :: Oo wv pv bv o' :: Ob b5 (.cells [.int .i64 x.kd, .int .i64 x.rb, .int .i64 x.cell, .int .u32 x.gen, .int .u64 x.st, .int .i64 x.pr, .slice xp x.L.length xc] 1 false) :: Rg rb F :: R) := O3
    have g7 := O3.get 0 rfl
    have p7 := O3.can 0 rfl
    have one := os_one (O3.at 2 rfl)
    have O4 := O3.set 0 rfl (.cells [wv, pv, bv] 1 false)
    simp only [List.set_cons_zero] at O4
    simp (disch := first | assumption | omega | (simp only [wkX, *]; done) | (simp only [wkY]; omega)) only [g7, p7, c3, s3, one, wkF, Y_box, Y_store, Y_makeMap, Y_buildSlice, ↓reduceIte, reduceCtorEq, wkS, Nat.reduceAdd, Nat.reduceLeDiff, Nat.reduceMul, Nat.reduceLT, Nat.reduceEqDiff, Int.reduceLT, Int.reduceLE, Int.reduceGT, Int.reduceGE, Int.reduceEq, Int.reduceNe, wkG]
    generalize h3.setB b11 _ = h4 at O4 ⊢
    clear g5 g7 p7 one O3 O2 O1
    replace O4 : Has ro h4 (Rg rb F :: Ob b11 (.cells [wv, pv, bv] 1 false) :: Lg lb S' :: Oo wv pv bv o' :: Ob b5 (.cells [.int .i64 x.kd, .int .i64 x.rb, .int .i64 x.cell, .int .u32 x.gen, .int .u64 x.st, .int .i64 x.pr, .slice xp x.L.length xc] 1 false) :: R) := O4.at 4 rfl
    have g5 := O4.get 4 rfl
    rw [X_seq]
    simp (disch := first | assumption | omega | (simp only [wkX, *]; done) | (simp only [wkY]; omega)) only [g5, wkF, X_seq, Y_store, Y_makeMap, Y_buildSlice, ↓reduceIte, reduceCtorEq, wkO, wkS, Nat.reduceAdd, Nat.reduceLeDiff, Nat.reduceMul, Nat.reduceLT, Nat.reduceEqDiff, Int.reduceLT, Int.reduceLE, Int.reduceGT, Int.reduceGE, Int.reduceEq, Int.reduceNe, wkG]
    refine Z_is (rrelease_h (n := n + 14) x.rb x.cell x.gen rw0 (by omega) O4) ?_
    rintro v h5 ⟨wv2, pv2, bv2, f, F', p', rfl, hq, O5⟩
    simp only at O5
    obtain ⟨rfl, lk', m'⟩ := sim_rel m hp hq
    simp (disch := first | assumption | omega | (simp only [wkX, *]; done) | (simp only [wkY]; omega)) only [wkF, X_seq, Y_store, Y_makeMap, Y_buildSlice, ↓reduceIte, reduceCtorEq, wkO, wkS, Nat.reduceAdd, Nat.reduceLeDiff, Nat.reduceMul, Nat.reduceLT, Nat.reduceEqDiff, Int.reduceLT, Int.reduceLE, Int.reduceGT, Int.reduceGE, Int.reduceEq, Int.reduceNe, wkG]
    refine Y_boxO O5 ?_
    intro b13 h6 O6 _
    replace O6 : Has ro h6 (Ob b13 (.cells [.slice none 0 0, .slice none 0 0, .slice none 0 0] 1 false) :: Rg rb F' :: Oo wv2 pv2 bv2 p' :: Ob b11 (.cells [wv, pv, bv] 1 false) :: Lg lb S' :: Oo wv pv bv o' :: Ob b5 (.cells [.int .i64 x.kd, .int .i64 x.rb, .int .i64 x.cell, .int .u32 x.gen, .int .u64 x.st, .int .i64 x.pr, .slice xp x.L.length xc] 1 false) :: R) := O6
    have g9 := O6.get 0 rfl
    have p9 := O6.can 0 rfl
    have one := os_one (O6.at 2 rfl)
    have O7 := O6.set 0 rfl (.cells [wv2, pv2, bv2] 1 false)
    simp only [List.set_cons_zero] at O7
    simp (disch := first | assumption | omega | (simp only [wkX, *]; done) | (simp only [wkY]; omega)) only [g9, p9, c3, s3, one, wkF, Y_box, Y_store, Y_makeMap, Y_buildSlice, ↓reduceIte, reduceCtorEq, wkS, Nat.reduceAdd, Nat.reduceLeDiff, Nat.reduceMul, Nat.reduceLT, Nat.reduceEqDiff, Int.reduceLT, Int.reduceLE, Int.reduceGT, Int.reduceGE, Int.reduceEq, Int.reduceNe, wkG]
    generalize h6.setB b13 _ = h7 at O7 ⊢
    clear g5 g9 p9 one O6 O5 O4
    have g9 := O7.get 0 rfl
    have g7 := O7.get 3 rfl
    rw [X_seq]
    simp (disch := first | assumption | omega | (simp only [wkX, *]; done) | (simp only [wkY]; omega)) only [g9, g7, wkF, ↓reduceIte, reduceCtorEq, Nat.reduceAdd, Nat.reduceLeDiff, Nat.reduceMul, Nat.reduceLT, Nat.reduceEqDiff, Int.reduceLT, Int.reduceLE, Int.reduceGT, Int.reduceGE, Int.reduceEq, Int.reduceNe, wkG, wkH]
    have bl := bal_rel nv.w hp
    replace O7 : Has ro h7 (Oo wv pv bv o' :: Oo wv2 pv2 bv2 p' :: Ob b13 (.cells [wv2, pv2, bv2] 1 false) :: Rg rb F' :: Ob b11 (.cells [wv, pv, bv] 1 false) :: Lg lb S' :: Ob b5 (.cells [.int .i64 x.kd, .int .i64 x.rb, .int .i64 x.cell, .int .u32 x.gen, .int .u64 x.st, .int .i64 x.pr, .slice xp x.L.length xc] 1 false) :: R) := (O7.at 2 rfl).at 5 rfl
    refine Z_is (done_h (n := n + 17) lk' bl.b (by have := bl.w; omega) (by have := bl.p; omega) (by have := bl.w; have := bl.p; omega) O7) ?_
    rintro v h8 ⟨rfl, O8⟩
    simp only at O8
    simp (disch := first | assumption | omega | (simp only [wkX, *]; done) | (simp only [wkY]; omega)) only [wkF, ↓reduceIte, reduceCtorEq, Nat.reduceAdd, Nat.reduceLeDiff, Nat.reduceMul, Nat.reduceLT, Nat.reduceEqDiff, Int.reduceLT, Int.reduceLE, Int.reduceGT, Int.reduceGE, Int.reduceEq, Int.reduceNe, wkG, wkH]
    have O10 := ((O8.rid 4 rfl).rid 2 rfl).rid 0 rfl
    have hs : S.Same S' := (stp_rel m.g hp).2.1
    first
      | exact leaf1 ⟨rfl, S', F', m', hs, O10.at 1 rfl⟩
      | exact leaf1 ⟨S', F', m', hs, O10.at 1 rfl⟩
  simp (disch := first | assumption | omega | (simp only [wkX, *]; done) | (simp only [wkY]; omega)) only [g5, d0, d1, d2, d3, d4, wkF, ↓reduceIte, reduceCtorEq, Nat.reduceAdd, Nat.reduceLeDiff, Nat.reduceMul, Nat.reduceLT, Nat.reduceEqDiff, Int.reduceLT, Int.reduceLE, Int.reduceGT, Int.reduceGE, Int.reduceEq, Int.reduceNe, wkG, wkH]
  exact leaf1 ⟨rfl, S, F, m, Ls.Same.refl S, O1.rid 1 rfl⟩
end
end Go.Proofs.Ytmpnldmdchchjaa
namespace Go.Proofs.Ytmpnldmdchchjaa
open Go Go.Ideal Go.ChangeShapes Go.RowKit
set_option maxHeartbeats 0
set_option linter.unusedSimpArgs false
set_option linter.unusedVariables false
set_option maxRecDepth 100000
theorem env6 : env 6 = some ir6 := rfl
noncomputable def aliveZ (ro : Nat → Option (List Value × Nat)) (a b c : Int) : T (Value × Heap) := callV env 19999 (.func (.func 9) #[] #[]) [] ((fresh ro).alloc (.cells [.int .i64 a, .int .i64 b, .int .i64 c] 1 false))
theorem alive3_eq (ro) (a b c : Int) : aliveQ (aliveZ ro a b c) = some (.bool true, 0, [], ro, some (.cells [.int .i64 a, .int .i64 b, .int .i64 c] 1 false), true) := by kernel_rfl
attribute [local irreducible] callV T.All T.Is run
theorem alive3_h (ro) (a b c : Int) : (callV env 19999 (.func (.func 9) #[] #[]) [] ((fresh ro).alloc (.cells [.int .i64 a, .int .i64 b, .int .i64 c] 1 false))).Is fun p => p.1 = .bool true ∧ Has ro p.2 [Ob 0 (.cells [.int .i64 a, .int .i64 b, .int .i64 c] 1 false)] := by
  have hA := alive3_eq ro a b c
  show (aliveZ ro a b c).Is _
  generalize aliveZ ro a b c = x at hA ⊢
  cases x with
  | fail => cases hA
  | ask n k => cases hA
  | ret p =>
    obtain ⟨v, h⟩ := p
    simp only [aliveQ, Option.some.injEq, Prod.mk.injEq] at hA
    obtain ⟨h1, h2, h3, h4, h5, h6⟩ := hA
    have h7 := of_decide_eq_true h6
    have O : Has ro h [] := Has.zero ⟨by rw [h2]; omega, fun p hp => by rw [h3] at hp; cases hp⟩ h4
    refine Is_in ⟨h1, ⟨O.fine, O.ro, fun x => x = 0, ?_, ?_⟩⟩
    · intro y hy
      subst hy
      exact ⟨rfl, Or.inl (by show h.floor ≤ 0 / 2; rw [h2]; omega), by show 0 < 2 * h.next; omega⟩
    · exact ⟨fun x => x = 0, fun _ => False, fun y => ⟨fun e => Or.inl e, fun e => e.elim id (fun f => f.elim)⟩, fun y _ f => f, ⟨fun y => Iff.rfl, h5⟩, fun y f => f⟩
theorem sub_lt6 {a i q : Nat} (hk : q = a - i) (h : i < a) : a - (i + 1) < q := by omega
theorem sim_new {a b c : Int} (h : Szs a b c) : Sim (lz a b c) (rz0 a b.toNat c.toNat) := by
  obtain ⟨h1, h2, h3, h4, h5, h6⟩ := h
  refine ⟨nv_lz ⟨h1, h2, h3, h4, h5, h6⟩, gi_lz ⟨h1, h2, h3, h4, h5, h6⟩, fun x => List.Pairwise.nil, fun x hx => absurd rfl hx, rfl, Int.toNat_of_nonneg (by omega), Int.toNat_of_nonneg (by omega), fun x => rfl, fun x => rfl, fun r hr => ?_⟩
  show (if (r : Int) = a then (1 : Int) else 0) = 0 ↔ ¬ 0 < (lk [(a, (1 : Int))] (r : Int)).getD 0
  rw [lk_cons]
  by_cases e : (r : Int) = a
  · rw [if_pos e, if_pos e.symm]
    show (1 : Int) = 0 ↔ ¬ (0 : Int) < 1
    decide
  · rw [if_neg e, if_neg (fun k => e k.symm)]
    show (0 : Int) = 0 ↔ ¬ (0 : Int) < 0
    decide
theorem free_not {S S' : Ls} {o' : Ou} {c r g : Int} (gi : Gi S) (hr : 0 ≤ r) (hE : S.E c = ⟨r, g⟩) (h : FreeTo S oz c S' o') : (S'.E c).o ≠ r ∧ 0 < o'.ws.length := by
  have gc := gi.c c
  rw [hE] at gc
  obtain ⟨d, ⟨_, rfl, rfl⟩ | ⟨_, _, rfl, rfl⟩ | ⟨_, w, rest, d2, hW, rfl, rfl⟩⟩ := h
  · rw [E_setW, E_set, if_pos rfl, (denies_len _ _).1]
    exact ⟨fun e => by have e' : (-1 : Int) = r := e; omega, by show 0 < 1; omega⟩
  · rw [E_set, if_pos rfl]
    exact ⟨fun e => by have e' : (-1 : Int) = r := e; omega, by show 0 < 1; omega⟩
  · rw [E_set, if_pos rfl]
    rw [hW] at gc
    exact ⟨(gc.x w (List.mem_cons_self ..)).1, by show 0 < 2; omega⟩
theorem hold_val {S : Ls} (v : Nv S) (c : Int) : (if S.Is c then Value.tuple #[.int .i64 (S.E c).o, .int .u32 (S.E c).g] else .tuple #[.int .i64 (-1), .int .u32 0]) = .tuple #[.int .i64 (S.E c).o, .int .u32 (S.E c).g] := by
  split
  · rfl
  · rename_i h
    rw [eo_not v h]
    rfl
theorem ledgerOld_run {ro : Nat → Option (List Value × Nat)} {a b c r cc gg : Int} {l : List Cq} {pl : Option Addr} {cl : Nat} (ok : ∀ a ∈ l, OkQ ro a) (hl : l.length ≤ cl) (hcl : cl ≤ maxLen)
    (V : ∀ (M : List Rs) (h : Heap), Has ro h M → Vw 7 cq h (.slice pl l.length cl) l) :
    (callV env 20000 (.func (.func 6) #[] #[]) [.agg #[.int .i64 a, .int .i64 b, .int .i64 c], .slice pl l.length cl, .int .i64 r, .int .i64 cc, .int .u32 gg] (fresh ro)).Is fun p => p.1 = .bool true := by
  refine call_is (n := 19999) env6 ?_
  simp (disch := first | assumption | omega | (simp only [wkX, *]; done) | (simp only [wkY]; omega)) only [ir6, Nat.reduceAdd, Nat.reduceSub, show (fresh ro).next = 0 from rfl, wkF, ↓reduceIte, reduceCtorEq, Nat.reduceLeDiff, Nat.reduceMul, Nat.reduceLT, Nat.reduceEqDiff, Int.reduceLT, Int.reduceLE, Int.reduceGT, Int.reduceGE, Int.reduceEq, Int.reduceNe, wkN, wkG, wkH]
  refine Z_is (alive3_h ro a b c) ?_
  rintro v h1 ⟨rfl, O1⟩
  simp only at O1
  simp (disch := first | assumption | omega | (simp only [wkX, *]; done) | (simp only [wkY]; omega)) only [wkF, ↓reduceIte, reduceCtorEq, Nat.reduceAdd, Nat.reduceLeDiff, Nat.reduceMul, Nat.reduceLT, Nat.reduceEqDiff, Int.reduceLT, Int.reduceLE, Int.reduceGT, Int.reduceGE, Int.reduceEq, Int.reduceNe, wkG, wkH]
  refine Z_is (great_h (n := 19998) (by omega) ok (V _ _ O1)) ?_
  rintro v h2 (hv | ⟨hv, hl120, hcl40⟩)
  · cases hv
    simp (disch := first | assumption | omega | (simp only [wkX, *]; done) | (simp only [wkY]; omega)) only [wkF, ↓reduceIte, reduceCtorEq, Nat.reduceAdd, Nat.reduceLeDiff, Nat.reduceMul, Nat.reduceLT, Nat.reduceEqDiff, Int.reduceLT, Int.reduceLE, Int.reduceGT, Int.reduceGE, Int.reduceEq, Int.reduceNe, wkG, wkH]
    exact leaf1 rfl
  cases hv
  have gz := O1.get 0 rfl
  simp (disch := first | assumption | omega | (simp only [wkX, *]; done) | (simp only [wkY]; omega)) only [gz, wkF, ↓reduceIte, reduceCtorEq, Nat.reduceAdd, Nat.reduceLeDiff, Nat.reduceMul, Nat.reduceLT, Nat.reduceEqDiff, Int.reduceLT, Int.reduceLE, Int.reduceGT, Int.reduceGE, Int.reduceEq, Int.reduceNe, wkG, wkH]
  refine Z_is (new_h (n := 19998) a b c O1) ?_
  rintro v h3 hv
  rcases hv with ⟨hsz, rfl, O3⟩ | ⟨hsz, lb, rfl, O3⟩
  · simp only at O3
    have gz := O3.get 0 rfl
    simp (disch := first | assumption | omega | (simp only [wkX, *]; done) | (simp only [wkY]; omega)) only [gz, wkF, ↓reduceIte, reduceCtorEq, Nat.reduceAdd, Nat.reduceLeDiff, Nat.reduceMul, Nat.reduceLT, Nat.reduceEqDiff, Int.reduceLT, Int.reduceLE, Int.reduceGT, Int.reduceGE, Int.reduceEq, Int.reduceNe, wkG, wkH]
    refine Z_is (rnew_h (n := 19998) a b c (by omega) O3) ?_
    rintro v h4 (⟨_, rfl, O4⟩ | ⟨hno, _⟩)
    · simp (disch := first | assumption | omega | (simp only [wkX, *]; done) | (simp only [wkY]; omega)) only [vEqPtr_none, Bool.not_false, wkF, ↓reduceIte, reduceCtorEq, Nat.reduceAdd, Nat.reduceLeDiff, Nat.reduceMul, Nat.reduceLT, Nat.reduceEqDiff, Int.reduceLT, Int.reduceLE, Int.reduceGT, Int.reduceGE, Int.reduceEq, Int.reduceNe, wkG, wkH]
      exact leaf1 rfl
    · exact absurd hno hsz
  simp only at O3
  have gz := O3.get 1 rfl
  simp (disch := first | assumption | omega | (simp only [wkX, *]; done) | (simp only [wkY]; omega)) only [gz, wkF, ↓reduceIte, reduceCtorEq, Nat.reduceAdd, Nat.reduceLeDiff, Nat.reduceMul, Nat.reduceLT, Nat.reduceEqDiff, Int.reduceLT, Int.reduceLE, Int.reduceGT, Int.reduceGE, Int.reduceEq, Int.reduceNe, wkG, wkH]
  refine Z_is (rnew_h (n := 19998) a b c (by omega) O3) ?_
  rintro v h4 (⟨hno, _⟩ | ⟨_, rb, rfl, O4⟩)
  · exact absurd hsz hno
  simp only at O4
  replace O4 : Has ro h4 (Lg lb (lz a b c) :: Rg rb (rz0 a b.toNat c.toNat) :: Ob 0 (.cells [.int .i64 a, .int .i64 b, .int .i64 c] 1 false) :: []) := O4.at 1 rfl
  have m0 := sim_new hsz
  simp (disch := first | assumption | omega | (simp only [wkX, *]; done) | (simp only [wkY]; omega)) only [wkF, ↓reduceIte, reduceCtorEq, Nat.reduceAdd, Nat.reduceLeDiff, Nat.reduceMul, Nat.reduceLT, Nat.reduceEqDiff, Int.reduceLT, Int.reduceLE, Int.reduceGT, Int.reduceGE, Int.reduceEq, Int.reduceNe, wkG, wkH]
  clear O3 gz O1
  refine L_is (fun q s => ∃ (i : Nat) (S : Ls) (F : Rf), q = l.length - i ∧ s.defers = [] ∧ s.tmps.length = 150 ∧ s.tmps.getD 1 undefV = .slice pl l.length cl ∧ s.tmps.getD 2 undefV = .int .i64 r ∧ s.tmps.getD 3 undefV = .int .i64 cc ∧ s.tmps.getD 4 undefV = .int .u32 gg ∧ s.tmps.getD 5 undefV = .pointer (some ⟨0, 0, none⟩) ∧ s.tmps.getD 11 undefV = .bool true ∧ s.tmps.getD 12 undefV = .pointer (some ⟨lb, 0, none⟩) ∧ s.tmps.getD 14 undefV = .pointer (some ⟨rb, 0, none⟩) ∧ s.tmps.getD 16 undefV = .int .i64 (i : Int) ∧ i ≤ l.length ∧ Sim S F ∧ Has ro s.h (Lg lb S :: Rg rb F :: Ob 0 (.cells [.int .i64 a, .int .i64 b, .int .i64 c] 1 false) :: [])) l.length ?_ (by omega) ?_
  · exact ⟨0, _, _, rfl, rfl, rfl, rfl, rfl, rfl, rfl, rfl, rfl, rfl, rfl, rfl, Nat.zero_le _, m0, O4⟩
  clear O4 m0
  rintro q' tm df h5 ⟨i, S, F, hk, hd, hlen_, g1, g2, g3, g4, g5, g11, g12, g14, g16, hil, m, O5⟩
  simp only at hd g1 g2 g3 g4 g5 g11 g12 g14 g16 O5
  subst hd
  obtain ⟨w, hg_, rfl⟩ := explode hlen_
  simp only [hg_] at g1 g2 g3 g4 g5 g11 g12 g14 g16
  clear hlen_ hg_
  by_cases h0 : i < l.length
  · have h0' : (i : Int) < (l.length : Int) := by omega
    have hi0 : (0 : Int) ≤ (i : Int) := by omega
    have hq7 : l[i]? = some l[i] := List.getElem?_eq_getElem h0
    have okq := ok _ (List.getElem_mem h0)
    have h40 := hcl40 _ (List.getElem_mem h0)
    generalize l[i] = x at hq7 okq h40
    obtain ⟨b1, off1, sp1, c1, hv1, _, rd1⟩ := (V _ _ O5).rd cq_len hq7
    have e1 : pl = some ⟨b1, off1, sp1⟩ := by injection hv1
    subst e1
    have yi : IntKind.i64.wrap ((i : Int) + 1) = ((i + 1 : Nat) : Int) := by rw [wrap_i64 (by omega) (by omega)]; omega
    simp (disch := first | assumption | omega | (simp only [wkX, *]; done) | (simp only [wkY]; omega)) only [g1, g2, g3, g4, g5, g11, g12, g14, g16, h0', hi0, Int.toNat_natCast, rd1, wkF, ↓reduceIte, reduceCtorEq, Nat.reduceAdd, Nat.reduceLeDiff, Nat.reduceMul, Nat.reduceLT, Nat.reduceEqDiff, Int.reduceLT, Int.reduceLE, Int.reduceGT, Int.reduceGE, Int.reduceEq, Int.reduceNe, wkG, wkH]
    refine Z_is (step_h (n := 19978) okq h40 m (by omega) O5) ?_
    rintro v h6 ⟨rfl, S', F', m', _, O6⟩
    simp only at O6
    simp (disch := first | assumption | omega | (simp only [wkX, *]; done) | (simp only [wkY]; omega)) only [yi, wkF, ↓reduceIte, reduceCtorEq, Nat.reduceAdd, Nat.reduceLeDiff, Nat.reduceMul, Nat.reduceLT, Nat.reduceEqDiff, Int.reduceLT, Int.reduceLE, Int.reduceGT, Int.reduceGE, Int.reduceEq, Int.reduceNe, wkG, wkH]
    exact Is_in ⟨l.length - (i + 1), sub_lt6 hk h0, i + 1, S', F', rfl, rfl, rfl, rfl, rfl, rfl, rfl, rfl, rfl, rfl, rfl, rfl, h0, m', O6⟩
  have h0' : ¬ (i : Int) < (l.length : Int) := by omega
  simp (disch := first | assumption | omega | (simp only [wkX, *]; done) | (simp only [wkY]; omega)) only [g1, g2, g3, g4, g5, g11, g12, g14, g16, h0', wkF, ↓reduceIte, reduceCtorEq, Nat.reduceAdd, Nat.reduceLeDiff, Nat.reduceMul, Nat.reduceLT, Nat.reduceEqDiff, Int.reduceLT, Int.reduceLE, Int.reduceGT, Int.reduceGE, Int.reduceEq, Int.reduceNe, wkG, wkH]
  refine Is_in ?_
  simp (disch := first | assumption | omega | (simp only [wkX, *]; done) | (simp only [wkY]; omega)) only [g1, g2, g3, g4, g5, g11, g12, g14, g16, wkF, ↓reduceIte, reduceCtorEq, Nat.reduceAdd, Nat.reduceLeDiff, Nat.reduceMul, Nat.reduceLT, Nat.reduceEqDiff, Int.reduceLT, Int.reduceLE, Int.reduceGT, Int.reduceGE, Int.reduceEq, Int.reduceNe, wkG, wkH]
  refine Z_is (holder_h (n := 19996) cc O5) ?_
  rintro v h6 ⟨rfl, O6⟩
  simp only at O6
  rw [hold_val m.v]
  simp (disch := first | assumption | omega | (simp only [wkX, *]; done) | (simp only [wkY]; omega)) only [g1, g2, g3, g4, g5, g11, g12, g14, g16, wkF, ↓reduceIte, reduceCtorEq, Nat.reduceAdd, Nat.reduceLeDiff, Nat.reduceMul, Nat.reduceLT, Nat.reduceEqDiff, Int.reduceLT, Int.reduceLE, Int.reduceGT, Int.reduceGE, Int.reduceEq, Int.reduceNe, wkG, wkH]
  refine Z_is (records_h (n := 19979) m.v.w (by omega) O6) ?_
  rintro v20 h7 O7
  simp only at O7
  obtain ⟨ws, hws, O7⟩ := Has.rvOpen O7
  obtain ⟨pw, cw, rfl, _⟩ := O7.scVal 0 rfl
  have hwl : ws.length ≤ 1024 := by
    have h1 := congrArg List.length hws
    rw [List.length_map] at h1
    have h2 := recl_len S S.N
    have h3 := N_le m.v.w.z
    omega
  replace O7 : Has ro h7 (Lg lb S :: Sc 3 wc (.slice pw ws.length cw) ws :: Dts ws :: Rg rb F :: Ob 0 (.cells [.int .i64 a, .int .i64 b, .int .i64 c] 1 false) :: []) := O7.at 2 rfl
  simp (disch := first | assumption | omega | (simp only [wkX, *]; done) | (simp only [wkY]; omega)) only [g1, g2, g3, g4, g5, g11, g12, g14, g16, wkF, X_seq, Y_store, Y_makeMap, Y_buildSlice, ↓reduceIte, reduceCtorEq, wkO, wkS, Nat.reduceAdd, Nat.reduceLeDiff, Nat.reduceMul, Nat.reduceLT, Nat.reduceEqDiff, Int.reduceLT, Int.reduceLE, Int.reduceGT, Int.reduceGE, Int.reduceEq, Int.reduceNe, wkG]
  refine Z_is (release_h (n := 19992) r cc gg m.v.w (by omega) O7) ?_
  rintro v h8 ⟨wv, pv, bv, e, S', o', rfl, hp, O8⟩
  simp only at O8
  simp (disch := first | assumption | omega | (simp only [wkX, *]; done) | (simp only [wkY]; omega)) only [wkF, X_seq, Y_store, Y_makeMap, Y_buildSlice, ↓reduceIte, reduceCtorEq, wkO, wkS, Nat.reduceAdd, Nat.reduceLeDiff, Nat.reduceMul, Nat.reduceLT, Nat.reduceEqDiff, Int.reduceLT, Int.reduceLE, Int.reduceGT, Int.reduceGE, Int.reduceEq, Int.reduceNe, wkG]
  refine Y_boxO O8 ?_
  intro b21 h9 O9 _
  replace O9 : Has ro h9 (Ob b21 (.cells [.slice none 0 0, .slice none 0 0, .slice none 0 0] 1 false) :: Lg lb S' :: Oo wv pv bv o' :: Sc 3 wc (.slice pw ws.length cw) ws :: Dts ws :: Rg rb F :: Ob 0 (.cells [.int .i64 a, .int .i64 b, .int .i64 c] 1 false) :: []) := O9
  have g7 := O9.get 0 rfl
  have p7 := O9.can 0 rfl
  have one := os_one (O9.at 2 rfl)
  have O10 := O9.set 0 rfl (.cells [wv, pv, bv] 1 false)
  simp only [List.set_cons_zero] at O10
  simp (disch := first | assumption | omega | (simp only [wkX, *]; done) | (simp only [wkY]; omega)) only [g7, p7, c3, s3, one, wkF, Y_box, Y_store, Y_makeMap, Y_buildSlice, ↓reduceIte, reduceCtorEq, wkS, Nat.reduceAdd, Nat.reduceLeDiff, Nat.reduceMul, Nat.reduceLT, Nat.reduceEqDiff, Int.reduceLT, Int.reduceLE, Int.reduceGT, Int.reduceGE, Int.reduceEq, Int.reduceNe, wkG]
  generalize h9.setB b21 _ = h10 at O10 ⊢
  clear g7 p7 one O9 O8 O7 O6 O5
  replace O10 : Has ro h10 (Lg lb S' :: Ob b21 (.cells [wv, pv, bv] 1 false) :: Oo wv pv bv o' :: Sc 3 wc (.slice pw ws.length cw) ws :: Dts ws :: Rg rb F :: Ob 0 (.cells [.int .i64 a, .int .i64 b, .int .i64 c] 1 false) :: []) := O10.at 1 rfl
  have m21 := O10.get 1 rfl
  have O11 := Has.all.1 (O10.at 2 rfl)
  simp only [List.cons_append, List.nil_append] at O11
  obtain ⟨q1, c1, rfl, _⟩ := O11.scVal 0 rfl
  obtain ⟨q2, c2, rfl, _⟩ := O11.scVal 1 rfl
  obtain ⟨q3, c3', rfl, _⟩ := O11.scVal 2 rfl
  clear O11
  rw [X_seq]
  by_cases hy : (S.E cc).o = r ∧ (S.E cc).g = gg ∧ S.Is cc ∧ e = 0
  · obtain ⟨y1, y2, y3, y4⟩ := hy
    have y1' := eq_true y1
    have y2' := eq_true y2
    have y4' := eq_true y4
    have hE : S.E cc = ⟨r, gg⟩ := by rw [← y1, ← y2]
    have hres : (S'.E cc).o ≠ r ∧ 0 < o'.ws.length := by
      rcases hp with ⟨n1, n2, _, _⟩ | ⟨n1, _, _, hf⟩ | ⟨_, _, n2, _⟩
      · omega
      · exact free_not m.g n1.1.2.1 hE hf
      · exact absurd hE n2
    have v' := (stw_rel m.v hp).1
    have hw' : (0 : Int) < (o'.ws.length : Int) := by omega
    have hr' := hres.1
    simp (disch := first | assumption | omega | (simp only [wkX, *]; done) | (simp only [wkY]; omega)) only [g1, g2, g3, g4, g5, g11, g12, g14, g16, y1', y2', y4', wkF, ↓reduceIte, reduceCtorEq, Nat.reduceAdd, Nat.reduceLeDiff, Nat.reduceMul, Nat.reduceLT, Nat.reduceEqDiff, Int.reduceLT, Int.reduceLE, Int.reduceGT, Int.reduceGE, Int.reduceEq, Int.reduceNe, wkG, wkH]
    refine Z_is (is_h (n := 19997) cc O10) ?_
    rintro v h11 ⟨rfl, rfl⟩
    have y3' : decide (S'.Is cc) = true := decide_eq_true ((is_eq (stp_rel m.g hp).2.1 cc).2 y3)
    simp (disch := first | assumption | omega | (simp only [wkX, *]; done) | (simp only [wkY]; omega)) only [g1, g2, g3, g4, g5, g11, g12, g14, g16, y3', y4', wkF, ↓reduceIte, reduceCtorEq, Nat.reduceAdd, Nat.reduceLeDiff, Nat.reduceMul, Nat.reduceLT, Nat.reduceEqDiff, Int.reduceLT, Int.reduceLE, Int.reduceGT, Int.reduceGE, Int.reduceEq, Int.reduceNe, wkG, wkH]
    refine Z_is (holder_h (n := 19996) cc O10) ?_
    rintro v h12 ⟨rfl, O12⟩
    simp only at O12
    rw [hold_val v']
    have m21 := O12.get 1 rfl
    simp (disch := first | assumption | omega | (simp only [wkX, *]; done) | (simp only [wkY]; omega)) only [g1, g2, g3, g4, g5, g11, g12, g14, g16, m21, hw', hr', wkF, ↓reduceIte, reduceCtorEq, Nat.reduceAdd, Nat.reduceLeDiff, Nat.reduceMul, Nat.reduceLT, Nat.reduceEqDiff, Int.reduceLT, Int.reduceLE, Int.reduceGT, Int.reduceGE, Int.reduceEq, Int.reduceNe, wkG, wkH]
    exact leaf1 rfl
  have hsame : S' = S ∧ o' = oz := by
    rcases hp with ⟨_, _, e1, e2⟩ | ⟨n1, n2, n3, _⟩ | ⟨_, _, _, e1, e2⟩
    · exact ⟨e1, e2⟩
    · exact absurd ⟨by rw [n3], by rw [n3], n1.2, n2⟩ hy
    · exact ⟨e1, e2⟩
  obtain ⟨rfl, rfl⟩ := hsame
  have hz1 : oz.ws.length = 0 := rfl
  have hz2 : oz.ps.length = 0 := rfl
  refine X_cut0 (fun s => s.tmps.length = 150 ∧ s.tmps.getD 11 undefV = .bool true ∧ s.tmps.getD 12 undefV = .pointer (some ⟨lb, 0, none⟩) ∧ s.tmps.getD 20 undefV = .slice pw ws.length cw ∧ s.tmps.getD 21 undefV = .pointer (some ⟨b21, 0, none⟩) ∧ s.h = h10) ?_ ?_
  · by_cases y1 : (S'.E cc).o = r
    · have y1' := eq_true y1
      by_cases y2 : (S'.E cc).g = gg
      · have y2' := eq_true y2
        simp (disch := first | assumption | omega | (simp only [wkX, *]; done) | (simp only [wkY]; omega)) only [g1, g2, g3, g4, g5, g11, g12, g14, g16, y1', y2', wkF, ↓reduceIte, reduceCtorEq, Nat.reduceAdd, Nat.reduceLeDiff, Nat.reduceMul, Nat.reduceLT, Nat.reduceEqDiff, Int.reduceLT, Int.reduceLE, Int.reduceGT, Int.reduceGE, Int.reduceEq, Int.reduceNe, wkG, wkH]
        refine Z_is (is_h (n := 19997) cc O10) ?_
        rintro v h11 ⟨rfl, rfl⟩
        by_cases y3 : S'.Is cc
        · have y4 : ¬ e = 0 := fun y4 => hy ⟨y1, y2, y3, y4⟩
          simp (disch := first | assumption | omega | (simp only [wkX, *]; done) | (simp only [wkY]; omega)) only [g1, g2, g3, g4, g5, g11, g12, g14, g16, y3, y4, wkF, ↓reduceIte, reduceCtorEq, Nat.reduceAdd, Nat.reduceLeDiff, Nat.reduceMul, Nat.reduceLT, Nat.reduceEqDiff, Int.reduceLT, Int.reduceLE, Int.reduceGT, Int.reduceGE, Int.reduceEq, Int.reduceNe, wkG, wkH]
          exact mid_in ⟨rfl, rfl, rfl, rfl, rfl, rfl⟩
        · simp (disch := first | assumption | omega | (simp only [wkX, *]; done) | (simp only [wkY]; omega)) only [g1, g2, g3, g4, g5, g11, g12, g14, g16, y3, wkF, ↓reduceIte, reduceCtorEq, Nat.reduceAdd, Nat.reduceLeDiff, Nat.reduceMul, Nat.reduceLT, Nat.reduceEqDiff, Int.reduceLT, Int.reduceLE, Int.reduceGT, Int.reduceGE, Int.reduceEq, Int.reduceNe, wkG, wkH]
          exact mid_in ⟨rfl, rfl, rfl, rfl, rfl, rfl⟩
      · simp (disch := first | assumption | omega | (simp only [wkX, *]; done) | (simp only [wkY]; omega)) only [g1, g2, g3, g4, g5, g11, g12, g14, g16, y1', y2, wkF, ↓reduceIte, reduceCtorEq, Nat.reduceAdd, Nat.reduceLeDiff, Nat.reduceMul, Nat.reduceLT, Nat.reduceEqDiff, Int.reduceLT, Int.reduceLE, Int.reduceGT, Int.reduceGE, Int.reduceEq, Int.reduceNe, wkG, wkH]
        exact mid_in ⟨rfl, rfl, rfl, rfl, rfl, rfl⟩
    · simp (disch := first | assumption | omega | (simp only [wkX, *]; done) | (simp only [wkY]; omega)) only [g1, g2, g3, g4, g5, g11, g12, g14, g16, y1, wkF, ↓reduceIte, reduceCtorEq, Nat.reduceAdd, Nat.reduceLeDiff, Nat.reduceMul, Nat.reduceLT, Nat.reduceEqDiff, Int.reduceLT, Int.reduceLE, Int.reduceGT, Int.reduceGE, Int.reduceEq, Int.reduceNe, wkG, wkH]
      exact mid_in ⟨rfl, rfl, rfl, rfl, rfl, rfl⟩
  clear hk
  rintro tm h11 ⟨hlen_, g11, g12, g20, g21, hh⟩
  simp only at g11 g12 g20 g21 hh
  obtain ⟨w, hg_, rfl⟩ := explode hlen_
  simp only [hg_] at g11 g12 g20 g21
  clear hlen_ hg_
  subst hh
  simp (disch := first | assumption | omega | (simp only [wkX, *]; done) | (simp only [wkY]; omega)) only [g11, g12, g20, g21, m21, hz1, hz2, wkF, ↓reduceIte, reduceCtorEq, Nat.reduceAdd, Nat.reduceLeDiff, Nat.reduceMul, Nat.reduceLT, Nat.reduceEqDiff, Int.reduceLT, Int.reduceLE, Int.reduceGT, Int.reduceGE, Int.reduceEq, Int.reduceNe, wkG, wkH]
  refine Z_is (records_h (n := 19979) m.v.w (by omega) O10) ?_
  rintro v146 h12 O12
  simp only at O12
  obtain ⟨ws1, hws1, O12⟩ := Has.rvOpen O12
  obtain ⟨pw1, cw1, rfl, _⟩ := O12.scVal 0 rfl
  have hrk : ws1.map keyW = ws.map keyW := hws1.trans hws.symm
  have hl1 : ws1.length = ws.length := by
    have := congrArg List.length hrk
    simpa using this
  replace O12 : Has ro h12 (Sc 3 wc (.slice pw1 ws1.length cw1) ws1 :: Dts ws1 :: Lg lb S' :: Ob b21 (.cells [.slice q1 oz.ws.length c1, .slice q2 oz.ps.length c2, .slice q3 oz.bs.length c3'] 1 false) :: Oo (.slice q1 oz.ws.length c1) (.slice q2 oz.ps.length c2) (.slice q3 oz.bs.length c3') oz :: Sc 3 wc (.slice pw ws.length cw) ws :: Dts ws :: Rg rb F :: Ob 0 (.cells [.int .i64 a, .int .i64 b, .int .i64 c] 1 false) :: []) := O12
  have va := Vw.mapV toR (O12.vw 0 rfl) wc_rq
  have vb := Vw.mapV toR (O12.vw 5 rfl) wc_rq
  have da := Has.dtsVw (O12.at 1 rfl)
  have db := Has.dtsVw (O12.at 6 rfl)
  simp (disch := first | assumption | omega | (simp only [wkX, *]; done) | (simp only [wkY]; omega)) only [g11, g12, g20, g21, wkF, ↓reduceIte, reduceCtorEq, Nat.reduceAdd, Nat.reduceLeDiff, Nat.reduceMul, Nat.reduceLT, Nat.reduceEqDiff, Int.reduceLT, Int.reduceLE, Int.reduceGT, Int.reduceGE, Int.reduceEq, Int.reduceNe, wkG, wkH]
  refine Z_is (samerec_h (n := 19998) (A := ws1.map toR) (B := ws.map toR) (by rw [List.length_map]; omega) (by rw [List.length_map]; omega) (keyW_rk hrk) va vb (fun x hx => by
    obtain ⟨w, hw, rfl⟩ := List.mem_map.1 hx
    exact da w hw) (fun x hx => by
    obtain ⟨w, hw, rfl⟩ := List.mem_map.1 hx
    exact db w hw)) ?_
  rintro _ _ hh
  cases hh
  simp (disch := first | assumption | omega | (simp only [wkX, *]; done) | (simp only [wkY]; omega)) only [wkF, ↓reduceIte, reduceCtorEq, Nat.reduceAdd, Nat.reduceLeDiff, Nat.reduceMul, Nat.reduceLT, Nat.reduceEqDiff, Int.reduceLT, Int.reduceLE, Int.reduceGT, Int.reduceGE, Int.reduceEq, Int.reduceNe, wkG, wkH]
  exact leaf1 rfl
theorem sz_inv {d : Nat} {ro : Nat → Option (List Value × Nat)} {cs : Array Value} (h : Fits2 (DFit Try.prog ro d) [.flat (.int .i64), .flat (.int .i64), .flat (.int .i64)] cs.toList) : ∃ a b c : Int, Value.agg cs = .agg #[.int .i64 a, .int .i64 b, .int .i64 c] := by
  obtain ⟨v, w, e1, h1, h⟩ := f2_cons h
  obtain ⟨v2, w2, e2, h2, h⟩ := f2_cons h
  obtain ⟨v3, w3, e3, h3, h⟩ := f2_cons h
  have e4 := f2_nil h
  obtain ⟨x1, rfl, _⟩ := flat_i64 h1
  obtain ⟨x2, rfl, _⟩ := flat_i64 h2
  obtain ⟨x3, rfl, _⟩ := flat_i64 h3
  subst e4 e3 e2
  refine ⟨x1, x2, x3, ?_⟩
  congr 1
  exact Array.toList_inj.1 e1
theorem ledgerOld_all (ro : Nat → Option (List Value × Nat)) (vs : List Value) (ha : ArgsD Try.prog ro 2 [.agg [.flat (.int .i64), .flat (.int .i64), .flat (.int .i64)], .one (.slice 41), .one (.flat (.int .i64)), .one (.flat (.int .i64)), .one (.flat (.int .u32))] vs) : (run env 20000 6 vs (fresh ro)).True := by
  match vs, ha with
  | [v0, v1, v2, v3, v4], ha =>
    obtain ⟨⟨cs, rfl, h0⟩, h1, h5, h6, h7, -⟩ := ha
    obtain ⟨a, b, c, e⟩ := sz_inv h0
    obtain ⟨x2, rfl, _⟩ := flat_i64 h5
    obtain ⟨x3, rfl, _⟩ := flat_i64 h6
    obtain ⟨x4, rfl, _⟩ := flat_u32 h7
    obtain ⟨p, l, cl, rfl, hok, h2, h3, hV⟩ := dslice h1 cq_kinds cq_size (by simp) cq (OkQ ro) cq_inv
    rw [e]
    exact run_true (ledgerOld_run hok h2 h3 hV).all
  | [], ha => exact ha.elim
  | [_], ha => exact ha.2.elim
  | [_, _], ha => exact ha.2.2.elim
  | [_, _, _], ha => exact ha.2.2.2.elim
  | [_, _, _, _], ha => exact ha.2.2.2.2.elim
  | _ :: _ :: _ :: _ :: _ :: _ :: _, ha => exact ha.2.2.2.2.2.elim
theorem own : ownKnob Try.prog.godebug = none := by kernel_rfl
theorem mixed : Try.prog.follows .mixedOrders = true := by kernel_rfl
theorem laid_out : laidOutB Try.prog = true := by kernel_rfl
theorem ledgerOld_kinds : Try.f6.params.toList.mapM (pdOf Try.prog) = some [.agg [.flat (.int .i64), .flat (.int .i64), .flat (.int .i64)], .one (.slice 41), .one (.flat (.int .i64)), .one (.flat (.int .i64)), .one (.flat (.int .u32))] := by kernel_rfl
theorem ledgerOld_reads : Try.f6.params.toList.all (fun t => Try.prog.readableRec t && decide (t < Try.prog.types.size)) = true := by kernel_rfl
theorem ledgerOld_size : Try.f6.params.size = 5 := by kernel_rfl
theorem ledgerOld_lifted (os : Os) (started : os.Started) (H : Type) (enc : TypeId × Value → H) :
    ReturnsInHanded {} Try.checked os 6 .any (Rows.ledgerOldSpec.pre6 enc Try.prog Try.f6 [] false) (Rows.ledgerOldSpec.post enc Try.prog Try.f6 false true false false) :=
 deep_open_lifted (C := Try.checked) (n := 20000) 2 own started (by kernel_rfl) Try.func6 (ChangeSpec.witness6 false ⟨#[], #[.agg #[.int .i64 0, .int .i64 0, .int .i64 0], .slice none 0 0, .int .i64 0, .int .i64 0, .int .u32 0], []⟩ 8 (by kernel_rfl) (by kernel_rfl) (by kernel_rfl) (by kernel_rfl)) mixed env_ok laid_out ledgerOld_kinds ledgerOld_reads (by rfl) Try.underlying4 rfl
    (fun ds hds => by rw [ledgerOld_size] at hds; match ds, hds with | [_, _, _, _, _], _ => rfl) ledgerOld_all
theorem ledgerOld_holds : Rows.LedgerOldSaid :=
  OpenClaim.holds_of_wide 6 Try.f6 rfl rfl rfl rfl rfl rfl rfl ⟨rfl, rfl, rfl, rfl, rfl⟩ rfl rfl rfl rfl rfl (by kernel_rfl) Try.func6 (by kernel_rfl)
    (of_decide_eq_true (by kernel_rfl)) (by unfold Func.isWrapper; rw [if_neg (of_decide_eq_false (by kernel_rfl))]; exact ⟨rfl, rfl⟩)
    (fun os started H enc _ => by rw [OpenClaim.pre_of_none rfl]; exact ledgerOld_lifted os started H enc)
end Go.Proofs.Ytmpnldmdchchjaa
