/-
  What the document guesses of a packet's bytes is the packet.
-/
import Derived.Test.YtpodmgbnldmlcaaDoorFk
import Derived.Test.YtpodmgbnldmlcaaDoorGss
import Derived.Test.YtpodmgbnldmlcaaDoorPur
namespace Go.Proofs.YtpodmgbnldmlcaaDoor
open Go Go.Ideal Go.ChangeShapes Go.RowKit
set_option maxHeartbeats 0
set_option linter.unusedSimpArgs false
set_option linter.unusedVariables false
set_option maxRecDepth 100000
theorem gt_be {A : List Nat} {pl k x : Nat} {L : List Nat} (h : A.drop pl = be x k ++ L) (hx : x < 256 ^ k) : gt A pl k = x ∧ A.drop (pl + k) = L := by
  have hl := be_len x k
  constructor
  · unfold gt
    rw [h, List.take_left' hl, nb_be0 hx]
  · rw [← List.drop_drop, h, List.drop_left' hl]
theorem gt_ub {A : List Nat} {pl : Nat} {x : Int} {L : List Nat} (h : A.drop pl = ub x :: L) : gt A pl 1 = ub x ∧ A.drop (pl + 1) = L := by
  have := gt_be (A := A) (pl := pl) (k := 1) (x := ub x) (L := L) (by rw [be_one (ub_lt x)]; exact h) (by have := ub_lt x; omega)
  exact this
theorem gcl_forth {A : List Nat} {l l0 : List Cl} {pl : Nat} {L : List Nat} (hA : A.drop pl = l.flatMap clb ++ L) (hl : ∀ j, j < l.length → 0 ≤ cel l j ∧ cel l j ≤ 1023 ∧ (l.getD j ⟨0, 0⟩).g < 4294967296) : ∀ i, i ≤ l.length → gcl A i (l0, pl) = (l0 ++ l.take i, pl + 6 * i) ∧ A.drop (pl + 6 * i) = (l.drop i).flatMap clb ++ L
  | 0, _ => by
    refine ⟨?_, by rw [Nat.mul_zero, Nat.add_zero, List.drop_zero]; exact hA⟩
    show (l0, pl) = _
    rw [List.take_zero, List.append_nil]
    rfl
  | i + 1, hi => by
    obtain ⟨ih1, ih2⟩ := gcl_forth (l0 := l0) hA hl i (by omega)
    have hlt : i < l.length := by omega
    obtain ⟨h1, h2, h3⟩ := hl i hlt
    have hg : l.getD i ⟨0, 0⟩ = l[i] := by rw [List.getD_eq_getElem?_getD, List.getElem?_eq_getElem hlt]; rfl
    have hd : l.drop i = l[i] :: l.drop (i + 1) := List.drop_eq_getElem_cons hlt
    unfold cel at h1 h2
    rw [hg] at h1 h2 h3
    have e1 : A.drop (pl + 6 * i) = be l[i].c.toNat 2 ++ (be l[i].g 4 ++ ((l.drop (i + 1)).flatMap clb ++ L)) := by
      rw [ih2, hd, List.flatMap_cons]
      unfold clb
      simp only [List.append_assoc]
    obtain ⟨x1, x2⟩ := gt_be e1 (by simp only [Nat.reducePow]; omega)
    obtain ⟨x3, x4⟩ := gt_be x2 (by simp only [Nat.reducePow]; omega)
    have e2 : (⟨((l[i].c.toNat : Nat) : Int), l[i].g⟩ : Cl) = l[i] := by
      have : ((l[i].c.toNat : Nat) : Int) = l[i].c := by omega
      rw [this]
    refine ⟨?_, by rw [show pl + 6 * (i + 1) = pl + 6 * i + 2 + 4 by omega]; exact x4⟩
    show ((gcl A i (l0, pl)).1 ++ [⟨(gt A (gcl A i (l0, pl)).2 2 : Int), gt A ((gcl A i (l0, pl)).2 + 2) 4⟩], (gcl A i (l0, pl)).2 + 6) = _
    rw [ih1]
    simp only
    rw [x1, x3, e2, List.take_add_one, List.getElem?_eq_getElem hlt, List.append_assoc]
    rfl
theorem gfl_forth {A : List Nat} {m : Msg} {l : List Cl} {G : List Int} {pl : Nat} {L : List Nat} (hF : Fine0 m l) (hN : Nums m l) {f : Nat} (h1 : 1 ≤ f) (h8 : f ≤ 8) (hG : f = 8 → G = []) (hA : A.drop pl = fb m l (f : Int) ++ L) :
    ∃ pl', gfl A (selc m G, selL l G, pl) f = (selc m (G ++ [(f : Int)]), selL l (G ++ [(f : Int)]), pl') ∧ A.drop pl' = L := by
  obtain ⟨c1, c2, c3, c4, c5, c6⟩ := hF
  obtain ⟨n1, n2, n3, n4, n5, n6⟩ := hN
  have hsm : ∀ x : Int, 0 ≤ x → x ≤ 64 → ((ub x : Nat) : Int) = x := fun x h1 h2 => by unfold ub; omega
  have : f = 1 ∨ f = 2 ∨ f = 3 ∨ f = 4 ∨ f = 5 ∨ f = 6 ∨ f = 7 ∨ f = 8 := by omega
  rcases this with rfl | rfl | rfl | rfl | rfl | rfl | rfl | rfl
  · obtain ⟨x1, x2⟩ := gt_be (show A.drop pl = be m.cell.toNat 2 ++ L from hA) (by simp only [Nat.reducePow]; omega)
    refine ⟨pl + 2, ?_, x2⟩
    show ({ selc m G with cell := (gt A pl 2 : Int) }, selL l G, pl + 2) = _
    rw [x1]
    have : ((m.cell.toNat : Nat) : Int) = m.cell := by omega
    unfold selc selL sel
    simp [this]
  · obtain ⟨x1, x2⟩ := gt_be (show A.drop pl = be m.gen 4 ++ L from hA) (by simp only [Nat.reducePow]; omega)
    refine ⟨pl + 4, ?_, x2⟩
    show ({ selc m G with gen := gt A pl 4 }, selL l G, pl + 4) = _
    rw [x1]
    unfold selc selL sel
    simp
  · obtain ⟨x1, x2⟩ := gt_be (show A.drop pl = be m.stamp 8 ++ L from hA) (by simp only [Nat.reducePow]; omega)
    refine ⟨pl + 8, ?_, x2⟩
    show ({ selc m G with stamp := gt A pl 8 }, selL l G, pl + 8) = _
    rw [x1]
    unfold selc selL sel
    simp
  · obtain ⟨x1, x2⟩ := gt_ub (show A.drop pl = ub m.prio :: L from hA)
    refine ⟨pl + 1, ?_, x2⟩
    show ({ selc m G with prio := (gt A pl 1 : Int) }, selL l G, pl + 1) = _
    rw [x1]
    have := hsm m.prio (by omega) (by omega)
    unfold selc selL sel
    simp [this]
  · obtain ⟨x1, x2⟩ := gt_ub (show A.drop pl = ub m.hops :: L from hA)
    refine ⟨pl + 1, ?_, x2⟩
    show ({ selc m G with hops := (gt A pl 1 : Int) }, selL l G, pl + 1) = _
    rw [x1]
    have := hsm m.hops (by omega) (by omega)
    unfold selc selL sel
    simp [this]
  · obtain ⟨x1, x2⟩ := gt_ub (show A.drop pl = ub m.orig :: L from hA)
    refine ⟨pl + 1, ?_, x2⟩
    show ({ selc m G with orig := (gt A pl 1 : Int) }, selL l G, pl + 1) = _
    rw [x1]
    have := hsm m.orig (by omega) (by omega)
    unfold selc selL sel
    simp [this]
  · obtain ⟨x1, x2⟩ := gt_ub (show A.drop pl = ub m.oth :: L from hA)
    refine ⟨pl + 1, ?_, x2⟩
    show ({ selc m G with oth := if gt A pl 1 = 255 then -1 else (gt A pl 1 : Int) }, selL l G, pl + 1) = _
    rw [x1]
    have : (if ub m.oth = 255 then (-1 : Int) else (ub m.oth : Int)) = m.oth := by
      unfold ub
      split <;> omega
    rw [this]
    unfold selc selL sel
    simp
  · obtain ⟨x1, x2⟩ := gt_ub (show A.drop pl = ub (l.length : Int) :: (l.flatMap clb ++ L) from hA)
    rw [hG rfl]
    have g := gcl_forth (l0 := selL l []) x2 n6 l.length (Nat.le_refl _)
    rw [List.take_length, List.drop_length] at g
    refine ⟨pl + 1 + 6 * l.length, ?_, g.2⟩
    show (selc m [], gcl A (gt A pl 1) (selL l [], pl + 1)) = _
    rw [x1, ub_nat (by omega), g.1]
    unfold selc selL sel
    simp [nilS]
theorem mem_take {k : Int} {j : Nat} (hj : j ≤ 5) (h : j = 5 ∨ (row k).getD j 0 = 0) {c : Int} (hc : c ≠ 0) : c ∈ (row k).take j ↔ c ∈ row k := by
  constructor
  · exact fun h => List.mem_of_mem_take h
  · intro hm
    rcases h with rfl | h
    · rw [List.take_of_length_le (by rw [row_len]; omega)]; exact hm
    · obtain ⟨i, hi⟩ := List.getElem?_of_mem hm
      have hlt := (List.getElem?_eq_some_iff.1 hi).1
      rw [row_len] at hlt
      have hg : (row k).getD i 0 = c := by rw [List.getD_eq_getElem?_getD, hi]; rfl
      by_cases hij : i < j
      · exact List.mem_of_getElem? (i := i) (by rw [List.getElem?_take, if_pos hij]; exact hi)
      · exfalso
        have := row_zero k j (by omega) i (by omega) (by omega) h
        omega
theorem lt_fld {k : Int} (h0 : 1 ≤ k) (h1 : k ≤ 11) : (lt k).length ≤ 5 ∧ ((lt k).length = 5 ∨ (row k).getD (lt k).length 0 = 0) ∧ ∀ i, i < (lt k).length → 1 ≤ (row k).getD i 0 ∧ (row k).getD i 0 ≤ 8 ∧ ((ltf ((lt k).getD i 0) : Nat) : Int) = (row k).getD i 0 := by
  have : k = 1 ∨ k = 2 ∨ k = 3 ∨ k = 4 ∨ k = 5 ∨ k = 6 ∨ k = 7 ∨ k = 8 ∨ k = 9 ∨ k = 10 ∨ k = 11 := by omega
  rcases this with rfl | rfl | rfl | rfl | rfl | rfl | rfl | rfl | rfl | rfl | rfl <;> decide
theorem gfold_forth {A : List Nat} {m : Msg} {l : List Cl} {pl : Nat} {L : List Nat} (h0 : 1 ≤ m.kd) (h1 : m.kd ≤ 11) (hF : Fine0 m l) (hN : Nums m l) (hA : A.drop pl = (row m.kd).flatMap (fb m l) ++ L) : ∀ i, i ≤ (lt m.kd).length →
    ∃ pl', gfold A (((lt m.kd).take i).map ltf) (mz m.kd, [], pl) = (selc m ((row m.kd).take i), selL l ((row m.kd).take i), pl') ∧ A.drop pl' = ((row m.kd).drop i).flatMap (fb m l) ++ L
  | 0, _ => by
    refine ⟨pl, ?_, by rw [List.drop_zero]; exact hA⟩
    show (mz m.kd, [], pl) = _
    unfold selc selL sel mz
    simp
  | i + 1, hi => by
    obtain ⟨pl1, e1, e2⟩ := gfold_forth h0 h1 hF hN hA i (by omega)
    obtain ⟨q1, q2, q3⟩ := lt_fld h0 h1
    obtain ⟨r1, r2, r3⟩ := q3 i (by omega)
    have hlt : i < (row m.kd).length := by rw [row_len]; omega
    have hll : i < (lt m.kd).length := by omega
    have hd : (row m.kd).drop i = (row m.kd).getD i 0 :: (row m.kd).drop (i + 1) := by
      rw [List.drop_eq_getElem_cons hlt, List.getD_eq_getElem?_getD, List.getElem?_eq_getElem hlt]; rfl
    have htk : ((lt m.kd).take (i + 1)).map ltf = ((lt m.kd).take i).map ltf ++ [ltf ((lt m.kd).getD i 0)] := by
      rw [List.take_add_one, List.getD_eq_getElem?_getD, List.getElem?_eq_getElem hll, List.map_append]; rfl
    generalize ltf ((lt m.kd).getD i 0) = f at r3 htk
    rw [hd, List.flatMap_cons, List.append_assoc, ← r3] at e2
    obtain ⟨pl2, g1, g2⟩ := gfl_forth (G := (row m.kd).take i) hF hN (f := f) (by omega) (by omega) (fun h => by
      have := row_eight m.kd i (by omega) (by omega)
      subst this
      rfl) e2
    refine ⟨pl2, ?_, g2⟩
    have e3 : gfold A (((lt m.kd).take (i + 1)).map ltf) (mz m.kd, [], pl) = gfl A (gfold A (((lt m.kd).take i).map ltf) (mz m.kd, [], pl)) f := by
      rw [htk]
      exact List.foldl_append ..
    rw [e3, e1, g1, take_next hlt, ← r3]
/-- What is guessed of a packet's bytes is the packet. -/
theorem guess_forth {p : Pkt} {l : List Cl} (o : OkP p l) (w : WfP p l) : guessP (allB p l) = { p with m := { p.m with cl := nilS } } ∧ (guessM (allB p l)).2.1 = l := by
  have hN := nums_of w.2.2.2.2 o.2.2.2
  obtain ⟨⟨f1, f2⟩, ⟨t1, t2⟩, _, om⟩ := o
  have hk := om.1
  have hsm : ∀ x : Int, 0 ≤ x → x ≤ 64 → ((ub x : Nat) : Int) = x := fun x h1 h2 => by unfold ub; omega
  have z0 : (allB p l).drop 0 = ub p.fr :: (ub p.tt :: (be p.fe 4 ++ (be p.te 4 ++ (be p.sq 4 ++ (be p.mt 4 ++ (ub p.m.kd :: ((row p.m.kd).flatMap (fb p.m l) ++ []))))))) := by
    rw [List.drop_zero]
    unfold allB plainB
    simp only [List.flatMap_cons, List.flatMap_nil, List.append_nil, List.append_assoc, List.cons_append, List.nil_append]
  obtain ⟨x0, z1⟩ := gt_ub z0
  obtain ⟨x1, z2⟩ := gt_ub z1
  obtain ⟨x2, z3⟩ := gt_be z2 (by have := w.1; simp only [Nat.reducePow]; omega)
  obtain ⟨x3, z4⟩ := gt_be z3 (by have := w.2.1; simp only [Nat.reducePow]; omega)
  obtain ⟨x4, z5⟩ := gt_be z4 (by have := w.2.2.1; simp only [Nat.reducePow]; omega)
  obtain ⟨x5, z6⟩ := gt_be z5 (by have := w.2.2.2.1; simp only [Nat.reducePow]; omega)
  obtain ⟨x6, z7⟩ := gt_ub z6
  simp only [Nat.zero_add, Nat.reduceAdd] at x0 x1 x2 x3 x4 x5 x6 z7
  have e3 := hsm p.m.kd (by omega) (by omega)
  obtain ⟨q1, q2, -⟩ := lt_fld hk.1 hk.2
  obtain ⟨pl', g1, g2⟩ := gfold_forth (A := allB p l) (m := p.m) (l := l) hk.1 hk.2 om.2.2.1 hN z7 (lt p.m.kd).length (Nat.le_refl _)
  rw [List.take_length] at g1
  have hM : guessM (allB p l) = ({ p.m with cl := nilS }, l, pl') := by
    unfold guessM
    rw [x6, e3, g1]
    obtain ⟨e1, e2, e4, e5, e6, e7, e8, e9, e10⟩ := om.2.1
    have a1 : selc p.m ((row p.m.kd).take (lt p.m.kd).length) = { p.m with cl := nilS } := by
      unfold selc
      rw [sel_take q1 q2]
      obtain ⟨p1, p2, p3, p4, p5, p6, pm⟩ := p
      obtain ⟨k1, k2, k3, k4, k5, k6, k7, k8, k9⟩ := pm
      simp only [Msg.mk.injEq] at *
      exact ⟨e1.symm, e2.symm, e8.symm, e9.symm, e4.symm, e5.symm, e6.symm, e7.symm, trivial⟩
    have a2 : selL l ((row p.m.kd).take (lt p.m.kd).length) = l := by
      unfold selL
      have hm := mem_take (k := p.m.kd) q1 q2 (c := 8) (by decide)
      have e11 : l = if (8 : Int) ∈ row p.m.kd then l else [] := e10
      by_cases h8 : (8 : Int) ∈ row p.m.kd
      · rw [if_pos (hm.2 h8)]
      · rw [if_neg h8] at e11
        rw [if_neg (fun h => h8 (hm.1 h))]
        exact e11.symm
    rw [a1, a2]
  have h1 := hsm p.fr f1 (by omega)
  have h2 := hsm p.tt t1 (by omega)
  refine ⟨?_, by rw [hM]⟩
  unfold guessP
  rw [x0, x1, x2, x3, x4, x5, hM, h1, h2]
end Go.Proofs.YtpodmgbnldmlcaaDoor
