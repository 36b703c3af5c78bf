/-
  What is read is what was written.
-/
import Derived.Test.YtpodmgbnldmlcaaDoorFk
import Derived.Test.YtpodmgbnldmlcaaDoorRea
namespace Go.Proofs.YtpodmgbnldmlcaaDoor
open Go Go.Ideal Go.ChangeShapes Go.RowKit
set_option maxHeartbeats 0
set_option linter.unusedSimpArgs false
set_option linter.unusedVariables false
set_option maxRecDepth 100000

theorem two256 (n : Nat) : 2 ^ (8 * n) = 256 ^ n := by rw [Nat.pow_mul]
theorem nb_be : ∀ (n a x : Nat), nb a (be x n) = a * 256 ^ n + x % 256 ^ n
  | 0, a, x => by
    show a = a * 1 + x % 1
    omega
  | n + 1, a, x => by
    have ih := nb_be n (a * 256 + x / 2 ^ (8 * n) % 256) x
    show nb (a * 256 + x / 2 ^ (8 * n) % 256) (be x n) = _
    rw [ih, two256]
    have h := Nat.mod_pow_succ (b := 256) (k := n) (x := x)
    rw [h, Nat.pow_succ, Nat.add_mul, Nat.mul_assoc a 256, Nat.mul_comm 256 (256 ^ n), Nat.mul_comm (x / 256 ^ n % 256)]
    omega
theorem nb_be0 {n x : Nat} (h : x < 256 ^ n) : nb 0 (be x n) = x := by
  rw [nb_be, Nat.zero_mul, Nat.zero_add, Nat.mod_eq_of_lt h]
theorem nb_ge : ∀ (l : List Nat) (a : Nat), a * 256 ^ l.length ≤ nb a l
  | [], a => by show a * 1 ≤ a; omega
  | c :: l, a => by
    have ih := nb_ge l (a * 256 + c)
    show _ ≤ nb (a * 256 + c) l
    have : (a * 256) * 256 ^ l.length ≤ (a * 256 + c) * 256 ^ l.length := Nat.mul_le_mul_right _ (by omega)
    rw [List.length_cons, Nat.pow_succ, Nat.mul_comm (256 ^ l.length) 256, ← Nat.mul_assoc]
    omega
theorem nb_div {l : List Nat} {a : Nat} (h : ∀ b ∈ l, b < 256) : nb a l / 256 ^ l.length = a := by
  have h1 := nb_ge l a
  have h2 := nb_lt l a h
  have hp : 0 < 256 ^ l.length := Nat.pow_pos (by omega)
  refine Nat.div_eq_of_lt_le h1 ?_
  exact h2
theorem be_nb : ∀ {l : List Nat} (a : Nat), (∀ b ∈ l, b < 256) → be (nb a l) l.length = l
  | [], _, _ => rfl
  | c :: l, a, h => by
    have hl : ∀ b ∈ l, b < 256 := fun b hb => h b (by simp [hb])
    have hc := h c (by simp)
    show be (nb (a * 256 + c) l) (l.length + 1) = c :: l
    rw [be, two256, nb_div hl, be_nb (a * 256 + c) hl]
    congr 1
    omega
theorem tk_be {k x : Nat} {L : List Nat} (hx : x < 256 ^ k) : tk k (be x k ++ L, true) = (x, (L, true)) := by
  have hl := be_len x k
  unfold tk
  rw [if_pos ⟨rfl, by simp only [List.length_append]; omega⟩]
  simp only
  rw [List.take_left' hl, List.drop_left' hl, nb_be0 hx]
theorem tk_inv {k : Nat} {s : Stt} (hs : ∀ b ∈ s.1, b < 256) (h : (tk k s).2.2 = true) : s.2 = true ∧ s.1 = be (tk k s).1 k ++ (tk k s).2.1 := by
  unfold tk at h ⊢
  split
  · rename_i hc
    refine ⟨hc.1, ?_⟩
    simp only
    have hb : be (nb 0 (s.1.take k)) (s.1.take k).length = s.1.take k := be_nb 0 fun b hb => hs b (List.mem_of_mem_take hb)
    rw [List.length_take, Nat.min_eq_left hc.2] at hb
    rw [hb, List.take_append_drop]
  · rename_i hc
    rw [if_neg hc] at h
    cases h
theorem be_one {x : Nat} (h : x < 256) : be x 1 = [x] := by
  show [x / 2 ^ (8 * 0) % 256] = [x]
  simp only [Nat.mul_zero, Nat.pow_zero, Nat.div_one]
  rw [Nat.mod_eq_of_lt h]
theorem ub_nat {x : Nat} (h : x < 256) : ub (x : Int) = x := by unfold ub; omega
theorem ub_i8 {x : Nat} (h : x < 256) : ub (IntKind.i8.wrap (x : Int)) = x := by
  unfold ub
  simp only [IntKind.wrap, IntKind.bits, IntKind.signed, Bool.true_and, Nat.reduceSub, Int.reducePow]
  split
  · rename_i h
    have := of_decide_eq_true h
    omega
  · rename_i h
    simp only [ge_iff_le, decide_eq_true_eq, Int.not_le] at h
    omega
theorem i8_ub {x : Int} (h0 : -128 ≤ x) (h1 : x ≤ 127) : IntKind.i8.wrap ((ub x : Nat) : Int) = x := by
  unfold ub
  simp only [IntKind.wrap, IntKind.bits, IntKind.signed, Bool.true_and, Nat.reduceSub, Int.reducePow]
  split
  · rename_i h
    have := of_decide_eq_true h
    omega
  · rename_i h
    simp only [ge_iff_le, decide_eq_true_eq, Int.not_le] at h
    omega
theorem tk_ub {x : Int} {L : List Nat} : tk 1 (ub x :: L, true) = (ub x, (L, true)) := by
  have := tk_be (k := 1) (x := ub x) (L := L) (by have := ub_lt x; omega)
  rwa [be_one (ub_lt x)] at this

/-! ### Forth -/
theorem clS_take {l l0 : List Cl} {L : List Nat} (hl : ∀ j, j < l.length → 0 ≤ cel l j ∧ cel l j ≤ 1023 ∧ (l.getD j ⟨0, 0⟩).g < 4294967296) : ∀ i, i ≤ l.length → clS i (l0, (l.flatMap clb ++ L, true)) = (l0 ++ l.take i, ((l.drop i).flatMap clb ++ L, true))
  | 0, _ => by
    show (l0, (l.flatMap clb ++ L, true)) = _
    rw [List.take_zero, List.append_nil, List.drop_zero]
  | i + 1, hi => by
    have ih := clS_take (L := L) (l0 := l0) hl i (by omega)
    have hlt : i < l.length := by omega
    obtain ⟨h1, h2, h3⟩ := hl i hlt
    have hg : l.getD i ⟨0, 0⟩ = l[i] := by rw [List.getD_eq_getElem?_getD, List.getElem?_eq_getElem hlt]; rfl
    have hd : l.drop i = l[i] :: l.drop (i + 1) := List.drop_eq_getElem_cons hlt
    unfold cel at h1 h2
    rw [hg] at h1 h2 h3
    have e1 : ((l.drop i).flatMap clb ++ L) = be l[i].c.toNat 2 ++ (be l[i].g 4 ++ ((l.drop (i + 1)).flatMap clb ++ L)) := by
      rw [hd, List.flatMap_cons]
      unfold clb
      simp only [List.append_assoc]
    show ((clS i (l0, (l.flatMap clb ++ L, true))).1 ++ [⟨((tk 2 (clS i (l0, (l.flatMap clb ++ L, true))).2).1 : Int), (tk 4 (tk 2 (clS i (l0, (l.flatMap clb ++ L, true))).2).2).1⟩], (tk 4 (tk 2 (clS i (l0, (l.flatMap clb ++ L, true))).2).2).2) = _
    rw [ih]
    simp only
    rw [e1, tk_be (k := 2) (by simp only [Nat.reducePow]; omega), tk_be (k := 4) (by simp only [Nat.reducePow]; omega)]
    have e2 : (⟨((l[i].c.toNat : Nat) : Int), l[i].g⟩ : Cl) = l[i] := by
      have : ((l[i].c.toNat : Nat) : Int) = l[i].c := by omega
      rw [this]
    simp only
    rw [e2, List.take_add_one, List.getElem?_eq_getElem hlt, List.append_assoc]
    rfl
def selc (m : Msg) (G : List Int) : Msg := { sel m G with cl := nilS }
def selL (l : List Cl) (G : List Int) : List Cl := if (8 : Int) ∈ G then l else []
theorem fld_forth {m : Msg} {l : List Cl} {G : List Int} {L : List Nat} (hF : Fine0 m l) (hN : Nums m l) {f : Int} (h0 : 0 ≤ f) (h8 : f ≤ 8) (hG : f = 8 → G = []) :
    fldS f (selc m G, selL l G, (fb m l f ++ L, true)) = (selc m (G ++ [f]), selL l (G ++ [f]), (L, true)) := by
  obtain ⟨c1, c2, c3, c4, c5, c6⟩ := hF
  obtain ⟨n1, n2, n3, n4, n5, n6⟩ := hN
  have hsm : ∀ x : Int, 0 ≤ x → x ≤ 64 → ((ub x : Nat) : Int) = x := fun x h1 h2 => by unfold ub; omega
  have : f = 0 ∨ f = 1 ∨ f = 2 ∨ f = 3 ∨ f = 4 ∨ f = 5 ∨ f = 6 ∨ f = 7 ∨ f = 8 := by omega
  rcases this with rfl | rfl | rfl | rfl | rfl | rfl | rfl | rfl | rfl
  · show (selc m G, selL l G, (L, true)) = _
    unfold selc selL sel
    simp
  · show ({ selc m G with cell := ((tk 2 (be m.cell.toNat 2 ++ L, true)).1 : Int) }, selL l G, (tk 2 (be m.cell.toNat 2 ++ L, true)).2) = _
    rw [tk_be (k := 2) (by simp only [Nat.reducePow]; omega)]
    have : ((m.cell.toNat : Nat) : Int) = m.cell := by omega
    unfold selc selL sel
    simp [this]
  · show ({ selc m G with gen := (tk 4 (be m.gen 4 ++ L, true)).1 }, selL l G, (tk 4 (be m.gen 4 ++ L, true)).2) = _
    rw [tk_be (k := 4) (by simp only [Nat.reducePow]; omega)]
    unfold selc selL sel
    simp
  · show ({ selc m G with stamp := (tk 8 (be m.stamp 8 ++ L, true)).1 }, selL l G, (tk 8 (be m.stamp 8 ++ L, true)).2) = _
    rw [tk_be (k := 8) (by simp only [Nat.reducePow]; omega)]
    unfold selc selL sel
    simp
  · show ({ selc m G with prio := ((tk 1 (ub m.prio :: L, true)).1 : Int) }, selL l G, (tk 1 (ub m.prio :: L, true)).2) = _
    rw [tk_ub]
    have := hsm m.prio (by omega) (by omega)
    unfold selc selL sel
    simp [this]
  · show ({ selc m G with hops := ((tk 1 (ub m.hops :: L, true)).1 : Int) }, selL l G, (tk 1 (ub m.hops :: L, true)).2) = _
    rw [tk_ub]
    have := hsm m.hops (by omega) (by omega)
    unfold selc selL sel
    simp [this]
  · show ({ selc m G with orig := ((tk 1 (ub m.orig :: L, true)).1 : Int) }, selL l G, (tk 1 (ub m.orig :: L, true)).2) = _
    rw [tk_ub]
    have := hsm m.orig (by omega) (by omega)
    unfold selc selL sel
    simp [this]
  · show ({ selc m G with oth := IntKind.i8.wrap ((tk 1 (ub m.oth :: L, true)).1 : Int) }, selL l G, (tk 1 (ub m.oth :: L, true)).2) = _
    rw [tk_ub]
    have := i8_ub (x := m.oth) (by omega) (by omega)
    unfold selc selL sel
    simp [this]
  · rw [hG rfl]
    show (selc m [], clS (tk 1 (ub (l.length : Int) :: l.flatMap clb ++ L, true)).1 (selL l [], (tk 1 (ub (l.length : Int) :: l.flatMap clb ++ L, true)).2)) = _
    rw [List.cons_append, tk_ub, ub_nat (by omega)]
    simp only
    rw [clS_take n6 l.length (Nat.le_refl _), List.take_length, List.drop_length]
    unfold selc selL sel
    simp [nilS]
theorem row_eight (k : Int) : ∀ i, i < 5 → (row k).getD i 0 = 8 → i = 0 := by
  refine row_cases (p := fun F => ∀ i, i < 5 → F.getD i 0 = 8 → i = 0) ?_ ?_ ?_ ?_ ?_ ?_ ?_ ?_ ?_ <;> decide
theorem fold_forth {m : Msg} {l : List Cl} {L : List Nat} (hF : Fine0 m l) (hN : Nums m l) : ∀ i, i ≤ 5 → foldS ((row m.kd).take i) (mz m.kd, [], ((row m.kd).flatMap (fb m l) ++ L, true)) = (selc m ((row m.kd).take i), selL l ((row m.kd).take i), (((row m.kd).drop i).flatMap (fb m l) ++ L, true))
  | 0, _ => by
    rw [List.take_zero, List.drop_zero]
    show (mz m.kd, [], _) = _
    unfold selc selL sel mz
    simp
  | i + 1, hi => by
    have ih := fold_forth (L := L) hF hN i (by omega)
    have hlt : i < (row m.kd).length := by rw [row_len]; omega
    have hd : (row m.kd).drop i = (row m.kd).getD i 0 :: (row m.kd).drop (i + 1) := by
      rw [List.drop_eq_getElem_cons hlt, List.getD_eq_getElem?_getD, List.getElem?_eq_getElem hlt]; rfl
    obtain ⟨r1, r2⟩ := row_field m.kd i (by omega)
    rw [take_next hlt, foldS_append, ih, hd, List.flatMap_cons, List.append_assoc]
    exact fld_forth hF hN r1 r2 fun h => by
      have := row_eight m.kd i (by omega) h
      subst this
      rfl
theorem msg_forth {m : Msg} {l : List Cl} {L : List Nat} (o : OkM m l) (hN : Nums m l) : msgS m.kd ((row m.kd).flatMap (fb m l) ++ L, true) = ({ m with cl := nilS }, l, (L, true)) := by
  have h := fold_forth (L := L) o.2.2.1 hN 5 (Nat.le_refl _)
  rw [List.take_of_length_le (by rw [row_len]; omega), List.drop_of_length_le (by rw [row_len]; omega)] at h
  unfold msgS
  rw [h]
  obtain ⟨e1, e2, e3, e4, e5, e6, e7, e8, e9⟩ := o.2.1
  have a1 : selc m (row m.kd) = { m with cl := nilS } := by
    show { only m with cl := nilS } = _
    obtain ⟨k1, k2, k3, k4, k5, k6, k7, k8, k9⟩ := m
    simp only [Msg.mk.injEq] at *
    exact ⟨e1.symm, e2.symm, e7.symm, e8.symm, e3.symm, e4.symm, e5.symm, e6.symm, trivial⟩
  have a2 : selL l (row m.kd) = l := e9.symm
  rw [a1, a2]
  rfl
/-- What is written is read, and what stands behind it is left. -/
theorem read_forth {p : Pkt} {l : List Cl} {Z : List Nat} (o : OkP p l) (w : WfP p l) (hZ : ∀ b ∈ Z, b < 256) : readS (comp (allB p l ++ Z)) = ({ p with m := { p.m with cl := nilS } }, l, (Z, true)) := by
  have hN := nums_of w.2.2.2.2 o.2.2.2
  have hA : ∀ b ∈ allB p l ++ Z, b < 256 := fun b hb => (List.mem_append.1 hb).elim (allB_lt p l b) (hZ b)
  have hu : un (comp (allB p l ++ Z)) = some (allB p l ++ Z) := by
    have := un_comp hA []
    rw [List.append_nil] at this
    rw [this]
    show some ((allB p l ++ Z) ++ []) = _
    rw [List.append_nil]
  have hs : s0 (comp (allB p l ++ Z)) = (allB p l ++ Z, true) := by unfold s0; rw [hu]
  have hs2 : allB p l ++ Z = ub p.fr :: ub p.tt :: (be p.fe 4 ++ (be p.te 4 ++ (be p.sq 4 ++ (be p.mt 4 ++ (ub p.m.kd :: ((row p.m.kd).flatMap (fb p.m l) ++ Z)))))) := by
    unfold allB plainB
    simp only [List.flatMap_cons, List.flatMap_nil, List.append_nil, List.append_assoc, List.cons_append, List.nil_append]
  have hsm : ∀ x : Int, 0 ≤ x → x ≤ 64 → ((ub x : Nat) : Int) = x := fun x h1 h2 => by unfold ub; omega
  obtain ⟨⟨f1, f2⟩, ⟨t1, t2⟩, _, om⟩ := o
  have hk := om.1
  have b0 : a0 (comp (allB p l ++ Z)) = (ub p.fr, (ub p.tt :: (be p.fe 4 ++ (be p.te 4 ++ (be p.sq 4 ++ (be p.mt 4 ++ (ub p.m.kd :: ((row p.m.kd).flatMap (fb p.m l) ++ Z)))))), true)) := by
    unfold a0; rw [hs, hs2, tk_ub]
  have b1 : a1 (comp (allB p l ++ Z)) = (ub p.tt, ((be p.fe 4 ++ (be p.te 4 ++ (be p.sq 4 ++ (be p.mt 4 ++ (ub p.m.kd :: ((row p.m.kd).flatMap (fb p.m l) ++ Z)))))), true)) := by
    unfold a1; rw [b0, tk_ub]
  have b2 : a2 (comp (allB p l ++ Z)) = (p.fe, ((be p.te 4 ++ (be p.sq 4 ++ (be p.mt 4 ++ (ub p.m.kd :: ((row p.m.kd).flatMap (fb p.m l) ++ Z))))), true)) := by
    unfold a2; rw [b1, tk_be (k := 4) (by have := w.1; simp only [Nat.reducePow]; omega)]
  have b3 : a3 (comp (allB p l ++ Z)) = (p.te, ((be p.sq 4 ++ (be p.mt 4 ++ (ub p.m.kd :: ((row p.m.kd).flatMap (fb p.m l) ++ Z)))), true)) := by
    unfold a3; rw [b2, tk_be (k := 4) (by have := w.2.1; simp only [Nat.reducePow]; omega)]
  have b4 : a4 (comp (allB p l ++ Z)) = (p.sq, ((be p.mt 4 ++ (ub p.m.kd :: ((row p.m.kd).flatMap (fb p.m l) ++ Z))), true)) := by
    unfold a4; rw [b3, tk_be (k := 4) (by have := w.2.2.1; simp only [Nat.reducePow]; omega)]
  have b5 : a5 (comp (allB p l ++ Z)) = (p.mt, ((ub p.m.kd :: ((row p.m.kd).flatMap (fb p.m l) ++ Z)), true)) := by
    unfold a5; rw [b4, tk_be (k := 4) (by have := w.2.2.2.1; simp only [Nat.reducePow]; omega)]
  have b6 : a6 (comp (allB p l ++ Z)) = (ub p.m.kd, (((row p.m.kd).flatMap (fb p.m l) ++ Z), true)) := by
    unfold a6; rw [b5, tk_ub]
  have e1 := hsm p.fr f1 (by omega)
  have e2 := hsm p.tt t1 (by omega)
  have e3 := hsm p.m.kd (by omega) (by omega)
  have hm : msgO ((ub p.m.kd : Nat) : Int) ((row p.m.kd).flatMap (fb p.m l) ++ Z, true) = ({ p.m with cl := nilS }, l, (Z, true)) := by
    unfold msgO
    rw [e3, if_pos hk, msg_forth om hN]
  unfold readS
  rw [b0, b1, b2, b3, b4, b5, b6]
  simp only [hm, e1, e2]

/-! ### Back -/
theorem clS_back {l0 : List Cl} {s : Stt} (hs : ∀ b ∈ s.1, b < 256) : ∀ n, (clS n (l0, s)).2.2 = true → s.2 = true ∧ ∃ l : List Cl, (clS n (l0, s)).1 = l0 ++ l ∧ l.length = n ∧ s.1 = l.flatMap clb ++ (clS n (l0, s)).2.1 ∧ ∀ c ∈ l, c.g < 4294967296
  | 0, h => ⟨h, [], by show l0 = _; simp, rfl, rfl, fun c hc => (by cases hc)⟩
  | n + 1, h => by
    have hb := clS_by (n := n) (x := (l0, s)) hs
    have h4 := tk_inv (k := 4) (tk_by (k := 2) hb) h
    have h2 := tk_inv (k := 2) hb h4.1
    obtain ⟨hs2, l, e1, e2, e3, e4⟩ := clS_back hs n h2.1
    have g4 := tk_lt (k := 4) (tk_by (k := 2) hb)
    simp only [Nat.reducePow] at g4
    refine ⟨hs2, l ++ [⟨((tk 2 (clS n (l0, s)).2).1 : Int), (tk 4 (tk 2 (clS n (l0, s)).2).2).1⟩], ?_, by rw [List.length_append, e2]; rfl, ?_, ?_⟩
    · show (clS n (l0, s)).1 ++ [_] = _
      rw [e1, List.append_assoc]
    · rw [e3, List.flatMap_append, List.flatMap_singleton, List.append_assoc]
      congr 1
      show (clS n (l0, s)).2.1 = clb ⟨((tk 2 (clS n (l0, s)).2).1 : Int), (tk 4 (tk 2 (clS n (l0, s)).2).2).1⟩ ++ (tk 4 (tk 2 (clS n (l0, s)).2).2).2.1
      unfold clb
      rw [Int.toNat_natCast, List.append_assoc, ← h4.2, ← h2.2]
    · intro c hc
      rcases List.mem_append.1 hc with hc | hc
      · exact e4 c hc
      · rw [List.mem_singleton] at hc
        subst hc
        exact g4
theorem msg_back {k : Int} {s : Stt} (hk0 : 1 ≤ k) (hk1 : k ≤ 11) (hs : ∀ b ∈ s.1, b < 256) (h : (msgS k s).2.2.2 = true) : s.2 = true ∧ s.1 = (row k).flatMap (fb (msgS k s).1 (msgS k s).2.1) ++ (msgS k s).2.2.1 ∧ (msgS k s).1.kd = k ∧ (msgS k s).1.gen < 4294967296 ∧ (msgS k s).1.stamp < 18446744073709551616 ∧ ∀ c ∈ (msgS k s).2.1, c.g < 4294967296 := by
  have t1 : ∀ {s : Stt}, (∀ b ∈ s.1, b < 256) → (tk 1 s).1 < 256 := fun hs => by have := tk_lt (k := 1) hs; simpa using this
  have t4 : ∀ {s : Stt}, (∀ b ∈ s.1, b < 256) → (tk 4 s).1 < 4294967296 := fun hs => by have := tk_lt (k := 4) hs; simpa using this
  have t8 : ∀ {s : Stt}, (∀ b ∈ s.1, b < 256) → (tk 8 s).1 < 18446744073709551616 := fun hs => by have := tk_lt (k := 8) hs; simpa using this
  have ob : ∀ {s : Stt}, (∀ b ∈ s.1, b < 256) → (tk 1 s).2.2 = true → s.2 = true ∧ s.1 = (tk 1 s).1 :: (tk 1 s).2.1 := fun {s} hs h => by
    have := tk_inv (k := 1) hs h
    rw [be_one (t1 hs)] at this
    exact this
  have hrow : row k = [1, 3, 4, 0, 0] ∨ row k = [1, 2, 3, 0, 0] ∨ row k = [1, 2, 0, 0, 0] ∨ row k = [0, 0, 0, 0, 0] ∨ row k = [1, 3, 7, 0, 0] ∨ row k = [1, 6, 7, 4, 5] ∨ row k = [6, 7, 0, 0, 0] ∨ row k = [1, 4, 0, 0, 0] ∨ row k = [8, 0, 0, 0, 0] := by
    refine row_cases (p := fun F => F = [1, 3, 4, 0, 0] ∨ F = [1, 2, 3, 0, 0] ∨ F = [1, 2, 0, 0, 0] ∨ F = [0, 0, 0, 0, 0] ∨ F = [1, 3, 7, 0, 0] ∨ F = [1, 6, 7, 4, 5] ∨ F = [6, 7, 0, 0, 0] ∨ F = [1, 4, 0, 0, 0] ∨ F = [8, 0, 0, 0, 0]) ?_ ?_ ?_ ?_ ?_ ?_ ?_ ?_ ?_ <;> simp
  unfold msgS at h ⊢
  have hb2 := tk_by (k := 2) hs
  rcases hrow with e | e | e | e | e | e | e | e | e <;> rw [e] at h ⊢
  · have b1 := tk_by (k := 8) hb2
    have x3 := ob b1 h
    have x2 := tk_inv (k := 8) hb2 x3.1
    have x1 := tk_inv (k := 2) hs x2.1
    refine ⟨x1.1, ?_, rfl, by show (0 : Nat) < _; omega, t8 hb2, fun c hc => (by cases hc)⟩
    show s.1 = (be ((tk 2 s).1 : Int).toNat 2 ++ (be (tk 8 (tk 2 s).2).1 8 ++ ([ub ((tk 1 (tk 8 (tk 2 s).2).2).1 : Int)] ++ []))) ++ (tk 1 (tk 8 (tk 2 s).2).2).2.1
    rw [Int.toNat_natCast, ub_nat (t1 b1), List.append_assoc, List.append_assoc, List.append_nil, List.singleton_append, ← x3.2, ← x2.2, ← x1.2]
  · have b1 := tk_by (k := 4) hb2
    have x3 := tk_inv (k := 8) b1 h
    have x2 := tk_inv (k := 4) hb2 x3.1
    have x1 := tk_inv (k := 2) hs x2.1
    refine ⟨x1.1, ?_, rfl, t4 hb2, t8 b1, fun c hc => (by cases hc)⟩
    show s.1 = (be ((tk 2 s).1 : Int).toNat 2 ++ (be (tk 4 (tk 2 s).2).1 4 ++ (be (tk 8 (tk 4 (tk 2 s).2).2).1 8 ++ []))) ++ (tk 8 (tk 4 (tk 2 s).2).2).2.1
    rw [Int.toNat_natCast, List.append_assoc, List.append_assoc, List.append_nil, ← x3.2, ← x2.2, ← x1.2]
  · have x2 := tk_inv (k := 4) hb2 h
    have x1 := tk_inv (k := 2) hs x2.1
    refine ⟨x1.1, ?_, rfl, t4 hb2, by show (0 : Nat) < _; omega, fun c hc => (by cases hc)⟩
    show s.1 = (be ((tk 2 s).1 : Int).toNat 2 ++ (be (tk 4 (tk 2 s).2).1 4 ++ [])) ++ (tk 4 (tk 2 s).2).2.1
    rw [Int.toNat_natCast, List.append_assoc, List.append_nil, ← x2.2, ← x1.2]
  · exact ⟨h, rfl, rfl, by show (0 : Nat) < _; omega, by show (0 : Nat) < _; omega, fun c hc => (by cases hc)⟩
  · have b1 := tk_by (k := 8) hb2
    have x3 := ob b1 h
    have x2 := tk_inv (k := 8) hb2 x3.1
    have x1 := tk_inv (k := 2) hs x2.1
    refine ⟨x1.1, ?_, rfl, by show (0 : Nat) < _; omega, t8 hb2, fun c hc => (by cases hc)⟩
    show s.1 = (be ((tk 2 s).1 : Int).toNat 2 ++ (be (tk 8 (tk 2 s).2).1 8 ++ ([ub (IntKind.i8.wrap ((tk 1 (tk 8 (tk 2 s).2).2).1 : Int))] ++ []))) ++ (tk 1 (tk 8 (tk 2 s).2).2).2.1
    rw [Int.toNat_natCast, ub_i8 (t1 b1), List.append_assoc, List.append_assoc, List.append_nil, List.singleton_append, ← x3.2, ← x2.2, ← x1.2]
  · have b3 := tk_by (k := 1) hb2
    have b4 := tk_by (k := 1) b3
    have b5 := tk_by (k := 1) b4
    have x5 := ob b5 h
    have x4 := ob b4 x5.1
    have x3 := ob b3 x4.1
    have x2 := ob hb2 x3.1
    have x1 := tk_inv (k := 2) hs x2.1
    refine ⟨x1.1, ?_, rfl, by show (0 : Nat) < _; omega, by show (0 : Nat) < _; omega, fun c hc => (by cases hc)⟩
    show s.1 = (be ((tk 2 s).1 : Int).toNat 2 ++ ([ub ((tk 1 (tk 2 s).2).1 : Int)] ++ ([ub (IntKind.i8.wrap ((tk 1 (tk 1 (tk 2 s).2).2).1 : Int))] ++ ([ub ((tk 1 (tk 1 (tk 1 (tk 2 s).2).2).2).1 : Int)] ++ ([ub ((tk 1 (tk 1 (tk 1 (tk 1 (tk 2 s).2).2).2).2).1 : Int)] ++ []))))) ++ (tk 1 (tk 1 (tk 1 (tk 1 (tk 2 s).2).2).2).2).2.1
    rw [Int.toNat_natCast, ub_nat (t1 hb2), ub_i8 (t1 b3), ub_nat (t1 b4), ub_nat (t1 b5)]
    simp only [List.append_assoc, List.append_nil, List.singleton_append, List.cons_append, List.nil_append]
    rw [← x5.2, ← x4.2, ← x3.2, ← x2.2, ← x1.2]
  · have b1 := tk_by (k := 1) hs
    have x2 := ob b1 h
    have x1 := ob hs x2.1
    refine ⟨x1.1, ?_, rfl, by show (0 : Nat) < _; omega, by show (0 : Nat) < _; omega, fun c hc => (by cases hc)⟩
    show s.1 = ([ub ((tk 1 s).1 : Int)] ++ ([ub (IntKind.i8.wrap ((tk 1 (tk 1 s).2).1 : Int))] ++ [])) ++ (tk 1 (tk 1 s).2).2.1
    rw [ub_nat (t1 hs), ub_i8 (t1 b1)]
    simp only [List.append_assoc, List.append_nil, List.singleton_append, List.cons_append, List.nil_append]
    rw [← x2.2, ← x1.2]
  · have x2 := ob hb2 h
    have x1 := tk_inv (k := 2) hs x2.1
    refine ⟨x1.1, ?_, rfl, by show (0 : Nat) < _; omega, by show (0 : Nat) < _; omega, fun c hc => (by cases hc)⟩
    show s.1 = (be ((tk 2 s).1 : Int).toNat 2 ++ ([ub ((tk 1 (tk 2 s).2).1 : Int)] ++ [])) ++ (tk 1 (tk 2 s).2).2.1
    rw [Int.toNat_natCast, ub_nat (t1 hb2), List.append_assoc, List.append_nil, List.singleton_append, ← x2.2, ← x1.2]
  · have b1 := tk_by (k := 1) hs
    obtain ⟨y1, l, y2, y3, y4, y5⟩ := clS_back b1 (tk 1 s).1 h
    have x1 := ob hs y1
    have hl : (clS (tk 1 s).1 ([], (tk 1 s).2)).1 = l := y2
    refine ⟨x1.1, ?_, rfl, by show (0 : Nat) < _; omega, by show (0 : Nat) < _; omega, ?_⟩
    · show s.1 = (ub (((clS (tk 1 s).1 ([], (tk 1 s).2)).1).length : Int) :: ((clS (tk 1 s).1 ([], (tk 1 s).2)).1).flatMap clb ++ []) ++ (clS (tk 1 s).1 ([], (tk 1 s).2)).2.1
      rw [hl, y3, ub_nat (t1 hs), List.append_nil, List.cons_append, ← y4, ← x1.2]
    · show ∀ c ∈ (clS (tk 1 s).1 ([], (tk 1 s).2)).1, _
      rw [hl]
      exact y5
/-- What is read has been written so. -/
theorem read_back {B : List Nat} (hB : ∀ b ∈ B, b < 256) (h : RdOk B) : B = comp (allB (readS B).1 (readS B).2.1) ∧ WfP (readS B).1 (readS B).2.1 := by
  obtain ⟨hst, ho⟩ := h
  obtain ⟨c0, -⟩ := s0_by hB
  have c1 := tk_by (k := 1) c0
  have c2 := tk_by (k := 1) (s := (a0 B).2) c1
  have c3 := tk_by (k := 4) (s := (a1 B).2) c2
  have c4 := tk_by (k := 4) (s := (a2 B).2) c3
  have c5 := tk_by (k := 4) (s := (a3 B).2) c4
  have c6 := tk_by (k := 4) (s := (a4 B).2) c5
  have c7 := tk_by (k := 1) (s := (a5 B).2) c6
  have l0 := tk_lt (k := 1) c0
  have l1 := tk_lt (k := 1) (s := (a0 B).2) c1
  have l2 := tk_lt (k := 4) (s := (a1 B).2) c2
  have l3 := tk_lt (k := 4) (s := (a2 B).2) c3
  have l4 := tk_lt (k := 4) (s := (a3 B).2) c4
  have l5 := tk_lt (k := 4) (s := (a4 B).2) c5
  have l6 := tk_lt (k := 1) (s := (a5 B).2) c6
  simp only [Nat.reducePow] at l0 l1 l2 l3 l4 l5 l6
  change (a0 B).1 < 256 at l0
  change (a1 B).1 < 256 at l1
  change (a6 B).1 < 256 at l6
  change ∀ b ∈ (a6 B).2.1, b < 256 at c7
  have hst2 : (msgO (a6 B).1 (a6 B).2).2.2 = ([], true) := hst
  have hkd : (msgO ((a6 B).1 : Int) (a6 B).2).1.kd = (readS B).1.m.kd := rfl
  have hk := ho.2.2.2.1
  by_cases hk6 : 1 ≤ ((a6 B).1 : Int) ∧ ((a6 B).1 : Int) ≤ 11
  case neg =>
    have e : msgO ((a6 B).1 : Int) (a6 B).2 = (mz 0, [], (a6 B).2) := if_neg hk6
    rw [← hkd, e] at hk
    exact absurd hk.1 (by show ¬ (1 : Int) ≤ 0; omega)
  have em : msgO ((a6 B).1 : Int) (a6 B).2 = msgS (a6 B).1 (a6 B).2 := if_pos hk6
  rw [em] at hst2
  obtain ⟨m1, m2, m3, m4, m5, m6⟩ := msg_back hk6.1 hk6.2 c7 (by rw [hst2])
  have k6 := tk_inv (k := 1) (s := (a5 B).2) c6 m1
  have k5 := tk_inv (k := 4) (s := (a4 B).2) c5 k6.1
  have k4 := tk_inv (k := 4) (s := (a3 B).2) c4 k5.1
  have k3 := tk_inv (k := 4) (s := (a2 B).2) c3 k4.1
  have k2 := tk_inv (k := 4) (s := (a1 B).2) c2 k3.1
  have k1 := tk_inv (k := 1) (s := (a0 B).2) c1 k2.1
  have k0 := tk_inv (k := 1) c0 k1.1
  have er : readS B = (⟨(a0 B).1, (a1 B).1, (a2 B).1, (a3 B).1, (a4 B).1, (a5 B).1, (msgS (a6 B).1 (a6 B).2).1⟩, (msgS (a6 B).1 (a6 B).2).2.1, (msgS (a6 B).1 (a6 B).2).2.2) := by
    unfold readS
    rw [em]
  rw [er]
  simp only
  obtain ⟨A, hA⟩ : ∃ A, un B = some A := by
    cases hu : un B with
    | none =>
      have : (s0 B).2 = false := by unfold s0; rw [hu]
      rw [this] at k0
      exact absurd k0.1 (by simp)
    | some A => exact ⟨A, rfl⟩
  have hs0 : (s0 B).1 = A := by unfold s0; rw [hA]
  refine ⟨?_, l2, l3, l4, l5, m4, m5, fun j hj => ?_⟩
  · refine (un_some hB hA).trans ?_
    congr 1
    refine hs0.symm.trans (k0.2.trans ?_)
    show be (a0 B).1 1 ++ (a0 B).2.1 = _
    rw [be_one l0]
    show (a0 B).1 :: (a0 B).2.1 = _
    rw [k1.2]
    show (a0 B).1 :: (be (a1 B).1 1 ++ (a1 B).2.1) = _
    rw [be_one l1]
    show (a0 B).1 :: (a1 B).1 :: (a1 B).2.1 = _
    rw [k2.2]
    show (a0 B).1 :: (a1 B).1 :: (be (a2 B).1 4 ++ (a2 B).2.1) = _
    rw [k3.2]
    show (a0 B).1 :: (a1 B).1 :: (be (a2 B).1 4 ++ (be (a3 B).1 4 ++ (a3 B).2.1)) = _
    rw [k4.2]
    show (a0 B).1 :: (a1 B).1 :: (be (a2 B).1 4 ++ (be (a3 B).1 4 ++ (be (a4 B).1 4 ++ (a4 B).2.1))) = _
    rw [k5.2]
    show (a0 B).1 :: (a1 B).1 :: (be (a2 B).1 4 ++ (be (a3 B).1 4 ++ (be (a4 B).1 4 ++ (be (a5 B).1 4 ++ (a5 B).2.1)))) = _
    rw [k6.2]
    show (a0 B).1 :: (a1 B).1 :: (be (a2 B).1 4 ++ (be (a3 B).1 4 ++ (be (a4 B).1 4 ++ (be (a5 B).1 4 ++ (be (a6 B).1 1 ++ (a6 B).2.1))))) = _
    rw [be_one l6]
    show (a0 B).1 :: (a1 B).1 :: (be (a2 B).1 4 ++ (be (a3 B).1 4 ++ (be (a4 B).1 4 ++ (be (a5 B).1 4 ++ ((a6 B).1 :: (a6 B).2.1))))) = _
    rw [m2, hst2]
    unfold allB plainB
    simp only [ub_nat l0, ub_nat l1, m3, ub_nat l6, List.flatMap_cons, List.flatMap_nil, List.append_nil, List.append_assoc, List.cons_append, List.nil_append]
  · rw [List.getD_eq_getElem?_getD, List.getElem?_eq_getElem hj]
    exact m6 _ (List.getElem_mem hj)
theorem read_ok {p : Pkt} {l : List Cl} (o : OkP p l) (w : WfP p l) : RdOk (comp (allB p l)) ∧ readS (comp (allB p l)) = ({ p with m := { p.m with cl := nilS } }, l, ([], true)) := by
  have h := read_forth (Z := []) o w (fun b hb => by cases hb)
  rw [List.append_nil] at h
  refine ⟨?_, h⟩
  unfold RdOk
  rw [h]
  exact ⟨rfl, o⟩
end Go.Proofs.YtpodmgbnldmlcaaDoor
