/-
  The bytes of a message's fields, one field after another.
-/
import Derived.Test.YtpodmgbnldmlcaaDoorFk
import Derived.Test.YtpodmgbnldmlcaaDoorChk
namespace Go.Proofs.YtpodmgbnldmlcaaDoor
open Go Go.Ideal Go.ChangeShapes Go.RowKit
set_option maxHeartbeats 0
set_option linter.unusedSimpArgs false
set_option linter.unusedVariables false
set_option maxRecDepth 100000
attribute [local irreducible] callV T.All T.Is run

/-- The lowest byte of a number. -/
def ub (x : Int) : Nat := (x % 256).toNat
theorem u8_ub (x : Int) : IntKind.u8.wrap x = ((ub x : Nat) : Int) := by
  rw [u8_wrap]; unfold ub; omega
theorem u64_of {x : Int} (h : 0 ≤ x) (h2 : x < 18446744073709551616) : IntKind.u64.wrap x = ((x.toNat : Nat) : Int) := by
  simp only [IntKind.wrap, IntKind.bits, IntKind.signed, Bool.false_and, Int.reducePow, Bool.false_eq_true, ↓reduceIte]
  omega
/-- The bytes of a claim. -/
def clb (c : Cl) : List Nat := be c.c.toNat 2 ++ be c.g 4
/-- The bytes of a field. -/
def fb (m : Msg) (l : List Cl) (f : Int) : List Nat :=
  if f = 1 then be m.cell.toNat 2 else if f = 2 then be m.gen 4 else if f = 3 then be m.stamp 8 else if f = 4 then [ub m.prio] else if f = 5 then [ub m.hops] else if f = 6 then [ub m.orig] else if f = 7 then [ub m.oth]
  else if f = 8 then ub (l.length : Int) :: l.flatMap clb else []
theorem clb_len : ∀ l : List Cl, (l.flatMap clb).length = 6 * l.length
  | [] => rfl
  | c :: l => by
    have := clb_len l
    have h : (clb c).length = 6 := by unfold clb; rw [List.length_append, be_len, be_len]
    rw [List.flatMap_cons, List.length_append, List.length_cons]; omega
def pAsg : ICode := (.region [
     ⟨(some 5), .move (.tmp 17), none, [], true⟩])
def pBody : ICode := (.block 1 (.seq (.region [
     ⟨(some 18), .move (.tmp 5), none, [], true⟩])
   (.block 2 (.seq (.region [
     ⟨(some 20), .bin .eql (.tmp 18) (.const (.int .i64 1)), none, [], true⟩,
     ⟨(some 19), .move (.tmp 20), none, [], true⟩])
   (.cond (.tmp 19)
    (.region [
      ⟨(some 21), .load none (.tmp 2), none, [], true⟩,
      ⟨(some 22), .fieldAddr 1 (.tmp 3), none, [], true⟩,
      ⟨(some 23), .load none (.tmp 22), none, [], true⟩,
      ⟨(some 24), .conv .u64 (.tmp 23), none, [], true⟩,
      ⟨(some 25), .call (.const (.func (.func 29) #[] #[])) [(.tmp 21), (.tmp 24), (.const (.int .i64 2))], none, [], true⟩,
      ⟨none, .store 1 (.tmp 2) (.tmp 25), none, [], true⟩])
    (.seq (.region [
      ⟨(some 27), .bin .eql (.tmp 18) (.const (.int .i64 2)), none, [], true⟩,
      ⟨(some 26), .move (.tmp 27), none, [], true⟩])
    (.cond (.tmp 26)
     (.region [
       ⟨(some 28), .load none (.tmp 2), none, [], true⟩,
       ⟨(some 29), .fieldAddr 2 (.tmp 3), none, [], true⟩,
       ⟨(some 30), .load none (.tmp 29), none, [], true⟩,
       ⟨(some 31), .conv .u64 (.tmp 30), none, [], true⟩,
       ⟨(some 32), .call (.const (.func (.func 29) #[] #[])) [(.tmp 28), (.tmp 31), (.const (.int .i64 4))], none, [], true⟩,
       ⟨none, .store 1 (.tmp 2) (.tmp 32), none, [], true⟩])
     (.seq (.region [
       ⟨(some 34), .bin .eql (.tmp 18) (.const (.int .i64 3)), none, [], true⟩,
       ⟨(some 33), .move (.tmp 34), none, [], true⟩])
     (.cond (.tmp 33)
      (.region [
        ⟨(some 35), .load none (.tmp 2), none, [], true⟩,
        ⟨(some 36), .fieldAddr 3 (.tmp 3), none, [], true⟩,
        ⟨(some 37), .load none (.tmp 36), none, [], true⟩,
        ⟨(some 38), .call (.const (.func (.func 29) #[] #[])) [(.tmp 35), (.tmp 37), (.const (.int .i64 8))], none, [], true⟩,
        ⟨none, .store 1 (.tmp 2) (.tmp 38), none, [], true⟩])
      (.seq (.region [
        ⟨(some 40), .bin .eql (.tmp 18) (.const (.int .i64 4)), none, [], true⟩,
        ⟨(some 39), .move (.tmp 40), none, [], true⟩])
      (.cond (.tmp 39)
       (.region [
         ⟨(some 41), .load none (.tmp 2), none, [], true⟩,
         ⟨(some 42), .fieldAddr 4 (.tmp 3), none, [], true⟩,
         ⟨(some 43), .load none (.tmp 42), none, [], true⟩,
         ⟨(some 44), .conv .u8 (.tmp 43), none, [], true⟩,
         ⟨(some 45), .buildSlice 1 1 [(.int .u8 0)] [(0, (.tmp 44))], none, [], true⟩,
         ⟨(some 46), .append 1 1 (.tmp 41) (.tmp 45), none, [], true⟩,
         ⟨none, .store 1 (.tmp 2) (.tmp 46), none, [], true⟩])
       (.seq (.region [
         ⟨(some 48), .bin .eql (.tmp 18) (.const (.int .i64 5)), none, [], true⟩,
         ⟨(some 47), .move (.tmp 48), none, [], true⟩])
       (.cond (.tmp 47)
        (.region [
          ⟨(some 49), .load none (.tmp 2), none, [], true⟩,
          ⟨(some 50), .fieldAddr 5 (.tmp 3), none, [], true⟩,
          ⟨(some 51), .load none (.tmp 50), none, [], true⟩,
          ⟨(some 52), .conv .u8 (.tmp 51), none, [], true⟩,
          ⟨(some 53), .buildSlice 1 1 [(.int .u8 0)] [(0, (.tmp 52))], none, [], true⟩,
          ⟨(some 54), .append 1 1 (.tmp 49) (.tmp 53), none, [], true⟩,
          ⟨none, .store 1 (.tmp 2) (.tmp 54), none, [], true⟩])
        (.seq (.region [
          ⟨(some 56), .bin .eql (.tmp 18) (.const (.int .i64 6)), none, [], true⟩,
          ⟨(some 55), .move (.tmp 56), none, [], true⟩])
        (.cond (.tmp 55)
         (.region [
           ⟨(some 57), .load none (.tmp 2), none, [], true⟩,
           ⟨(some 58), .fieldAddr 6 (.tmp 3), none, [], true⟩,
           ⟨(some 59), .load none (.tmp 58), none, [], true⟩,
           ⟨(some 60), .conv .u8 (.tmp 59), none, [], true⟩,
           ⟨(some 61), .buildSlice 1 1 [(.int .u8 0)] [(0, (.tmp 60))], none, [], true⟩,
           ⟨(some 62), .append 1 1 (.tmp 57) (.tmp 61), none, [], true⟩,
           ⟨none, .store 1 (.tmp 2) (.tmp 62), none, [], true⟩])
         (.seq (.region [
           ⟨(some 64), .bin .eql (.tmp 18) (.const (.int .i64 7)), none, [], true⟩,
           ⟨(some 63), .move (.tmp 64), none, [], true⟩])
         (.cond (.tmp 63)
          (.region [
            ⟨(some 65), .load none (.tmp 2), none, [], true⟩,
            ⟨(some 66), .fieldAddr 7 (.tmp 3), none, [], true⟩,
            ⟨(some 67), .load none (.tmp 66), none, [], true⟩,
            ⟨(some 68), .conv .u8 (.tmp 67), none, [], true⟩,
            ⟨(some 69), .buildSlice 1 1 [(.int .u8 0)] [(0, (.tmp 68))], none, [], true⟩,
            ⟨(some 70), .append 1 1 (.tmp 65) (.tmp 69), none, [], true⟩,
            ⟨none, .store 1 (.tmp 2) (.tmp 70), none, [], true⟩])
          (.seq (.region [
            ⟨(some 72), .bin .eql (.tmp 18) (.const (.int .i64 8)), none, [], true⟩,
            ⟨(some 71), .move (.tmp 72), none, [], true⟩])
          (.cond (.tmp 71)
           (.seq (.region [
             ⟨(some 73), .load none (.tmp 2), none, [], true⟩,
             ⟨(some 74), .fieldAddr 8 (.tmp 3), none, [], true⟩,
             ⟨(some 75), .load none (.tmp 74), none, [], true⟩,
             ⟨(some 76), .lenSlice (.tmp 75), none, [], true⟩,
             ⟨(some 77), .conv .u8 (.tmp 76), none, [], true⟩,
             ⟨(some 78), .buildSlice 1 1 [(.int .u8 0)] [(0, (.tmp 77))], none, [], true⟩,
             ⟨(some 79), .append 1 1 (.tmp 73) (.tmp 78), none, [], true⟩,
             ⟨none, .store 1 (.tmp 2) (.tmp 79), none, [], true⟩])
           (.seq (.region [
             ⟨(some 80), .fieldAddr 8 (.tmp 3), none, [], true⟩,
             ⟨(some 81), .load none (.tmp 80), none, [], true⟩,
             ⟨(some 82), .lenSlice (.tmp 81), none, [], true⟩,
             ⟨(some 83), .move (.const (.int .i64 0)), none, [], true⟩])
           (.block 3 (.loop (.seq (.region [
             ⟨(some 84), .bin .lss (.tmp 83) (.tmp 82), none, [], true⟩])
           (.seq (.cond (.tmp 84)
            .skip
            (.exit 3))
           (.seq (.block 4 (.seq (.region [
             ⟨(some 85), .indexAddr 2 (.tmp 81) (.tmp 83), none, [], true⟩,
             ⟨(some 86), .load (some 2) (.tmp 85), none, [], true⟩,
             ⟨(some 7), .box (.const (.agg #[(.int .i64 0), (.int .u32 0)])), none, [], true⟩,
             ⟨none, .store 2 (.tmp 7) (.tmp 86), none, [], true⟩])
           (.drawn [
             ⟨(some 87), .load none (.tmp 2), none, [], false⟩,
             ⟨(some 88), .fieldAddr 0 (.tmp 7), none, [], false⟩,
             ⟨(some 89), .load none (.tmp 88), none, [1], false⟩,
             ⟨(some 90), .conv .u64 (.tmp 89), none, [2, 1], false⟩,
             ⟨(some 91), .call (.const (.func (.func 29) #[] #[])) [(.tmp 87), (.tmp 90), (.const (.int .i64 2))], none, [0, 3, 2, 1], false⟩,
             ⟨(some 92), .fieldAddr 1 (.tmp 7), none, [], false⟩,
             ⟨(some 93), .load none (.tmp 92), none, [5], false⟩,
             ⟨(some 94), .conv .u64 (.tmp 93), none, [6, 5], false⟩,
             ⟨(some 95), .call (.const (.func (.func 29) #[] #[])) [(.tmp 91), (.tmp 94), (.const (.int .i64 4))], none, [4, 7, 0, 3, 2, 1, 6, 5], true⟩,
             ⟨none, .store 1 (.tmp 2) (.tmp 95), none, [8, 0, 1, 2, 3, 4, 5, 6, 7], true⟩])))
           (.region [
             ⟨(some 96), .bin .add (.tmp 83) (.const (.int .i64 1)), none, [], true⟩,
             ⟨(some 83), .move (.tmp 96), none, [], true⟩]))))))))
           .skip)))))))))))))))))))
def pLoop (D : Nat) (tm : List Value) : ILoop := { state := .ready, pending := .normal, tmps := tm, params := [17], assign := pAsg, body := pBody, defers := D }
theorem pL_a (D : Nat) (tm : List Value) : (pLoop D tm).assign = pAsg := rfl
theorem pL_b (D : Nat) (tm : List Value) : (pLoop D tm).body = pBody := rfl
theorem pL_t (D : Nat) (tm : List Value) : (pLoop D tm).tmps = tm := rfl
theorem pL_p (D : Nat) (tm : List Value) : (pLoop D tm).params = [17] := rfl
/-- What a message's numbers must be for its bytes. -/
def Nums (m : Msg) (l : List Cl) : Prop := 0 ≤ m.cell ∧ m.cell ≤ 1023 ∧ m.gen < 4294967296 ∧ m.stamp < 18446744073709551616 ∧ l.length ≤ 16 ∧ ∀ j, j < l.length → 0 ≤ cel l j ∧ cel l j ≤ 1023 ∧ (l.getD j ⟨0, 0⟩).g < 4294967296
theorem sc_one' {v : Value} (h : ∃ p a b, v = Value.slice p a b) : cellsOf v = [v] ∧ oneCell v = true := by
  obtain ⟨p, a, b, rfl⟩ := h
  exact ⟨rfl, rfl⟩
section
variable {ro : Nat → Option (List Value × Nat)} {h : Heap} {R : List Rs} {m : Msg} {l : List Cl}
theorem scOne {α : Type} {z : Nat} {g : α → List Value} {v : Value} {t : List α} (O : Has ro h R) (i : Nat) (hi : R[i]? = some (Sc z g v t)) : cellsOf v = [v] ∧ oneCell v = true := by
  obtain ⟨p, c, rfl, _⟩ := O.scVal i hi
  exact ⟨rfl, rfl⟩
/-- The blocks of a slice, and that two others are none of them. -/
theorem sc_plan {α : Type} {z : Nat} {g : α → List Value} {v : Value} {t : List α} {x y : Nat} {ox oy : IObj} (O : Has ro h (Ob x ox :: Ob y oy :: Sc z g v t :: R)) :
    ∃ bs : List Nat, (∀ S, (Sc z g v t).is h S → Gd h S → ∀ b, S b → b / 2 ∈ bs) ∧ x / 2 ∉ bs ∧ y / 2 ∉ bs := by
  have O2 := (O.at 2 rfl)
  rcases O2.scOpen with ⟨rfl, rfl, _⟩ | ⟨b, c, rest, sp, zz, tt, b1, b2, b3, b4, O3⟩
  · refine ⟨[], fun S hS _ b hb => ?_, by simp, by simp⟩
    rcases hS with ⟨_, _, n⟩ | ⟨b', c', rest', sp', zz', t', e, _⟩
    · exact absurd hb (n b)
    · cases e
  · refine ⟨[b / 2], fun S hS _ x hx => ?_, ?_, ?_⟩
    · rcases hS with ⟨_, hv, n⟩ | ⟨b', c', rest', sp', zz', t', e, hS', _⟩
      · exact absurd hx (n x)
      · rw [b1] at e
        cases e
        rw [(hS' x).1 hx]; simp
    · have h1 := (O3.info (i := 1) rfl).2.1
      have h2 := (O3.info (i := 0) rfl).2.1
      have h3 := Has.ne O3 0 1 (by omega) rfl rfl
      simp only [List.mem_singleton]
      omega
    · have h1 := (O3.info (i := 2) rfl).2.1
      have h2 := (O3.info (i := 0) rfl).2.1
      have h3 := Has.ne O3 0 2 (by omega) rfl rfl
      simp only [List.mem_singleton]
      omega
theorem plan4 {bs : List Nat} : ∀ k, k ≠ 4 → ([[], [], [], [], bs] : List (List Nat)).getD k [] = []
  | 0, _ => rfl
  | 1, _ => rfl
  | 2, _ => rfl
  | 3, _ => rfl
  | 4, h => absurd rfl h
  | k + 5, _ => rfl
theorem notin4 {bs : List Nat} {x : Nat} (h : x ∉ bs) (k : Nat) : x ∉ ([[], [], [], [], bs] : List (List Nat)).getD k [] := by
  by_cases e : k = 4
  · subst e; exact h
  · rw [plan4 k e]; simp
theorem unord_ne {an : List (List Nat)} {i k : Nat} (h : unord an i k = true) : k ≠ i := by
  unfold unord at h
  simp only [Bool.and_eq_true, bne_iff_ne, ne_eq] at h
  exact fun e => h.1.1 e.symm
theorem fr_ok {i n m xb : Nat} (hx : xb < 2 * n) : ∀ x ∈ (if n < m then (i, n, m) :: ([] : List (Nat × Nat × Nat)) else []), xb / 2 < x.2.1 ∨ x.2.2 ≤ xb / 2 := by
  intro x hx2
  split at hx2
  · simp at hx2; subst hx2; exact Or.inl (by show xb / 2 < n; omega)
  · cases hx2
theorem Dp.conv {env : Env} {n fuel : Nat} {ar : Option Nat} {asx plan : List (List Nat)} {i : Nat} {fr : List (Nat × Nat × Nat)} {tm : List Value} {df : List Nat} {h : Heap} {K : List Fr} {Q : IExit × St → Prop} {r : List IOper} {d : Option Nat} {anc : List Nat} {bar : Bool} {k k' : IntKind} {x : Opd} {a b : Int} (hx : x.eval tm = .int k' a) (hw : k.wrap a = b)
    (kk : Dp env n fuel ar asx plan r (i + 1) fr (putDst tm d (.int k b)) df h K Q) : Dp env n fuel ar asx plan (⟨d, .conv k x, none, anc, bar⟩ :: r) i fr tm df h K Q := by
  refine Dp.pure rfl ?_ kk
  simp only [IOp.run, hx, hw]

theorem plain_y1 {k D lb vb mb : Nat} {v : Value} {t : List Nat} {tl : List Value} (htl : tl.length = 98) (ht2 : tl.getD 2 undefV = .pointer (some ⟨vb, 0, none⟩)) (ht3 : tl.getD 3 undefV = .pointer (some ⟨mb, 0, none⟩)) (hk : 60 < k) (hT : t.length ≤ 1000) (hM : Nums m l) (V : ∀ h, Has ro h R → Vw 2 cc h m.cl l)
    (O : Has ro h (Ob lb (.loop (pLoop D tl)) :: Ob vb (.cells [v] 1 false) :: Sc 1 bc v t :: Ob mb (.cells (mc m) 1 false) :: R)) :
    (callV env (k + 1) (.func (.yield lb) #[] #[]) [.int .i64 1] h).Is fun q => q.1 = .bool true ∧ ∃ v', Has ro q.2 (Ob lb (.loop (pLoop D tl)) :: Ob vb (.cells [v'] 1 false) :: Sc 1 bc v' (t ++ fb m l 1) :: Ob mb (.cells (mc m) 1 false) :: R) := by
  obtain ⟨k, rfl⟩ : ∃ j, k = j + 1 := ⟨k - 1, by omega⟩
  obtain ⟨n1, n2, n3, n4, n5, n6⟩ := hM
  obtain ⟨p, c, hc, hlc⟩ := (V _ O.drop.drop.drop.drop).len
  rw [callV_yield]
  obtain ⟨lp, hlp⟩ : ∃ lp, lp = pLoop D tl := ⟨_, rfl⟩
  rw [← hlp] at O ⊢
  have l1 : lp.assign = pAsg := by rw [hlp]; rfl
  have l2 : lp.body = pBody := by rw [hlp]; rfl
  have l3 : lp.params = [17] := by rw [hlp]; rfl
  have l4 : lp.tmps = tl := by rw [hlp]; rfl
  obtain ⟨lq, hB⟩ : ∃ B : ILoop, B = { lp with state := .busy } := ⟨_, rfl⟩
  have l5 : ({ lq with state := .ready, pending := .normal } : ILoop) = lp := by rw [hB, hlp]; rfl
  have l6 : lp.state = .ready := by rw [hlp]; rfl
  clear hlp
  obtain ⟨g, hg_, htl⟩ := explode htl
  rw [hg_] at ht2 ht3
  clear hg_
  have ht2' : g 2 = .pointer (some ⟨vb, 0, none⟩) := ht2
  have ht3' : g 3 = .pointer (some ⟨mb, 0, none⟩) := ht3
  clear ht2 ht3
  simp only [expand_succ, expand_zero, Nat.reduceAdd, ht2', ht3'] at htl
  refine round_isO O (by rw [l3]; rfl) l6 ?_
  rw [← hB]
  clear hB
  simp (disch := first | assumption | omega | (simp only [wkD, oneCell, Option.isSome_some, *]; done) | (simp only [wkE, ne_eq]; omega)) only [l1, l3, l4, htl, pAsg, List.nil_append, wk0, wk1, wk2, wk3, wk4, wk5, X_region, X_seq, X_block, X_loop, X_cond, Y_box, Y_un, Y_store, Y_append, Y_makeMap, Y_buildSlice, ibin_shl, ibin_shr, ibin_and, List.set_cons_zero, List.set_cons_succ, List.getD_cons_zero, List.getD_cons_succ, List.map_cons, List.map_nil, ↓reduceIte, reduceCtorEq, oneCell, List.length_cons, List.length_nil, setAt, readN, bne_iff_ne, ne_eq, Nat.reduceAdd, Nat.reduceLeDiff, List.getElem?_cons_zero, List.getElem?_cons_succ, Nat.reduceMul, Option.isSome_some, layAt, Nat.reduceLT, Option.isNone_some, Option.isNone_none, beq_self_eq_true, Nat.reduceEqDiff, setParams, Int.reduceLT, Int.reduceLE, Int.reduceGT, Int.reduceGE, Int.reduceEq, Int.reduceNe, Option.map_some, Option.map_none, Option.isSome_none]
  refine Is_in ⟨rfl, _, O, fun h3 O3 => ?_⟩
  clear htl l4
  clear O
  have gV : readC (h3.get vb) 0 1 = some [v] := by rw [O3.get 1 rfl]; rfl
  obtain ⟨r0, r1, r2, r3, r4, r5, r6, r7, r8, r9⟩ := rdm (O3.get 3 rfl)
  rw [hc] at r8
  have wu := u64_of n1 (by omega)
  simp (disch := first | assumption | omega | (simp only [wkD, oneCell, Option.isSome_some, *]; done) | (simp only [wkE, ne_eq]; omega)) only [l2, pBody, gV, r1, r2, r3, wu, wk0, wk1, wk2, wk3, wk4, wk5, X_region, X_seq, X_block, X_loop, X_cond, Y_box, Y_un, Y_store, Y_append, Y_makeMap, Y_buildSlice, ibin_shl, ibin_shr, ibin_and, List.set_cons_zero, List.set_cons_succ, List.getD_cons_zero, List.getD_cons_succ, List.map_cons, List.map_nil, ↓reduceIte, reduceCtorEq, oneCell, List.length_cons, List.length_nil, setAt, readN, bne_iff_ne, ne_eq, Nat.reduceAdd, Nat.reduceLeDiff, List.getElem?_cons_zero, List.getElem?_cons_succ, Nat.reduceMul, Option.isSome_some, layAt, Nat.reduceLT, Option.isNone_some, Option.isNone_none, beq_self_eq_true, Nat.reduceEqDiff, setParams, Int.reduceLT, Int.reduceLE, Int.reduceGT, Int.reduceGE, Int.reduceEq, Int.reduceNe, Option.map_some, Option.map_none, Option.isSome_none]
  refine Z_is (put_h (n := k) (m := 2) (x := m.cell.toNat) (by omega) (by omega) (by omega) (O3.at 2 rfl)) ?_
  rintro w h4 O4
  replace O4 : Has ro h4 (Sc 1 bc w (t ++ be (m.cell.toNat) 2) :: _) := O4
  obtain ⟨w1, w2⟩ := scOne O4 0 rfl
  have g4 := O4.get 2 rfl
  have p4 := O4.can 2 rfl
  simp (disch := first | assumption | omega | (simp only [wkD, oneCell, Option.isSome_some, *]; done) | (simp only [wkE, ne_eq]; omega)) only [w1, w2, g4, p4, wk0, wk1, wk2, wk3, wk4, wk5, X_region, X_seq, X_block, X_loop, X_cond, Y_box, Y_un, Y_store, Y_append, Y_makeMap, Y_buildSlice, ibin_shl, ibin_shr, ibin_and, List.set_cons_zero, List.set_cons_succ, List.getD_cons_zero, List.getD_cons_succ, List.map_cons, List.map_nil, ↓reduceIte, reduceCtorEq, List.length_cons, List.length_nil, setAt, readN, bne_iff_ne, ne_eq, Nat.reduceAdd, Nat.reduceLeDiff, List.getElem?_cons_zero, List.getElem?_cons_succ, Nat.reduceMul, Option.isSome_some, layAt, Nat.reduceLT, Option.isNone_some, Option.isNone_none, beq_self_eq_true, Nat.reduceEqDiff, setParams, Int.reduceLT, Int.reduceLE, Int.reduceGT, Int.reduceGE, Int.reduceEq, Int.reduceNe, Option.map_some, Option.map_none, Option.isSome_none]
  have O5 := O4.set 2 rfl (.cells [w] 1 false)
  refine Is_in ⟨_, _, O5.at 1 rfl, fun h5 O6 => ⟨rfl, w, ?_⟩⟩
  replace O6 : Has ro h5 (Ob lb (.loop { lq with state := .ready, pending := .normal }) :: _) := O6
  rw [l5] at O6
  exact (O6.at 2 rfl).at 1 rfl
theorem plain_y2 {k D lb vb mb : Nat} {v : Value} {t : List Nat} {tl : List Value} (htl : tl.length = 98) (ht2 : tl.getD 2 undefV = .pointer (some ⟨vb, 0, none⟩)) (ht3 : tl.getD 3 undefV = .pointer (some ⟨mb, 0, none⟩)) (hk : 60 < k) (hT : t.length ≤ 1000) (hM : Nums m l) (V : ∀ h, Has ro h R → Vw 2 cc h m.cl l)
    (O : Has ro h (Ob lb (.loop (pLoop D tl)) :: Ob vb (.cells [v] 1 false) :: Sc 1 bc v t :: Ob mb (.cells (mc m) 1 false) :: R)) :
    (callV env (k + 1) (.func (.yield lb) #[] #[]) [.int .i64 2] h).Is fun q => q.1 = .bool true ∧ ∃ v', Has ro q.2 (Ob lb (.loop (pLoop D tl)) :: Ob vb (.cells [v'] 1 false) :: Sc 1 bc v' (t ++ fb m l 2) :: Ob mb (.cells (mc m) 1 false) :: R) := by
  obtain ⟨k, rfl⟩ : ∃ j, k = j + 1 := ⟨k - 1, by omega⟩
  obtain ⟨n1, n2, n3, n4, n5, n6⟩ := hM
  obtain ⟨p, c, hc, hlc⟩ := (V _ O.drop.drop.drop.drop).len
  rw [callV_yield]
  obtain ⟨lp, hlp⟩ : ∃ lp, lp = pLoop D tl := ⟨_, rfl⟩
  rw [← hlp] at O ⊢
  have l1 : lp.assign = pAsg := by rw [hlp]; rfl
  have l2 : lp.body = pBody := by rw [hlp]; rfl
  have l3 : lp.params = [17] := by rw [hlp]; rfl
  have l4 : lp.tmps = tl := by rw [hlp]; rfl
  obtain ⟨lq, hB⟩ : ∃ B : ILoop, B = { lp with state := .busy } := ⟨_, rfl⟩
  have l5 : ({ lq with state := .ready, pending := .normal } : ILoop) = lp := by rw [hB, hlp]; rfl
  have l6 : lp.state = .ready := by rw [hlp]; rfl
  clear hlp
  obtain ⟨g, hg_, htl⟩ := explode htl
  rw [hg_] at ht2 ht3
  clear hg_
  have ht2' : g 2 = .pointer (some ⟨vb, 0, none⟩) := ht2
  have ht3' : g 3 = .pointer (some ⟨mb, 0, none⟩) := ht3
  clear ht2 ht3
  simp only [expand_succ, expand_zero, Nat.reduceAdd, ht2', ht3'] at htl
  refine round_isO O (by rw [l3]; rfl) l6 ?_
  rw [← hB]
  clear hB
  simp (disch := first | assumption | omega | (simp only [wkD, oneCell, Option.isSome_some, *]; done) | (simp only [wkE, ne_eq]; omega)) only [l1, l3, l4, htl, pAsg, List.nil_append, wk0, wk1, wk2, wk3, wk4, wk5, X_region, X_seq, X_block, X_loop, X_cond, Y_box, Y_un, Y_store, Y_append, Y_makeMap, Y_buildSlice, ibin_shl, ibin_shr, ibin_and, List.set_cons_zero, List.set_cons_succ, List.getD_cons_zero, List.getD_cons_succ, List.map_cons, List.map_nil, ↓reduceIte, reduceCtorEq, oneCell, List.length_cons, List.length_nil, setAt, readN, bne_iff_ne, ne_eq, Nat.reduceAdd, Nat.reduceLeDiff, List.getElem?_cons_zero, List.getElem?_cons_succ, Nat.reduceMul, Option.isSome_some, layAt, Nat.reduceLT, Option.isNone_some, Option.isNone_none, beq_self_eq_true, Nat.reduceEqDiff, setParams, Int.reduceLT, Int.reduceLE, Int.reduceGT, Int.reduceGE, Int.reduceEq, Int.reduceNe, Option.map_some, Option.map_none, Option.isSome_none]
  refine Is_in ⟨rfl, _, O, fun h3 O3 => ?_⟩
  clear htl l4
  clear O
  have gV : readC (h3.get vb) 0 1 = some [v] := by rw [O3.get 1 rfl]; rfl
  obtain ⟨r0, r1, r2, r3, r4, r5, r6, r7, r8, r9⟩ := rdm (O3.get 3 rfl)
  rw [hc] at r8
  have wu : IntKind.u64.wrap (m.gen : Int) = (m.gen : Int) := by rw [u64_of (by omega) (by omega), Int.toNat_natCast]
  simp (disch := first | assumption | omega | (simp only [wkD, oneCell, Option.isSome_some, *]; done) | (simp only [wkE, ne_eq]; omega)) only [l2, pBody, gV, r1, r2, r3, wu, wk0, wk1, wk2, wk3, wk4, wk5, X_region, X_seq, X_block, X_loop, X_cond, Y_box, Y_un, Y_store, Y_append, Y_makeMap, Y_buildSlice, ibin_shl, ibin_shr, ibin_and, List.set_cons_zero, List.set_cons_succ, List.getD_cons_zero, List.getD_cons_succ, List.map_cons, List.map_nil, ↓reduceIte, reduceCtorEq, oneCell, List.length_cons, List.length_nil, setAt, readN, bne_iff_ne, ne_eq, Nat.reduceAdd, Nat.reduceLeDiff, List.getElem?_cons_zero, List.getElem?_cons_succ, Nat.reduceMul, Option.isSome_some, layAt, Nat.reduceLT, Option.isNone_some, Option.isNone_none, beq_self_eq_true, Nat.reduceEqDiff, setParams, Int.reduceLT, Int.reduceLE, Int.reduceGT, Int.reduceGE, Int.reduceEq, Int.reduceNe, Option.map_some, Option.map_none, Option.isSome_none]
  refine Z_is (put_h (n := k) (m := 4) (x := m.gen) (by omega) (by omega) (by omega) (O3.at 2 rfl)) ?_
  rintro w h4 O4
  replace O4 : Has ro h4 (Sc 1 bc w (t ++ be (m.gen) 4) :: _) := O4
  obtain ⟨w1, w2⟩ := scOne O4 0 rfl
  have g4 := O4.get 2 rfl
  have p4 := O4.can 2 rfl
  simp (disch := first | assumption | omega | (simp only [wkD, oneCell, Option.isSome_some, *]; done) | (simp only [wkE, ne_eq]; omega)) only [w1, w2, g4, p4, wk0, wk1, wk2, wk3, wk4, wk5, X_region, X_seq, X_block, X_loop, X_cond, Y_box, Y_un, Y_store, Y_append, Y_makeMap, Y_buildSlice, ibin_shl, ibin_shr, ibin_and, List.set_cons_zero, List.set_cons_succ, List.getD_cons_zero, List.getD_cons_succ, List.map_cons, List.map_nil, ↓reduceIte, reduceCtorEq, List.length_cons, List.length_nil, setAt, readN, bne_iff_ne, ne_eq, Nat.reduceAdd, Nat.reduceLeDiff, List.getElem?_cons_zero, List.getElem?_cons_succ, Nat.reduceMul, Option.isSome_some, layAt, Nat.reduceLT, Option.isNone_some, Option.isNone_none, beq_self_eq_true, Nat.reduceEqDiff, setParams, Int.reduceLT, Int.reduceLE, Int.reduceGT, Int.reduceGE, Int.reduceEq, Int.reduceNe, Option.map_some, Option.map_none, Option.isSome_none]
  have O5 := O4.set 2 rfl (.cells [w] 1 false)
  refine Is_in ⟨_, _, O5.at 1 rfl, fun h5 O6 => ⟨rfl, w, ?_⟩⟩
  replace O6 : Has ro h5 (Ob lb (.loop { lq with state := .ready, pending := .normal }) :: _) := O6
  rw [l5] at O6
  exact (O6.at 2 rfl).at 1 rfl
theorem plain_y3 {k D lb vb mb : Nat} {v : Value} {t : List Nat} {tl : List Value} (htl : tl.length = 98) (ht2 : tl.getD 2 undefV = .pointer (some ⟨vb, 0, none⟩)) (ht3 : tl.getD 3 undefV = .pointer (some ⟨mb, 0, none⟩)) (hk : 60 < k) (hT : t.length ≤ 1000) (hM : Nums m l) (V : ∀ h, Has ro h R → Vw 2 cc h m.cl l)
    (O : Has ro h (Ob lb (.loop (pLoop D tl)) :: Ob vb (.cells [v] 1 false) :: Sc 1 bc v t :: Ob mb (.cells (mc m) 1 false) :: R)) :
    (callV env (k + 1) (.func (.yield lb) #[] #[]) [.int .i64 3] h).Is fun q => q.1 = .bool true ∧ ∃ v', Has ro q.2 (Ob lb (.loop (pLoop D tl)) :: Ob vb (.cells [v'] 1 false) :: Sc 1 bc v' (t ++ fb m l 3) :: Ob mb (.cells (mc m) 1 false) :: R) := by
  obtain ⟨k, rfl⟩ : ∃ j, k = j + 1 := ⟨k - 1, by omega⟩
  obtain ⟨n1, n2, n3, n4, n5, n6⟩ := hM
  obtain ⟨p, c, hc, hlc⟩ := (V _ O.drop.drop.drop.drop).len
  rw [callV_yield]
  obtain ⟨lp, hlp⟩ : ∃ lp, lp = pLoop D tl := ⟨_, rfl⟩
  rw [← hlp] at O ⊢
  have l1 : lp.assign = pAsg := by rw [hlp]; rfl
  have l2 : lp.body = pBody := by rw [hlp]; rfl
  have l3 : lp.params = [17] := by rw [hlp]; rfl
  have l4 : lp.tmps = tl := by rw [hlp]; rfl
  obtain ⟨lq, hB⟩ : ∃ B : ILoop, B = { lp with state := .busy } := ⟨_, rfl⟩
  have l5 : ({ lq with state := .ready, pending := .normal } : ILoop) = lp := by rw [hB, hlp]; rfl
  have l6 : lp.state = .ready := by rw [hlp]; rfl
  clear hlp
  obtain ⟨g, hg_, htl⟩ := explode htl
  rw [hg_] at ht2 ht3
  clear hg_
  have ht2' : g 2 = .pointer (some ⟨vb, 0, none⟩) := ht2
  have ht3' : g 3 = .pointer (some ⟨mb, 0, none⟩) := ht3
  clear ht2 ht3
  simp only [expand_succ, expand_zero, Nat.reduceAdd, ht2', ht3'] at htl
  refine round_isO O (by rw [l3]; rfl) l6 ?_
  rw [← hB]
  clear hB
  simp (disch := first | assumption | omega | (simp only [wkD, oneCell, Option.isSome_some, *]; done) | (simp only [wkE, ne_eq]; omega)) only [l1, l3, l4, htl, pAsg, List.nil_append, wk0, wk1, wk2, wk3, wk4, wk5, X_region, X_seq, X_block, X_loop, X_cond, Y_box, Y_un, Y_store, Y_append, Y_makeMap, Y_buildSlice, ibin_shl, ibin_shr, ibin_and, List.set_cons_zero, List.set_cons_succ, List.getD_cons_zero, List.getD_cons_succ, List.map_cons, List.map_nil, ↓reduceIte, reduceCtorEq, oneCell, List.length_cons, List.length_nil, setAt, readN, bne_iff_ne, ne_eq, Nat.reduceAdd, Nat.reduceLeDiff, List.getElem?_cons_zero, List.getElem?_cons_succ, Nat.reduceMul, Option.isSome_some, layAt, Nat.reduceLT, Option.isNone_some, Option.isNone_none, beq_self_eq_true, Nat.reduceEqDiff, setParams, Int.reduceLT, Int.reduceLE, Int.reduceGT, Int.reduceGE, Int.reduceEq, Int.reduceNe, Option.map_some, Option.map_none, Option.isSome_none]
  refine Is_in ⟨rfl, _, O, fun h3 O3 => ?_⟩
  clear htl l4
  clear O
  have gV : readC (h3.get vb) 0 1 = some [v] := by rw [O3.get 1 rfl]; rfl
  obtain ⟨r0, r1, r2, r3, r4, r5, r6, r7, r8, r9⟩ := rdm (O3.get 3 rfl)
  rw [hc] at r8
  have wu := trivial
  simp (disch := first | assumption | omega | (simp only [wkD, oneCell, Option.isSome_some, *]; done) | (simp only [wkE, ne_eq]; omega)) only [l2, pBody, gV, r1, r2, r3, wu, wk0, wk1, wk2, wk3, wk4, wk5, X_region, X_seq, X_block, X_loop, X_cond, Y_box, Y_un, Y_store, Y_append, Y_makeMap, Y_buildSlice, ibin_shl, ibin_shr, ibin_and, List.set_cons_zero, List.set_cons_succ, List.getD_cons_zero, List.getD_cons_succ, List.map_cons, List.map_nil, ↓reduceIte, reduceCtorEq, oneCell, List.length_cons, List.length_nil, setAt, readN, bne_iff_ne, ne_eq, Nat.reduceAdd, Nat.reduceLeDiff, List.getElem?_cons_zero, List.getElem?_cons_succ, Nat.reduceMul, Option.isSome_some, layAt, Nat.reduceLT, Option.isNone_some, Option.isNone_none, beq_self_eq_true, Nat.reduceEqDiff, setParams, Int.reduceLT, Int.reduceLE, Int.reduceGT, Int.reduceGE, Int.reduceEq, Int.reduceNe, Option.map_some, Option.map_none, Option.isSome_none]
  refine Z_is (put_h (n := k) (m := 8) (x := m.stamp) (by omega) (by omega) (by omega) (O3.at 2 rfl)) ?_
  rintro w h4 O4
  replace O4 : Has ro h4 (Sc 1 bc w (t ++ be (m.stamp) 8) :: _) := O4
  obtain ⟨w1, w2⟩ := scOne O4 0 rfl
  have g4 := O4.get 2 rfl
  have p4 := O4.can 2 rfl
  simp (disch := first | assumption | omega | (simp only [wkD, oneCell, Option.isSome_some, *]; done) | (simp only [wkE, ne_eq]; omega)) only [w1, w2, g4, p4, wk0, wk1, wk2, wk3, wk4, wk5, X_region, X_seq, X_block, X_loop, X_cond, Y_box, Y_un, Y_store, Y_append, Y_makeMap, Y_buildSlice, ibin_shl, ibin_shr, ibin_and, List.set_cons_zero, List.set_cons_succ, List.getD_cons_zero, List.getD_cons_succ, List.map_cons, List.map_nil, ↓reduceIte, reduceCtorEq, List.length_cons, List.length_nil, setAt, readN, bne_iff_ne, ne_eq, Nat.reduceAdd, Nat.reduceLeDiff, List.getElem?_cons_zero, List.getElem?_cons_succ, Nat.reduceMul, Option.isSome_some, layAt, Nat.reduceLT, Option.isNone_some, Option.isNone_none, beq_self_eq_true, Nat.reduceEqDiff, setParams, Int.reduceLT, Int.reduceLE, Int.reduceGT, Int.reduceGE, Int.reduceEq, Int.reduceNe, Option.map_some, Option.map_none, Option.isSome_none]
  have O5 := O4.set 2 rfl (.cells [w] 1 false)
  refine Is_in ⟨_, _, O5.at 1 rfl, fun h5 O6 => ⟨rfl, w, ?_⟩⟩
  replace O6 : Has ro h5 (Ob lb (.loop { lq with state := .ready, pending := .normal }) :: _) := O6
  rw [l5] at O6
  exact (O6.at 2 rfl).at 1 rfl
theorem plain_y4 {k D lb vb mb : Nat} {v : Value} {t : List Nat} {tl : List Value} (htl : tl.length = 98) (ht2 : tl.getD 2 undefV = .pointer (some ⟨vb, 0, none⟩)) (ht3 : tl.getD 3 undefV = .pointer (some ⟨mb, 0, none⟩)) (hk : 60 < k) (hT : t.length ≤ 1000) (hM : Nums m l) (V : ∀ h, Has ro h R → Vw 2 cc h m.cl l)
    (O : Has ro h (Ob lb (.loop (pLoop D tl)) :: Ob vb (.cells [v] 1 false) :: Sc 1 bc v t :: Ob mb (.cells (mc m) 1 false) :: R)) :
    (callV env (k + 1) (.func (.yield lb) #[] #[]) [.int .i64 4] h).Is fun q => q.1 = .bool true ∧ ∃ v', Has ro q.2 (Ob lb (.loop (pLoop D tl)) :: Ob vb (.cells [v'] 1 false) :: Sc 1 bc v' (t ++ fb m l 4) :: Ob mb (.cells (mc m) 1 false) :: R) := by
  obtain ⟨k, rfl⟩ : ∃ j, k = j + 1 := ⟨k - 1, by omega⟩
  obtain ⟨n1, n2, n3, n4, n5, n6⟩ := hM
  obtain ⟨p, c, hc, hlc⟩ := (V _ O.drop.drop.drop.drop).len
  rw [callV_yield]
  obtain ⟨lp, hlp⟩ : ∃ lp, lp = pLoop D tl := ⟨_, rfl⟩
  rw [← hlp] at O ⊢
  have l1 : lp.assign = pAsg := by rw [hlp]; rfl
  have l2 : lp.body = pBody := by rw [hlp]; rfl
  have l3 : lp.params = [17] := by rw [hlp]; rfl
  have l4 : lp.tmps = tl := by rw [hlp]; rfl
  obtain ⟨lq, hB⟩ : ∃ B : ILoop, B = { lp with state := .busy } := ⟨_, rfl⟩
  have l5 : ({ lq with state := .ready, pending := .normal } : ILoop) = lp := by rw [hB, hlp]; rfl
  have l6 : lp.state = .ready := by rw [hlp]; rfl
  clear hlp
  obtain ⟨g, hg_, htl⟩ := explode htl
  rw [hg_] at ht2 ht3
  clear hg_
  have ht2' : g 2 = .pointer (some ⟨vb, 0, none⟩) := ht2
  have ht3' : g 3 = .pointer (some ⟨mb, 0, none⟩) := ht3
  clear ht2 ht3
  simp only [expand_succ, expand_zero, Nat.reduceAdd, ht2', ht3'] at htl
  refine round_isO O (by rw [l3]; rfl) l6 ?_
  rw [← hB]
  clear hB
  simp (disch := first | assumption | omega | (simp only [wkD, oneCell, Option.isSome_some, *]; done) | (simp only [wkE, ne_eq]; omega)) only [l1, l3, l4, htl, pAsg, List.nil_append, wk0, wk1, wk2, wk3, wk4, wk5, X_region, X_seq, X_block, X_loop, X_cond, Y_box, Y_un, Y_store, Y_append, Y_makeMap, Y_buildSlice, ibin_shl, ibin_shr, ibin_and, List.set_cons_zero, List.set_cons_succ, List.getD_cons_zero, List.getD_cons_succ, List.map_cons, List.map_nil, ↓reduceIte, reduceCtorEq, oneCell, List.length_cons, List.length_nil, setAt, readN, bne_iff_ne, ne_eq, Nat.reduceAdd, Nat.reduceLeDiff, List.getElem?_cons_zero, List.getElem?_cons_succ, Nat.reduceMul, Option.isSome_some, layAt, Nat.reduceLT, Option.isNone_some, Option.isNone_none, beq_self_eq_true, Nat.reduceEqDiff, setParams, Int.reduceLT, Int.reduceLE, Int.reduceGT, Int.reduceGE, Int.reduceEq, Int.reduceNe, Option.map_some, Option.map_none, Option.isSome_none]
  refine Is_in ⟨rfl, _, O, fun h3 O3 => ?_⟩
  clear htl l4
  clear O
  have gV : readC (h3.get vb) 0 1 = some [v] := by rw [O3.get 1 rfl]; rfl
  obtain ⟨r0, r1, r2, r3, r4, r5, r6, r7, r8, r9⟩ := rdm (O3.get 3 rfl)
  rw [hc] at r8
  have wu := u8_ub m.prio
  simp (disch := first | assumption | omega | (simp only [wkD, oneCell, Option.isSome_some, *]; done) | (simp only [wkE, ne_eq]; omega)) only [l2, pBody, gV, r4, r5, r6, r7, wu, wk0, wk1, wk2, wk3, wk4, wk5, X_region, X_seq, X_block, X_loop, X_cond, Y_box, Y_un, Y_store, Y_append, Y_makeMap, ibin_shl, ibin_shr, ibin_and, List.set_cons_zero, List.set_cons_succ, List.getD_cons_zero, List.getD_cons_succ, List.map_cons, List.map_nil, ↓reduceIte, reduceCtorEq, oneCell, List.length_cons, List.length_nil, setAt, readN, bne_iff_ne, ne_eq, Nat.reduceAdd, Nat.reduceLeDiff, List.getElem?_cons_zero, List.getElem?_cons_succ, Nat.reduceMul, Option.isSome_some, layAt, Nat.reduceLT, Option.isNone_some, Option.isNone_none, beq_self_eq_true, Nat.reduceEqDiff, setParams, Int.reduceLT, Int.reduceLE, Int.reduceGT, Int.reduceGE, Int.reduceEq, Int.reduceNe, Option.map_some, Option.map_none, Option.isSome_none]
  refine Y_buildSliceO O3 (cs := bc (ub m.prio)) rfl ?_
  intro b4 h4 O4 e4
  have V4 : Vw 1 bc h4 (.slice (some ⟨b4, 0, none⟩) 1 1) [ub m.prio] := O4.one 0 rfl
  obtain ⟨w, h5, ap, O5⟩ := sc_appendV (bytes := 1) (by omega) bc_len bc_one (O4.at 3 rfl) V4 (by simp only [List.length_cons, List.length_nil]; unfold roomMost; omega) (by omega)
  replace O5 : Has ro h5 (Sc 1 bc w (t ++ [ub m.prio]) :: Ob b4 (.cells (bc (ub m.prio)) 1 false) :: Ob lb (.loop lq) :: Ob vb (.cells [v] 1 false) :: Ob mb (.cells (mc m) 1 false) :: R) := O5
  obtain ⟨w1, w2⟩ := scOne O5 0 rfl
  have g5 := O5.get 3 rfl
  have p5 := O5.can 3 rfl
  simp (disch := first | assumption | omega | (simp only [wkD, oneCell, Option.isSome_some, *]; done) | (simp only [wkE, ne_eq]; omega)) only [ap, w1, w2, g5, p5, wk0, wk1, wk2, wk3, wk4, wk5, X_region, X_seq, X_block, X_loop, X_cond, Y_box, Y_un, Y_store, Y_append, Y_makeMap, Y_buildSlice, ibin_shl, ibin_shr, ibin_and, List.set_cons_zero, List.set_cons_succ, List.getD_cons_zero, List.getD_cons_succ, List.map_cons, List.map_nil, ↓reduceIte, reduceCtorEq, List.length_cons, List.length_nil, setAt, readN, bne_iff_ne, ne_eq, Nat.reduceAdd, Nat.reduceLeDiff, List.getElem?_cons_zero, List.getElem?_cons_succ, Nat.reduceMul, Option.isSome_some, layAt, Nat.reduceLT, Option.isNone_some, Option.isNone_none, beq_self_eq_true, Nat.reduceEqDiff, setParams, Int.reduceLT, Int.reduceLE, Int.reduceGT, Int.reduceGE, Int.reduceEq, Int.reduceNe, Option.map_some, Option.map_none, Option.isSome_none]
  have O6 := (O5.set 3 rfl (.cells [w] 1 false)).rid 1 rfl
  refine Is_in ⟨_, _, O6.at 1 rfl, fun h6 O7 => ⟨rfl, w, ?_⟩⟩
  replace O7 : Has ro h6 (Ob lb (.loop { lq with state := .ready, pending := .normal }) :: _) := O7
  rw [l5] at O7
  exact (O7.at 2 rfl).at 1 rfl
theorem plain_y5 {k D lb vb mb : Nat} {v : Value} {t : List Nat} {tl : List Value} (htl : tl.length = 98) (ht2 : tl.getD 2 undefV = .pointer (some ⟨vb, 0, none⟩)) (ht3 : tl.getD 3 undefV = .pointer (some ⟨mb, 0, none⟩)) (hk : 60 < k) (hT : t.length ≤ 1000) (hM : Nums m l) (V : ∀ h, Has ro h R → Vw 2 cc h m.cl l)
    (O : Has ro h (Ob lb (.loop (pLoop D tl)) :: Ob vb (.cells [v] 1 false) :: Sc 1 bc v t :: Ob mb (.cells (mc m) 1 false) :: R)) :
    (callV env (k + 1) (.func (.yield lb) #[] #[]) [.int .i64 5] h).Is fun q => q.1 = .bool true ∧ ∃ v', Has ro q.2 (Ob lb (.loop (pLoop D tl)) :: Ob vb (.cells [v'] 1 false) :: Sc 1 bc v' (t ++ fb m l 5) :: Ob mb (.cells (mc m) 1 false) :: R) := by
  obtain ⟨k, rfl⟩ : ∃ j, k = j + 1 := ⟨k - 1, by omega⟩
  obtain ⟨n1, n2, n3, n4, n5, n6⟩ := hM
  obtain ⟨p, c, hc, hlc⟩ := (V _ O.drop.drop.drop.drop).len
  rw [callV_yield]
  obtain ⟨lp, hlp⟩ : ∃ lp, lp = pLoop D tl := ⟨_, rfl⟩
  rw [← hlp] at O ⊢
  have l1 : lp.assign = pAsg := by rw [hlp]; rfl
  have l2 : lp.body = pBody := by rw [hlp]; rfl
  have l3 : lp.params = [17] := by rw [hlp]; rfl
  have l4 : lp.tmps = tl := by rw [hlp]; rfl
  obtain ⟨lq, hB⟩ : ∃ B : ILoop, B = { lp with state := .busy } := ⟨_, rfl⟩
  have l5 : ({ lq with state := .ready, pending := .normal } : ILoop) = lp := by rw [hB, hlp]; rfl
  have l6 : lp.state = .ready := by rw [hlp]; rfl
  clear hlp
  obtain ⟨g, hg_, htl⟩ := explode htl
  rw [hg_] at ht2 ht3
  clear hg_
  have ht2' : g 2 = .pointer (some ⟨vb, 0, none⟩) := ht2
  have ht3' : g 3 = .pointer (some ⟨mb, 0, none⟩) := ht3
  clear ht2 ht3
  simp only [expand_succ, expand_zero, Nat.reduceAdd, ht2', ht3'] at htl
  refine round_isO O (by rw [l3]; rfl) l6 ?_
  rw [← hB]
  clear hB
  simp (disch := first | assumption | omega | (simp only [wkD, oneCell, Option.isSome_some, *]; done) | (simp only [wkE, ne_eq]; omega)) only [l1, l3, l4, htl, pAsg, List.nil_append, wk0, wk1, wk2, wk3, wk4, wk5, X_region, X_seq, X_block, X_loop, X_cond, Y_box, Y_un, Y_store, Y_append, Y_makeMap, Y_buildSlice, ibin_shl, ibin_shr, ibin_and, List.set_cons_zero, List.set_cons_succ, List.getD_cons_zero, List.getD_cons_succ, List.map_cons, List.map_nil, ↓reduceIte, reduceCtorEq, oneCell, List.length_cons, List.length_nil, setAt, readN, bne_iff_ne, ne_eq, Nat.reduceAdd, Nat.reduceLeDiff, List.getElem?_cons_zero, List.getElem?_cons_succ, Nat.reduceMul, Option.isSome_some, layAt, Nat.reduceLT, Option.isNone_some, Option.isNone_none, beq_self_eq_true, Nat.reduceEqDiff, setParams, Int.reduceLT, Int.reduceLE, Int.reduceGT, Int.reduceGE, Int.reduceEq, Int.reduceNe, Option.map_some, Option.map_none, Option.isSome_none]
  refine Is_in ⟨rfl, _, O, fun h3 O3 => ?_⟩
  clear htl l4
  clear O
  have gV : readC (h3.get vb) 0 1 = some [v] := by rw [O3.get 1 rfl]; rfl
  obtain ⟨r0, r1, r2, r3, r4, r5, r6, r7, r8, r9⟩ := rdm (O3.get 3 rfl)
  rw [hc] at r8
  have wu := u8_ub m.hops
  simp (disch := first | assumption | omega | (simp only [wkD, oneCell, Option.isSome_some, *]; done) | (simp only [wkE, ne_eq]; omega)) only [l2, pBody, gV, r4, r5, r6, r7, wu, wk0, wk1, wk2, wk3, wk4, wk5, X_region, X_seq, X_block, X_loop, X_cond, Y_box, Y_un, Y_store, Y_append, Y_makeMap, ibin_shl, ibin_shr, ibin_and, List.set_cons_zero, List.set_cons_succ, List.getD_cons_zero, List.getD_cons_succ, List.map_cons, List.map_nil, ↓reduceIte, reduceCtorEq, oneCell, List.length_cons, List.length_nil, setAt, readN, bne_iff_ne, ne_eq, Nat.reduceAdd, Nat.reduceLeDiff, List.getElem?_cons_zero, List.getElem?_cons_succ, Nat.reduceMul, Option.isSome_some, layAt, Nat.reduceLT, Option.isNone_some, Option.isNone_none, beq_self_eq_true, Nat.reduceEqDiff, setParams, Int.reduceLT, Int.reduceLE, Int.reduceGT, Int.reduceGE, Int.reduceEq, Int.reduceNe, Option.map_some, Option.map_none, Option.isSome_none]
  refine Y_buildSliceO O3 (cs := bc (ub m.hops)) rfl ?_
  intro b4 h4 O4 e4
  have V4 : Vw 1 bc h4 (.slice (some ⟨b4, 0, none⟩) 1 1) [ub m.hops] := O4.one 0 rfl
  obtain ⟨w, h5, ap, O5⟩ := sc_appendV (bytes := 1) (by omega) bc_len bc_one (O4.at 3 rfl) V4 (by simp only [List.length_cons, List.length_nil]; unfold roomMost; omega) (by omega)
  replace O5 : Has ro h5 (Sc 1 bc w (t ++ [ub m.hops]) :: Ob b4 (.cells (bc (ub m.hops)) 1 false) :: Ob lb (.loop lq) :: Ob vb (.cells [v] 1 false) :: Ob mb (.cells (mc m) 1 false) :: R) := O5
  obtain ⟨w1, w2⟩ := scOne O5 0 rfl
  have g5 := O5.get 3 rfl
  have p5 := O5.can 3 rfl
  simp (disch := first | assumption | omega | (simp only [wkD, oneCell, Option.isSome_some, *]; done) | (simp only [wkE, ne_eq]; omega)) only [ap, w1, w2, g5, p5, wk0, wk1, wk2, wk3, wk4, wk5, X_region, X_seq, X_block, X_loop, X_cond, Y_box, Y_un, Y_store, Y_append, Y_makeMap, Y_buildSlice, ibin_shl, ibin_shr, ibin_and, List.set_cons_zero, List.set_cons_succ, List.getD_cons_zero, List.getD_cons_succ, List.map_cons, List.map_nil, ↓reduceIte, reduceCtorEq, List.length_cons, List.length_nil, setAt, readN, bne_iff_ne, ne_eq, Nat.reduceAdd, Nat.reduceLeDiff, List.getElem?_cons_zero, List.getElem?_cons_succ, Nat.reduceMul, Option.isSome_some, layAt, Nat.reduceLT, Option.isNone_some, Option.isNone_none, beq_self_eq_true, Nat.reduceEqDiff, setParams, Int.reduceLT, Int.reduceLE, Int.reduceGT, Int.reduceGE, Int.reduceEq, Int.reduceNe, Option.map_some, Option.map_none, Option.isSome_none]
  have O6 := (O5.set 3 rfl (.cells [w] 1 false)).rid 1 rfl
  refine Is_in ⟨_, _, O6.at 1 rfl, fun h6 O7 => ⟨rfl, w, ?_⟩⟩
  replace O7 : Has ro h6 (Ob lb (.loop { lq with state := .ready, pending := .normal }) :: _) := O7
  rw [l5] at O7
  exact (O7.at 2 rfl).at 1 rfl
theorem plain_y6 {k D lb vb mb : Nat} {v : Value} {t : List Nat} {tl : List Value} (htl : tl.length = 98) (ht2 : tl.getD 2 undefV = .pointer (some ⟨vb, 0, none⟩)) (ht3 : tl.getD 3 undefV = .pointer (some ⟨mb, 0, none⟩)) (hk : 60 < k) (hT : t.length ≤ 1000) (hM : Nums m l) (V : ∀ h, Has ro h R → Vw 2 cc h m.cl l)
    (O : Has ro h (Ob lb (.loop (pLoop D tl)) :: Ob vb (.cells [v] 1 false) :: Sc 1 bc v t :: Ob mb (.cells (mc m) 1 false) :: R)) :
    (callV env (k + 1) (.func (.yield lb) #[] #[]) [.int .i64 6] h).Is fun q => q.1 = .bool true ∧ ∃ v', Has ro q.2 (Ob lb (.loop (pLoop D tl)) :: Ob vb (.cells [v'] 1 false) :: Sc 1 bc v' (t ++ fb m l 6) :: Ob mb (.cells (mc m) 1 false) :: R) := by
  obtain ⟨k, rfl⟩ : ∃ j, k = j + 1 := ⟨k - 1, by omega⟩
  obtain ⟨n1, n2, n3, n4, n5, n6⟩ := hM
  obtain ⟨p, c, hc, hlc⟩ := (V _ O.drop.drop.drop.drop).len
  rw [callV_yield]
  obtain ⟨lp, hlp⟩ : ∃ lp, lp = pLoop D tl := ⟨_, rfl⟩
  rw [← hlp] at O ⊢
  have l1 : lp.assign = pAsg := by rw [hlp]; rfl
  have l2 : lp.body = pBody := by rw [hlp]; rfl
  have l3 : lp.params = [17] := by rw [hlp]; rfl
  have l4 : lp.tmps = tl := by rw [hlp]; rfl
  obtain ⟨lq, hB⟩ : ∃ B : ILoop, B = { lp with state := .busy } := ⟨_, rfl⟩
  have l5 : ({ lq with state := .ready, pending := .normal } : ILoop) = lp := by rw [hB, hlp]; rfl
  have l6 : lp.state = .ready := by rw [hlp]; rfl
  clear hlp
  obtain ⟨g, hg_, htl⟩ := explode htl
  rw [hg_] at ht2 ht3
  clear hg_
  have ht2' : g 2 = .pointer (some ⟨vb, 0, none⟩) := ht2
  have ht3' : g 3 = .pointer (some ⟨mb, 0, none⟩) := ht3
  clear ht2 ht3
  simp only [expand_succ, expand_zero, Nat.reduceAdd, ht2', ht3'] at htl
  refine round_isO O (by rw [l3]; rfl) l6 ?_
  rw [← hB]
  clear hB
  simp (disch := first | assumption | omega | (simp only [wkD, oneCell, Option.isSome_some, *]; done) | (simp only [wkE, ne_eq]; omega)) only [l1, l3, l4, htl, pAsg, List.nil_append, wk0, wk1, wk2, wk3, wk4, wk5, X_region, X_seq, X_block, X_loop, X_cond, Y_box, Y_un, Y_store, Y_append, Y_makeMap, Y_buildSlice, ibin_shl, ibin_shr, ibin_and, List.set_cons_zero, List.set_cons_succ, List.getD_cons_zero, List.getD_cons_succ, List.map_cons, List.map_nil, ↓reduceIte, reduceCtorEq, oneCell, List.length_cons, List.length_nil, setAt, readN, bne_iff_ne, ne_eq, Nat.reduceAdd, Nat.reduceLeDiff, List.getElem?_cons_zero, List.getElem?_cons_succ, Nat.reduceMul, Option.isSome_some, layAt, Nat.reduceLT, Option.isNone_some, Option.isNone_none, beq_self_eq_true, Nat.reduceEqDiff, setParams, Int.reduceLT, Int.reduceLE, Int.reduceGT, Int.reduceGE, Int.reduceEq, Int.reduceNe, Option.map_some, Option.map_none, Option.isSome_none]
  refine Is_in ⟨rfl, _, O, fun h3 O3 => ?_⟩
  clear htl l4
  clear O
  have gV : readC (h3.get vb) 0 1 = some [v] := by rw [O3.get 1 rfl]; rfl
  obtain ⟨r0, r1, r2, r3, r4, r5, r6, r7, r8, r9⟩ := rdm (O3.get 3 rfl)
  rw [hc] at r8
  have wu := u8_ub m.orig
  simp (disch := first | assumption | omega | (simp only [wkD, oneCell, Option.isSome_some, *]; done) | (simp only [wkE, ne_eq]; omega)) only [l2, pBody, gV, r4, r5, r6, r7, wu, wk0, wk1, wk2, wk3, wk4, wk5, X_region, X_seq, X_block, X_loop, X_cond, Y_box, Y_un, Y_store, Y_append, Y_makeMap, ibin_shl, ibin_shr, ibin_and, List.set_cons_zero, List.set_cons_succ, List.getD_cons_zero, List.getD_cons_succ, List.map_cons, List.map_nil, ↓reduceIte, reduceCtorEq, oneCell, List.length_cons, List.length_nil, setAt, readN, bne_iff_ne, ne_eq, Nat.reduceAdd, Nat.reduceLeDiff, List.getElem?_cons_zero, List.getElem?_cons_succ, Nat.reduceMul, Option.isSome_some, layAt, Nat.reduceLT, Option.isNone_some, Option.isNone_none, beq_self_eq_true, Nat.reduceEqDiff, setParams, Int.reduceLT, Int.reduceLE, Int.reduceGT, Int.reduceGE, Int.reduceEq, Int.reduceNe, Option.map_some, Option.map_none, Option.isSome_none]
  refine Y_buildSliceO O3 (cs := bc (ub m.orig)) rfl ?_
  intro b4 h4 O4 e4
  have V4 : Vw 1 bc h4 (.slice (some ⟨b4, 0, none⟩) 1 1) [ub m.orig] := O4.one 0 rfl
  obtain ⟨w, h5, ap, O5⟩ := sc_appendV (bytes := 1) (by omega) bc_len bc_one (O4.at 3 rfl) V4 (by simp only [List.length_cons, List.length_nil]; unfold roomMost; omega) (by omega)
  replace O5 : Has ro h5 (Sc 1 bc w (t ++ [ub m.orig]) :: Ob b4 (.cells (bc (ub m.orig)) 1 false) :: Ob lb (.loop lq) :: Ob vb (.cells [v] 1 false) :: Ob mb (.cells (mc m) 1 false) :: R) := O5
  obtain ⟨w1, w2⟩ := scOne O5 0 rfl
  have g5 := O5.get 3 rfl
  have p5 := O5.can 3 rfl
  simp (disch := first | assumption | omega | (simp only [wkD, oneCell, Option.isSome_some, *]; done) | (simp only [wkE, ne_eq]; omega)) only [ap, w1, w2, g5, p5, wk0, wk1, wk2, wk3, wk4, wk5, X_region, X_seq, X_block, X_loop, X_cond, Y_box, Y_un, Y_store, Y_append, Y_makeMap, Y_buildSlice, ibin_shl, ibin_shr, ibin_and, List.set_cons_zero, List.set_cons_succ, List.getD_cons_zero, List.getD_cons_succ, List.map_cons, List.map_nil, ↓reduceIte, reduceCtorEq, List.length_cons, List.length_nil, setAt, readN, bne_iff_ne, ne_eq, Nat.reduceAdd, Nat.reduceLeDiff, List.getElem?_cons_zero, List.getElem?_cons_succ, Nat.reduceMul, Option.isSome_some, layAt, Nat.reduceLT, Option.isNone_some, Option.isNone_none, beq_self_eq_true, Nat.reduceEqDiff, setParams, Int.reduceLT, Int.reduceLE, Int.reduceGT, Int.reduceGE, Int.reduceEq, Int.reduceNe, Option.map_some, Option.map_none, Option.isSome_none]
  have O6 := (O5.set 3 rfl (.cells [w] 1 false)).rid 1 rfl
  refine Is_in ⟨_, _, O6.at 1 rfl, fun h6 O7 => ⟨rfl, w, ?_⟩⟩
  replace O7 : Has ro h6 (Ob lb (.loop { lq with state := .ready, pending := .normal }) :: _) := O7
  rw [l5] at O7
  exact (O7.at 2 rfl).at 1 rfl
theorem plain_y7 {k D lb vb mb : Nat} {v : Value} {t : List Nat} {tl : List Value} (htl : tl.length = 98) (ht2 : tl.getD 2 undefV = .pointer (some ⟨vb, 0, none⟩)) (ht3 : tl.getD 3 undefV = .pointer (some ⟨mb, 0, none⟩)) (hk : 60 < k) (hT : t.length ≤ 1000) (hM : Nums m l) (V : ∀ h, Has ro h R → Vw 2 cc h m.cl l)
    (O : Has ro h (Ob lb (.loop (pLoop D tl)) :: Ob vb (.cells [v] 1 false) :: Sc 1 bc v t :: Ob mb (.cells (mc m) 1 false) :: R)) :
    (callV env (k + 1) (.func (.yield lb) #[] #[]) [.int .i64 7] h).Is fun q => q.1 = .bool true ∧ ∃ v', Has ro q.2 (Ob lb (.loop (pLoop D tl)) :: Ob vb (.cells [v'] 1 false) :: Sc 1 bc v' (t ++ fb m l 7) :: Ob mb (.cells (mc m) 1 false) :: R) := by
  obtain ⟨k, rfl⟩ : ∃ j, k = j + 1 := ⟨k - 1, by omega⟩
  obtain ⟨n1, n2, n3, n4, n5, n6⟩ := hM
  obtain ⟨p, c, hc, hlc⟩ := (V _ O.drop.drop.drop.drop).len
  rw [callV_yield]
  obtain ⟨lp, hlp⟩ : ∃ lp, lp = pLoop D tl := ⟨_, rfl⟩
  rw [← hlp] at O ⊢
  have l1 : lp.assign = pAsg := by rw [hlp]; rfl
  have l2 : lp.body = pBody := by rw [hlp]; rfl
  have l3 : lp.params = [17] := by rw [hlp]; rfl
  have l4 : lp.tmps = tl := by rw [hlp]; rfl
  obtain ⟨lq, hB⟩ : ∃ B : ILoop, B = { lp with state := .busy } := ⟨_, rfl⟩
  have l5 : ({ lq with state := .ready, pending := .normal } : ILoop) = lp := by rw [hB, hlp]; rfl
  have l6 : lp.state = .ready := by rw [hlp]; rfl
  clear hlp
  obtain ⟨g, hg_, htl⟩ := explode htl
  rw [hg_] at ht2 ht3
  clear hg_
  have ht2' : g 2 = .pointer (some ⟨vb, 0, none⟩) := ht2
  have ht3' : g 3 = .pointer (some ⟨mb, 0, none⟩) := ht3
  clear ht2 ht3
  simp only [expand_succ, expand_zero, Nat.reduceAdd, ht2', ht3'] at htl
  refine round_isO O (by rw [l3]; rfl) l6 ?_
  rw [← hB]
  clear hB
  simp (disch := first | assumption | omega | (simp only [wkD, oneCell, Option.isSome_some, *]; done) | (simp only [wkE, ne_eq]; omega)) only [l1, l3, l4, htl, pAsg, List.nil_append, wk0, wk1, wk2, wk3, wk4, wk5, X_region, X_seq, X_block, X_loop, X_cond, Y_box, Y_un, Y_store, Y_append, Y_makeMap, Y_buildSlice, ibin_shl, ibin_shr, ibin_and, List.set_cons_zero, List.set_cons_succ, List.getD_cons_zero, List.getD_cons_succ, List.map_cons, List.map_nil, ↓reduceIte, reduceCtorEq, oneCell, List.length_cons, List.length_nil, setAt, readN, bne_iff_ne, ne_eq, Nat.reduceAdd, Nat.reduceLeDiff, List.getElem?_cons_zero, List.getElem?_cons_succ, Nat.reduceMul, Option.isSome_some, layAt, Nat.reduceLT, Option.isNone_some, Option.isNone_none, beq_self_eq_true, Nat.reduceEqDiff, setParams, Int.reduceLT, Int.reduceLE, Int.reduceGT, Int.reduceGE, Int.reduceEq, Int.reduceNe, Option.map_some, Option.map_none, Option.isSome_none]
  refine Is_in ⟨rfl, _, O, fun h3 O3 => ?_⟩
  clear htl l4
  clear O
  have gV : readC (h3.get vb) 0 1 = some [v] := by rw [O3.get 1 rfl]; rfl
  obtain ⟨r0, r1, r2, r3, r4, r5, r6, r7, r8, r9⟩ := rdm (O3.get 3 rfl)
  rw [hc] at r8
  have wu := u8_ub m.oth
  simp (disch := first | assumption | omega | (simp only [wkD, oneCell, Option.isSome_some, *]; done) | (simp only [wkE, ne_eq]; omega)) only [l2, pBody, gV, r4, r5, r6, r7, wu, wk0, wk1, wk2, wk3, wk4, wk5, X_region, X_seq, X_block, X_loop, X_cond, Y_box, Y_un, Y_store, Y_append, Y_makeMap, ibin_shl, ibin_shr, ibin_and, List.set_cons_zero, List.set_cons_succ, List.getD_cons_zero, List.getD_cons_succ, List.map_cons, List.map_nil, ↓reduceIte, reduceCtorEq, oneCell, List.length_cons, List.length_nil, setAt, readN, bne_iff_ne, ne_eq, Nat.reduceAdd, Nat.reduceLeDiff, List.getElem?_cons_zero, List.getElem?_cons_succ, Nat.reduceMul, Option.isSome_some, layAt, Nat.reduceLT, Option.isNone_some, Option.isNone_none, beq_self_eq_true, Nat.reduceEqDiff, setParams, Int.reduceLT, Int.reduceLE, Int.reduceGT, Int.reduceGE, Int.reduceEq, Int.reduceNe, Option.map_some, Option.map_none, Option.isSome_none]
  refine Y_buildSliceO O3 (cs := bc (ub m.oth)) rfl ?_
  intro b4 h4 O4 e4
  have V4 : Vw 1 bc h4 (.slice (some ⟨b4, 0, none⟩) 1 1) [ub m.oth] := O4.one 0 rfl
  obtain ⟨w, h5, ap, O5⟩ := sc_appendV (bytes := 1) (by omega) bc_len bc_one (O4.at 3 rfl) V4 (by simp only [List.length_cons, List.length_nil]; unfold roomMost; omega) (by omega)
  replace O5 : Has ro h5 (Sc 1 bc w (t ++ [ub m.oth]) :: Ob b4 (.cells (bc (ub m.oth)) 1 false) :: Ob lb (.loop lq) :: Ob vb (.cells [v] 1 false) :: Ob mb (.cells (mc m) 1 false) :: R) := O5
  obtain ⟨w1, w2⟩ := scOne O5 0 rfl
  have g5 := O5.get 3 rfl
  have p5 := O5.can 3 rfl
  simp (disch := first | assumption | omega | (simp only [wkD, oneCell, Option.isSome_some, *]; done) | (simp only [wkE, ne_eq]; omega)) only [ap, w1, w2, g5, p5, wk0, wk1, wk2, wk3, wk4, wk5, X_region, X_seq, X_block, X_loop, X_cond, Y_box, Y_un, Y_store, Y_append, Y_makeMap, Y_buildSlice, ibin_shl, ibin_shr, ibin_and, List.set_cons_zero, List.set_cons_succ, List.getD_cons_zero, List.getD_cons_succ, List.map_cons, List.map_nil, ↓reduceIte, reduceCtorEq, List.length_cons, List.length_nil, setAt, readN, bne_iff_ne, ne_eq, Nat.reduceAdd, Nat.reduceLeDiff, List.getElem?_cons_zero, List.getElem?_cons_succ, Nat.reduceMul, Option.isSome_some, layAt, Nat.reduceLT, Option.isNone_some, Option.isNone_none, beq_self_eq_true, Nat.reduceEqDiff, setParams, Int.reduceLT, Int.reduceLE, Int.reduceGT, Int.reduceGE, Int.reduceEq, Int.reduceNe, Option.map_some, Option.map_none, Option.isSome_none]
  have O6 := (O5.set 3 rfl (.cells [w] 1 false)).rid 1 rfl
  refine Is_in ⟨_, _, O6.at 1 rfl, fun h6 O7 => ⟨rfl, w, ?_⟩⟩
  replace O7 : Has ro h6 (Ob lb (.loop { lq with state := .ready, pending := .normal }) :: _) := O7
  rw [l5] at O7
  exact (O7.at 2 rfl).at 1 rfl
theorem plain_y8 {k D lb vb mb : Nat} {v : Value} {t : List Nat} {tl : List Value} (htl : tl.length = 98) (ht2 : tl.getD 2 undefV = .pointer (some ⟨vb, 0, none⟩)) (ht3 : tl.getD 3 undefV = .pointer (some ⟨mb, 0, none⟩)) (hk : 60 < k) (hT : t.length ≤ 1000) (hM : Nums m l) (V : ∀ h, Has ro h R → Vw 2 cc h m.cl l)
    (O : Has ro h (Ob lb (.loop (pLoop D tl)) :: Ob vb (.cells [v] 1 false) :: Sc 1 bc v t :: Ob mb (.cells (mc m) 1 false) :: R)) :
    (callV env (k + 1) (.func (.yield lb) #[] #[]) [.int .i64 8] h).Is fun q => q.1 = .bool true ∧ ∃ v', Has ro q.2 (Ob lb (.loop (pLoop D tl)) :: Ob vb (.cells [v'] 1 false) :: Sc 1 bc v' (t ++ fb m l 8) :: Ob mb (.cells (mc m) 1 false) :: R) := by
  obtain ⟨k, rfl⟩ : ∃ j, k = j + 1 := ⟨k - 1, by omega⟩
  obtain ⟨n1, n2, n3, n4, n5, n6⟩ := hM
  obtain ⟨p, c, hc, hlc⟩ := (V _ O.drop.drop.drop.drop).len
  rw [callV_yield]
  obtain ⟨lp, hlp⟩ : ∃ lp, lp = pLoop D tl := ⟨_, rfl⟩
  rw [← hlp] at O ⊢
  have l1 : lp.assign = pAsg := by rw [hlp]; rfl
  have l2 : lp.body = pBody := by rw [hlp]; rfl
  have l3 : lp.params = [17] := by rw [hlp]; rfl
  have l4 : lp.tmps = tl := by rw [hlp]; rfl
  obtain ⟨lq, hB⟩ : ∃ B : ILoop, B = { lp with state := .busy } := ⟨_, rfl⟩
  have l5 : ({ lq with state := .ready, pending := .normal } : ILoop) = lp := by rw [hB, hlp]; rfl
  have l6 : lp.state = .ready := by rw [hlp]; rfl
  clear hlp
  obtain ⟨g, hg_, htl⟩ := explode htl
  rw [hg_] at ht2 ht3
  clear hg_
  have ht2' : g 2 = .pointer (some ⟨vb, 0, none⟩) := ht2
  have ht3' : g 3 = .pointer (some ⟨mb, 0, none⟩) := ht3
  clear ht2 ht3
  simp only [expand_succ, expand_zero, Nat.reduceAdd, ht2', ht3'] at htl
  refine round_isO O (by rw [l3]; rfl) l6 ?_
  rw [← hB]
  clear hB
  simp (disch := first | assumption | omega | (simp only [wkD, oneCell, Option.isSome_some, *]; done) | (simp only [wkE, ne_eq]; omega)) only [l1, l3, l4, htl, pAsg, List.nil_append, wk0, wk1, wk2, wk3, wk4, wk5, X_region, X_seq, X_block, X_loop, X_cond, Y_box, Y_un, Y_store, Y_append, Y_makeMap, Y_buildSlice, ibin_shl, ibin_shr, ibin_and, List.set_cons_zero, List.set_cons_succ, List.getD_cons_zero, List.getD_cons_succ, List.map_cons, List.map_nil, ↓reduceIte, reduceCtorEq, oneCell, List.length_cons, List.length_nil, setAt, readN, bne_iff_ne, ne_eq, Nat.reduceAdd, Nat.reduceLeDiff, List.getElem?_cons_zero, List.getElem?_cons_succ, Nat.reduceMul, Option.isSome_some, layAt, Nat.reduceLT, Option.isNone_some, Option.isNone_none, beq_self_eq_true, Nat.reduceEqDiff, setParams, Int.reduceLT, Int.reduceLE, Int.reduceGT, Int.reduceGE, Int.reduceEq, Int.reduceNe, Option.map_some, Option.map_none, Option.isSome_none]
  refine Is_in ⟨rfl, _, O, fun h3 O3 => ?_⟩
  clear htl l4
  clear O
  have gV : readC (h3.get vb) 0 1 = some [v] := by rw [O3.get 1 rfl]; rfl
  obtain ⟨r0, r1, r2, r3, r4, r5, r6, r7, r8, r9⟩ := rdm (O3.get 3 rfl)
  rw [hc] at r8
  have wu := u8_ub (l.length : Int)
  simp (disch := first | assumption | omega | (simp only [wkD, oneCell, Option.isSome_some, *]; done) | (simp only [wkE, ne_eq]; omega)) only [l2, pBody, gV, r8, wu, wk0, wk1, wk2, wk3, wk4, wk5, X_region, X_seq, X_block, X_loop, X_cond, Y_box, Y_un, Y_store, Y_append, Y_makeMap, ibin_shl, ibin_shr, ibin_and, List.set_cons_zero, List.set_cons_succ, List.getD_cons_zero, List.getD_cons_succ, List.map_cons, List.map_nil, ↓reduceIte, reduceCtorEq, oneCell, List.length_cons, List.length_nil, setAt, readN, bne_iff_ne, ne_eq, Nat.reduceAdd, Nat.reduceLeDiff, List.getElem?_cons_zero, List.getElem?_cons_succ, Nat.reduceMul, Option.isSome_some, layAt, Nat.reduceLT, Option.isNone_some, Option.isNone_none, beq_self_eq_true, Nat.reduceEqDiff, setParams, Int.reduceLT, Int.reduceLE, Int.reduceGT, Int.reduceGE, Int.reduceEq, Int.reduceNe, Option.map_some, Option.map_none, Option.isSome_none]
  refine Y_buildSliceO O3 (cs := bc (ub (l.length : Int))) rfl ?_
  intro b4 h4 O4 e4
  have V4 : Vw 1 bc h4 (.slice (some ⟨b4, 0, none⟩) 1 1) [ub (l.length : Int)] := O4.one 0 rfl
  obtain ⟨w, h5, ap, O5⟩ := sc_appendV (bytes := 1) (by omega) bc_len bc_one (O4.at 3 rfl) V4 (by simp only [List.length_cons, List.length_nil]; unfold roomMost; omega) (by omega)
  replace O5 : Has ro h5 (Sc 1 bc w (t ++ [ub (l.length : Int)]) :: Ob b4 (.cells (bc (ub (l.length : Int))) 1 false) :: Ob lb (.loop lq) :: Ob vb (.cells [v] 1 false) :: Ob mb (.cells (mc m) 1 false) :: R) := O5
  obtain ⟨w1, w2⟩ := scOne O5 0 rfl
  have g5 := O5.get 3 rfl
  have p5 := O5.can 3 rfl
  have O6 := (O5.set 3 rfl (.cells [w] 1 false)).rid 1 rfl
  replace O6 : Has ro _ (Ob mb (.cells (mc m) 1 false) :: Ob vb (.cells [w] 1 false) :: Sc 1 bc w (t ++ [ub (l.length : Int)]) :: Ob lb (.loop lq) :: R) := (O6.at 1 rfl).at 1 rfl |>.at 2 rfl |>.at 3 rfl
  obtain ⟨-, -, -, -, -, -, -, -, q8, -⟩ := rdm (O6.get 0 rfl)
  rw [hc] at q8
  simp (disch := first | assumption | omega | (simp only [wkD, oneCell, Option.isSome_some, *]; done) | (simp only [wkE, ne_eq]; omega)) only [ap, w1, w2, g5, p5, q8, wk0, wk1, wk2, wk3, wk4, wk5, X_region, X_seq, X_block, X_loop, X_cond, Y_box, Y_un, Y_store, Y_append, Y_makeMap, Y_buildSlice, ibin_shl, ibin_shr, ibin_and, List.set_cons_zero, List.set_cons_succ, List.getD_cons_zero, List.getD_cons_succ, List.map_cons, List.map_nil, ↓reduceIte, reduceCtorEq, List.length_cons, List.length_nil, setAt, readN, bne_iff_ne, ne_eq, Nat.reduceAdd, Nat.reduceLeDiff, List.getElem?_cons_zero, List.getElem?_cons_succ, Nat.reduceMul, Option.isSome_some, layAt, Nat.reduceLT, Option.isNone_some, Option.isNone_none, beq_self_eq_true, Nat.reduceEqDiff, setParams, Int.reduceLT, Int.reduceLE, Int.reduceGT, Int.reduceGE, Int.reduceEq, Int.reduceNe, Option.map_some, Option.map_none, Option.isSome_none]
  generalize h5.setB vb (.cells [w] 1 false) = h6 at O6 q8 ⊢
  clear O3 O4 O5 V4 e4 ap g5 p5 w1 w2 q8 gV r0 r1 r2 r3 r4 r5 r6 r7 r8 r9
  refine L_is (fun q s => ∃ (i : Nat) (w : Value), s.defers = [] ∧ s.tmps.length = 98 ∧ s.tmps.getD 2 undefV = .pointer (some ⟨vb, 0, none⟩) ∧ s.tmps.getD 3 undefV = .pointer (some ⟨mb, 0, none⟩) ∧ s.tmps.getD 81 undefV = .slice p l.length c ∧ s.tmps.getD 82 undefV = .int .i64 (l.length : Int) ∧ s.tmps.getD 83 undefV = .int .i64 (i : Int) ∧ q = l.length - i ∧ i ≤ l.length ∧ Has ro s.h (Ob mb (.cells (mc m) 1 false) :: Ob vb (.cells [w] 1 false) :: Sc 1 bc w (t ++ (ub (l.length : Int) :: (l.take i).flatMap clb)) :: Ob lb (.loop lq) :: R)) l.length ?_ (by omega) ?_
  · exact ⟨0, w, rfl, rfl, rfl, rfl, rfl, rfl, rfl, rfl, by omega, O6⟩
  clear O6
  clear w
  rintro q_ tm df h7 ⟨i, u, hd, hlen_, g2, g3, g81, g82, g83, hq, hi, O⟩
  simp only at hd g2 g3 g81 g82 g83 O
  subst hd
  obtain ⟨w, hg_, rfl⟩ := explode hlen_
  simp only [hg_] at g2 g3 g81 g82 g83
  clear hlen_ hg_
  by_cases hlt : i < l.length
  · have hlt' : (i : Int) < (l.length : Int) := by omega
    have c0 : (0 : Int) ≤ (i : Int) := by omega
    have y1 : IntKind.i64.wrap ((i : Int) + 1) = ((i + 1 : Nat) : Int) := by rw [wrap_i64 (by omega) (by omega)]; omega
    obtain ⟨j1, j2, j3⟩ := n6 i hlt
    obtain ⟨b1, o1, s1, d1, hv, k1, k2⟩ := rdcl (V _ O.drop.drop.drop.drop) hlt
    rw [hc] at hv
    cases hv
    simp (disch := first | assumption | omega | (simp only [wkD, oneCell, Option.isSome_some, *]; done) | (simp only [wkE, ne_eq]; omega)) only [g2, g3, g81, g82, g83, hlt', c0, k1, Int.toNat_natCast, wk0, wk1, wk2, wk3, wk4, wk5, X_region, X_seq, X_block, X_loop, X_cond, Y_un, Y_store, Y_append, Y_makeMap, Y_buildSlice, ibin_shl, ibin_shr, ibin_and, List.set_cons_zero, List.set_cons_succ, List.getD_cons_zero, List.getD_cons_succ, List.map_cons, List.map_nil, ↓reduceIte, reduceCtorEq, oneCell, List.length_cons, List.length_nil, setAt, readN, bne_iff_ne, ne_eq, Nat.reduceAdd, Nat.reduceLeDiff, List.getElem?_cons_zero, List.getElem?_cons_succ, Nat.reduceMul, Option.isSome_some, layAt, Nat.reduceLT, Option.isNone_some, Option.isNone_none, beq_self_eq_true, Nat.reduceEqDiff, setParams, Int.reduceLT, Int.reduceLE, Int.reduceGT, Int.reduceGE, Int.reduceEq, Int.reduceNe, Option.map_some, Option.map_none, Option.isSome_none]
    refine Y_boxO O ?_
    intro xb h8 O8 e8
    replace O8 : Has ro h8 (Ob xb (.cells [.int .i64 0, .int .u32 0] 1 false) :: Ob mb (.cells (mc m) 1 false) :: Ob vb (.cells [u] 1 false) :: Sc 1 bc u (t ++ (ub (l.length : Int) :: (l.take i).flatMap clb)) :: Ob lb (.loop lq) :: R) := O8
    have g8 := O8.get 0 rfl
    have p8 := O8.can 0 rfl
    have O9 := O8.set 0 rfl (.cells (cc (l.getD i ⟨0, 0⟩)) 1 false)
    replace O9 : Has ro _ (Ob xb (.cells (cc (l.getD i ⟨0, 0⟩)) 1 false) :: Ob vb (.cells [u] 1 false) :: Sc 1 bc u (t ++ (ub (l.length : Int) :: (l.take i).flatMap clb)) :: Ob mb (.cells (mc m) 1 false) :: Ob lb (.loop lq) :: R) := (O9.at 3 rfl).at 3 rfl |>.at 2 rfl
    have hs8 : setAt [Value.int .i64 0, .int .u32 0] 0 (cc (l.getD i ⟨0, 0⟩)) = cc (l.getD i ⟨0, 0⟩) := by simp [setAt, cc]
    have hone : (cc (l.getD i ⟨0, 0⟩)).all oneCell = true := rfl
    simp (disch := first | assumption | omega | (simp only [wkD, oneCell, Option.isSome_some, *]; done) | (simp only [wkE, ne_eq]; omega)) only [g8, p8, hs8, cc_len, cellsOf_agg, hone, wk0, wk1, wk2, wk3, wk4, wk5, X_region, X_seq, X_block, X_loop, X_cond, Y_box, Y_un, Y_store, Y_append, Y_makeMap, Y_buildSlice, ibin_shl, ibin_shr, ibin_and, List.set_cons_zero, List.set_cons_succ, List.getD_cons_zero, List.getD_cons_succ, List.map_cons, List.map_nil, ↓reduceIte, reduceCtorEq, List.length_cons, List.length_nil, readN, bne_iff_ne, ne_eq, Nat.reduceAdd, Nat.reduceLeDiff, List.getElem?_cons_zero, List.getElem?_cons_succ, Nat.reduceMul, Option.isSome_some, layAt, Nat.reduceLT, Option.isNone_some, Option.isNone_none, beq_self_eq_true, Nat.reduceEqDiff, setParams, Int.reduceLT, Int.reduceLE, Int.reduceGT, Int.reduceGE, Int.reduceEq, Int.reduceNe, Option.map_some, Option.map_none, Option.isSome_none]
    generalize h8.setB xb (.cells (cc (l.getD i ⟨0, 0⟩)) 1 false) = h9 at O9 ⊢
    have gx := O9.get 0 rfl
    have gv := O9.get 1 rfl
    have x0 : ∀ h : Heap, h.get xb = some (.cells (cc (l.getD i ⟨0, 0⟩)) 1 false) → readC (h.get xb) 0 1 = some [.int .i64 (cel l i)] := fun h e => by rw [e]; rfl
    have x1 : ∀ h : Heap, h.get xb = some (.cells (cc (l.getD i ⟨0, 0⟩)) 1 false) → readC (h.get xb) 1 1 = some [.int .u32 ((l.getD i ⟨0, 0⟩).g : Int)] := fun h e => by rw [e]; rfl
    have v0 : readC (h9.get vb) 0 1 = some [u] := by rw [gv]; rfl
    have lx : xb < 2 * h9.next := (O9.info (i := 0) rfl).2.2.2.1
    have ltk : ((l.take i).flatMap clb).length ≤ 6 * 16 := by
      rw [clb_len, List.length_take]
      omega
    obtain ⟨bs, hbs, hnx, hnv⟩ := sc_plan O9
    have wu := u64_of j1 (by omega)
    have wg : IntKind.u64.wrap ((l.getD i ⟨0, 0⟩).g : Int) = ((l.getD i ⟨0, 0⟩).g : Int) := by rw [u64_of (by omega) (by omega), Int.toNat_natCast]
    refine X_plan [[], [], [], [], bs] O9.fine ?_
    refine Dp.load1 rfl v0 (fun k _ => notin4 hnv k) (fun x hx => by cases hx) ?_
    refine Dp.fieldAddr rfl ?_
    refine Dp.load1 rfl (x0 _ gx) (fun k _ => notin4 hnx k) (fun x hx => by cases hx) ?_
    refine Dp.conv rfl wu ?_
    refine Dp.callFree O9.fine (T.Is.mono (fun _ _ => trivial) (put_h (n := k) (m := 2) (x := (cel l i).toNat) (by omega) (by omega) (by simp only [List.length_append, List.length_cons]; omega) (Has.seen (O9.at 2 rfl) hbs (fun k hk => plan4 k (unord_ne hk))))) (put_h (n := k) (m := 2) (x := (cel l i).toNat) (by omega) (by omega) (by simp only [List.length_append, List.length_cons]; omega) (O9.at 2 rfl)) ?_
    rintro w1 h10 O10
    replace O10 : Has ro h10 (Sc 1 bc w1 ((t ++ (ub (l.length : Int) :: (l.take i).flatMap clb)) ++ be (cel l i).toNat 2) :: Ob xb (.cells (cc (l.getD i ⟨0, 0⟩)) 1 false) :: Ob vb (.cells [u] 1 false) :: Ob mb (.cells (mc m) 1 false) :: Ob lb (.loop lq) :: R) := O10
    refine Dp.fieldAddr rfl ?_
    refine Dp.load1 rfl (x1 _ (O10.get 1 rfl)) (fun k _ => notin4 hnx k) (fr_ok lx) ?_
    refine Dp.conv rfl wg ?_
    refine Dp.callFixed (put_h (n := k) (m := 4) (x := (l.getD i ⟨0, 0⟩).g) (by omega) (by omega) (by simp only [List.length_append, List.length_cons, be_len]; omega) O10) ?_
    rintro w2 h11 O11
    replace O11 : Has ro h11 (Sc 1 bc w2 (((t ++ (ub (l.length : Int) :: (l.take i).flatMap clb)) ++ be (cel l i).toNat 2) ++ be (l.getD i ⟨0, 0⟩).g 4) :: Ob xb (.cells (cc (l.getD i ⟨0, 0⟩)) 1 false) :: Ob vb (.cells [u] 1 false) :: Ob mb (.cells (mc m) 1 false) :: Ob lb (.loop lq) :: R) := O11
    obtain ⟨z1, z2⟩ := scOne O11 0 rfl
    refine Dp.storeB O11 2 rfl rfl (by show (cellsOf w2).length = 1; rw [z1]; rfl) (by show 0 + 1 ≤ 1; omega) (by show (cellsOf w2).all oneCell = true; rw [z1]; simp [z2]) ?_
    intro h12 O12
    replace O12 : Has ro h12 (Ob mb (.cells (mc m) 1 false) :: Ob vb (.cells [w2] 1 false) :: Sc 1 bc w2 (t ++ (ub (l.length : Int) :: (l.take (i + 1)).flatMap clb)) :: Ob lb (.loop lq) :: R) := by
      have e1 : setAt [u] 0 (cellsOf w2) = [w2] := by rw [z1]; rfl
      have e2 : l.take (i + 1) = l.take i ++ [l.getD i ⟨0, 0⟩] := by
        rw [List.take_add_one, List.getD_eq_getElem?_getD, List.getElem?_eq_getElem hlt]
        rfl
      have e3 : (((t ++ (ub (l.length : Int) :: (l.take i).flatMap clb)) ++ be (cel l i).toNat 2) ++ be (l.getD i ⟨0, 0⟩).g 4) = t ++ (ub (l.length : Int) :: (l.take (i + 1)).flatMap clb) := by
        rw [e2, List.flatMap_append, List.flatMap_singleton, List.append_assoc, List.append_assoc, List.cons_append]
        rfl
      have O13 : Has ro h12 (Sc 1 bc w2 (((t ++ (ub (l.length : Int) :: (l.take i).flatMap clb)) ++ be (cel l i).toNat 2) ++ be (l.getD i ⟨0, 0⟩).g 4) :: Ob xb (.cells (cc (l.getD i ⟨0, 0⟩)) 1 false) :: Ob vb (.cells (setAt [u] 0 (cellsOf w2)) 1 false) :: Ob mb (.cells (mc m) 1 false) :: Ob lb (.loop lq) :: R) := O12
      rw [e1, e3] at O13
      exact (O13.rid 1 rfl).at 1 rfl |>.at 2 rfl
    refine Dp.nil ?_
    simp (disch := first | assumption | omega | (simp only [wkD, oneCell, Option.isSome_some, *]; done) | (simp only [wkE, ne_eq]; omega)) only [g2, g3, g81, g82, g83, y1, wk0, wk1, wk2, wk3, wk4, wk5, X_region, X_seq, X_block, X_loop, X_cond, Y_box, Y_un, Y_store, Y_append, Y_makeMap, Y_buildSlice, ibin_shl, ibin_shr, ibin_and, List.set_cons_zero, List.set_cons_succ, List.getD_cons_zero, List.getD_cons_succ, List.map_cons, List.map_nil, ↓reduceIte, reduceCtorEq, oneCell, List.length_cons, List.length_nil, setAt, readN, bne_iff_ne, ne_eq, Nat.reduceAdd, Nat.reduceLeDiff, List.getElem?_cons_zero, List.getElem?_cons_succ, Nat.reduceMul, Option.isSome_some, layAt, Nat.reduceLT, Option.isNone_some, Option.isNone_none, beq_self_eq_true, Nat.reduceEqDiff, setParams, Int.reduceLT, Int.reduceLE, Int.reduceGT, Int.reduceGE, Int.reduceEq, Int.reduceNe, Option.map_some, Option.map_none, Option.isSome_none]
    exact Is_in ⟨l.length - (i + 1), by omega, i + 1, w2, rfl, rfl, rfl, rfl, rfl, rfl, rfl, rfl, by omega, O12⟩
  · have hlt' : ¬ (i : Int) < (l.length : Int) := by omega
    simp (disch := first | assumption | omega | (simp only [wkD, oneCell, Option.isSome_some, *]; done) | (simp only [wkE, ne_eq]; omega)) only [g2, g3, g81, g82, g83, hlt', wk0, wk1, wk2, wk3, wk4, wk5, X_region, X_seq, X_block, X_loop, X_cond, Y_box, Y_un, Y_store, Y_append, Y_makeMap, Y_buildSlice, ibin_shl, ibin_shr, ibin_and, List.set_cons_zero, List.set_cons_succ, List.getD_cons_zero, List.getD_cons_succ, List.map_cons, List.map_nil, ↓reduceIte, reduceCtorEq, oneCell, List.length_cons, List.length_nil, setAt, readN, bne_iff_ne, ne_eq, Nat.reduceAdd, Nat.reduceLeDiff, List.getElem?_cons_zero, List.getElem?_cons_succ, Nat.reduceMul, Option.isSome_some, layAt, Nat.reduceLT, Option.isNone_some, Option.isNone_none, beq_self_eq_true, Nat.reduceEqDiff, setParams, Int.reduceLT, Int.reduceLE, Int.reduceGT, Int.reduceGE, Int.reduceEq, Int.reduceNe, Option.map_some, Option.map_none, Option.isSome_none]
    refine Is_in ?_
    simp (disch := first | assumption | omega | (simp only [wkD, oneCell, Option.isSome_some, *]; done) | (simp only [wkE, ne_eq]; omega)) only [wk0, wk1, wk2, wk3, wk4, wk5, X_region, X_seq, X_block, X_loop, X_cond, Y_box, Y_un, Y_store, Y_append, Y_makeMap, Y_buildSlice, ibin_shl, ibin_shr, ibin_and, List.set_cons_zero, List.set_cons_succ, List.getD_cons_zero, List.getD_cons_succ, List.map_cons, List.map_nil, ↓reduceIte, reduceCtorEq, oneCell, List.length_cons, List.length_nil, setAt, readN, bne_iff_ne, ne_eq, Nat.reduceAdd, Nat.reduceLeDiff, List.getElem?_cons_zero, List.getElem?_cons_succ, Nat.reduceMul, Option.isSome_some, layAt, Nat.reduceLT, Option.isNone_some, Option.isNone_none, beq_self_eq_true, Nat.reduceEqDiff, setParams, Int.reduceLT, Int.reduceLE, Int.reduceGT, Int.reduceGE, Int.reduceEq, Int.reduceNe, Option.map_some, Option.map_none, Option.isSome_none]
    rw [List.take_of_length_le (show l.length ≤ i by omega)] at O
    refine Is_in ⟨_, _, O.at 3 rfl, fun h6 O7 => ⟨rfl, u, ?_⟩⟩
    replace O7 : Has ro h6 (Ob lb (.loop { lq with state := .ready, pending := .normal }) :: _) := O7
    rw [l5] at O7
    exact (O7.at 3 rfl).at 3 rfl |>.at 2 rfl
end
end Go.Proofs.YtpodmgbnldmlcaaDoor
