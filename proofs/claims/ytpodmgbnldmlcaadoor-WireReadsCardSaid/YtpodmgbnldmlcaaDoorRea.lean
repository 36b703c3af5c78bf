/-
  The packet of bytes.
-/
import Derived.Test.YtpodmgbnldmlcaaDoorFk
import Derived.Test.YtpodmgbnldmlcaaDoorMes
namespace Go.Proofs.YtpodmgbnldmlcaaDoor
open Go Go.Ideal Go.ChangeShapes Go.RowKit
set_option maxHeartbeats 0
set_option linter.unusedSimpArgs false
set_option linter.unusedVariables false
set_option maxRecDepth 100000
attribute [local irreducible] callV T.All T.Is run
theorem env17 : env 17 = some ir17 := rfl
def pz : Pkt := ⟨0, 0, 0, 0, 0, 0, mz 0⟩
def s0 (B : List Nat) : Stt := match un B with | some A => (A, true) | none => ([], false)
def msgO (k : Int) (s : Stt) : Msg × List Cl × Stt := if 1 ≤ k ∧ k ≤ 11 then msgS k s else (mz 0, [], s)
def a0 (B : List Nat) := tk 1 (s0 B)
def a1 (B : List Nat) := tk 1 (a0 B).2
def a2 (B : List Nat) := tk 4 (a1 B).2
def a3 (B : List Nat) := tk 4 (a2 B).2
def a4 (B : List Nat) := tk 4 (a3 B).2
def a5 (B : List Nat) := tk 4 (a4 B).2
def a6 (B : List Nat) := tk 1 (a5 B).2
/-- The packet that bytes may be, its claims, and what is left. -/
def readS (B : List Nat) : Pkt × List Cl × Stt :=
  (⟨(a0 B).1, (a1 B).1, (a2 B).1, (a3 B).1, (a4 B).1, (a5 B).1, (msgO (a6 B).1 (a6 B).2).1⟩, (msgO (a6 B).1 (a6 B).2).2.1, (msgO (a6 B).1 (a6 B).2).2.2)
/-- The bytes are a packet's. -/
def RdOk (B : List Nat) : Prop := (readS B).2.2 = ([], true) ∧ OkP (readS B).1 (readS B).2.1
theorem un_by : ∀ {B A : List Nat}, (∀ b ∈ B, b < 256) → un B = some A → (∀ b ∈ A, b < 256) ∧ A.length ≤ B.length
  | [], A, _, h => by cases h; exact ⟨fun b hb => (by cases hb), Nat.le_refl _⟩
  | [_], A, _, h => by cases h
  | x :: y :: r, A, hb, h => by
    rw [un] at h
    split at h
    · rw [Option.map_eq_some_iff] at h
      obtain ⟨A', h1, rfl⟩ := h
      obtain ⟨h2, h3⟩ := un_by (fun b hm => hb b (by simp [hm])) h1
      refine ⟨fun b hm => ?_, by simp only [List.length_cons]; omega⟩
      rcases List.mem_cons.1 hm with rfl | hm
      · exact hb _ (by simp)
      · exact h2 b hm
    · cases h
theorem s0_by {B : List Nat} (hB : ∀ b ∈ B, b < 256) : (∀ b ∈ (s0 B).1, b < 256) ∧ (s0 B).1.length ≤ B.length := by
  unfold s0
  cases h : un B with
  | none => exact ⟨fun b hb => (by cases hb), Nat.zero_le _⟩
  | some A => exact un_by hB h
theorem okP_cl (p : Pkt) (l : List Cl) (v : Value) : OkP { p with m := { p.m with cl := v } } l ↔ OkP p l := Iff.rfl
section
variable {ro : Nat → Option (List Value × Nat)} {h : Heap} {R : List Rs} {B : List Nat}
theorem read_h {n c : Nat} {p : Option Addr} (hL : Lay ro) (hn : 2000 < n) (hN : B.length ≤ 1500) (hB : ∀ b ∈ B, b < 256) (V : ∀ h, Has ro h R → Vw 1 bc h (.slice p B.length c) B) (O : Has ro h R) :
    (callV env (n + 9) (.func (.func 17) #[] #[]) [.slice p B.length c] h).Is fun q => (RdOk B ∧ ∃ cv, q.1 = .tuple #[pv { (readS B).1 with m := { (readS B).1.m with cl := cv } }, .int .i64 0] ∧ Has ro q.2 (Sc 2 cc cv (readS B).2.1 :: R)) ∨ (¬ RdOk B ∧ q.1 = .tuple #[pv pz, .int .i64 70] ∧ Has ro q.2 R) := by
  refine call_is env17 ?_
  simp (disch := first | assumption | omega | (simp only [wkD, oneCell, Option.isSome_some, *]; done) | (simp only [wkE, ne_eq]; omega)) only [ir17, List.append_nil, List.nil_append, List.cons_append, List.length_cons, List.length_nil, Nat.reduceAdd, Nat.reduceSub, List.replicate_succ, List.replicate_zero, wkF, X_region, X_seq, X_block, X_loop, X_cond, Y_un, Y_store, Y_append, Y_makeMap, Y_buildSlice, ibin_shl, ibin_shr, ibin_and, ↓reduceIte, reduceCtorEq, oneCell, setAt, readN, Nat.reduceAdd, Nat.reduceLeDiff, Nat.reduceMul, layAt, Nat.reduceLT, Nat.reduceEqDiff, setParams, Int.reduceLT, Int.reduceLE, Int.reduceGT, Int.reduceGE, Int.reduceEq, Int.reduceNe]
  refine Y_boxO O ?_
  intro rb h1 O1 e1
  replace O1 : Has ro h1 (Ob rb (.cells (pc pz) 1 false) :: R) := O1
  simp (disch := first | assumption | omega | (simp only [wkD, oneCell, Option.isSome_some, *]; done) | (simp only [wkE, ne_eq]; omega)) only [wkF, X_region, X_seq, X_block, X_loop, X_cond, Y_box, Y_un, Y_store, Y_append, Y_makeMap, Y_buildSlice, ibin_shl, ibin_shr, ibin_and, ↓reduceIte, reduceCtorEq, oneCell, setAt, readN, Nat.reduceAdd, Nat.reduceLeDiff, Nat.reduceMul, layAt, Nat.reduceLT, Nat.reduceEqDiff, setParams, Int.reduceLT, Int.reduceLE, Int.reduceGT, Int.reduceGE, Int.reduceEq, Int.reduceNe]
  refine Z_is (R := fun q => ∃ v, q.1 = .tuple #[v, .bool (s0 B).2] ∧ Has ro q.2 (Sc 1 bc v (s0 B).1 :: Ob rb (.cells (pc pz) 1 false) :: R)) ?_ ?_
  · refine T.Is.mono ?_ (whole_h (n := n + 5) (N := 0) (by omega) hN hB (fun h O => V h O.drop) O1)
    rintro ⟨v, h2⟩ (⟨w, A, rfl, hu, O2⟩ | ⟨rfl, hu, O2⟩)
    · have e : s0 B = (A, true) := by unfold s0; rw [hu]
      rw [e]
      exact ⟨w, rfl, O2⟩
    · have e : s0 B = ([], false) := by unfold s0; rw [hu]
      rw [e]
      exact ⟨nilS, rfl, Has.scNil O2⟩
  rintro v2 h2 ⟨v, rfl, O2⟩
  obtain ⟨y1, y2⟩ := scOne O2 0 rfl
  obtain ⟨pv0, cv0, hv0, -⟩ := O2.scVal 0 rfl
  simp (disch := first | assumption | omega | (simp only [wkD, oneCell, Option.isSome_some, *]; done) | (simp only [wkE, ne_eq]; omega)) only [wkF, X_region, X_seq, X_block, X_loop, X_cond, Y_un, Y_store, Y_append, Y_makeMap, Y_buildSlice, ibin_shl, ibin_shr, ibin_and, ↓reduceIte, reduceCtorEq, oneCell, setAt, readN, Nat.reduceAdd, Nat.reduceLeDiff, Nat.reduceMul, layAt, Nat.reduceLT, Nat.reduceEqDiff, setParams, Int.reduceLT, Int.reduceLE, Int.reduceGT, Int.reduceGE, Int.reduceEq, Int.reduceNe]
  refine Y_boxO O2 ?_
  intro lb h3 O3 e3
  replace O3 : Has ro h3 (Ob lb (.cells [nilS] 1 false) :: Sc 1 bc v (s0 B).1 :: Ob rb (.cells (pc pz) 1 false) :: R) := O3
  simp (disch := first | assumption | omega | (simp only [wkD, oneCell, Option.isSome_some, *]; done) | (simp only [wkE, ne_eq]; omega)) only [wkF, X_region, X_seq, X_block, X_loop, X_cond, Y_un, Y_store, Y_append, Y_makeMap, Y_buildSlice, ibin_shl, ibin_shr, ibin_and, ↓reduceIte, reduceCtorEq, oneCell, setAt, readN, Nat.reduceAdd, Nat.reduceLeDiff, Nat.reduceMul, layAt, Nat.reduceLT, Nat.reduceEqDiff, setParams, Int.reduceLT, Int.reduceLE, Int.reduceGT, Int.reduceGE, Int.reduceEq, Int.reduceNe]
  refine Y_boxO O3 ?_
  intro fb h4 O4 e4
  replace O4 : Has ro h4 (Ob fb (.cells [.bool false] 1 false) :: Ob lb (.cells [nilS] 1 false) :: Sc 1 bc v (s0 B).1 :: Ob rb (.cells (pc pz) 1 false) :: R) := O4
  have g1 := O4.get 1 rfl
  have p1 := O4.can 1 rfl
  have O5 := O4.set 1 rfl (.cells [v] 1 false)
  replace O5 : Has ro _ (Ob fb (.cells [.bool false] 1 false) :: Ob lb (.cells [v] 1 false) :: Sc 1 bc v (s0 B).1 :: Ob rb (.cells (pc pz) 1 false) :: R) := O5
  have g2 := O5.get 0 rfl
  have p2 := O5.can 0 rfl
  have O6 := O5.set 0 rfl (.cells [.bool (s0 B).2] 1 false)
  replace O6 : Has ro _ (Ob fb (.cells [.bool (s0 B).2] 1 false) :: Ob lb (.cells [v] 1 false) :: Sc 1 bc v (s0 B).1 :: Ob rb (.cells (pc pz) 1 false) :: R) := O6
  have ho : oneCell (Value.bool (s0 B).2) = true := rfl
  simp (disch := first | assumption | omega | (simp only [wkD, oneCell, Option.isSome_some, *]; done) | (simp only [wkE, ne_eq]; omega)) only [g1, p1, g2, p2, y1, y2, ho, wkF, X_region, X_seq, X_block, X_loop, X_cond, Y_box, Y_un, Y_store, Y_append, Y_makeMap, Y_buildSlice, ibin_shl, ibin_shr, ibin_and, ↓reduceIte, reduceCtorEq, setAt, readN, Nat.reduceAdd, Nat.reduceLeDiff, Nat.reduceMul, layAt, Nat.reduceLT, Nat.reduceEqDiff, setParams, Int.reduceLT, Int.reduceLE, Int.reduceGT, Int.reduceGE, Int.reduceEq, Int.reduceNe]
  have q0 : Has ro _ (Tk fb lb (s0 B) :: Ob rb (.cells (pc pz) 1 false) :: R) := Has.tk.2 ⟨[], v, by
    have e : sub v ([] : List Nat).length = v := by rw [hv0]; exact sub_zero _ _ _
    rw [e]
    exact O6⟩
  generalize (h4.setB lb (.cells [v] 1 false)).setB fb (.cells [.bool (s0 B).2] 1 false) = h6 at q0 ⊢
  obtain ⟨b0, c0⟩ := s0_by hB
  clear O O1 O2 O3 O4 O5 O6 g1 p1 g2 p2 e1 e3 e4 y1 y2 hv0 ho
  refine Z_is (take_h (n := n + 7) (k := 1) (by omega) (by omega) (by omega) (by omega) b0 q0) ?_
  rintro w h7 ⟨rfl, q1⟩
  have t0 := tk_lt (k := 1) b0
  have b1 := tk_by (k := 1) b0
  have c1 := Nat.le_trans (tk_len (k := 1) (s := s0 B)) c0
  simp only [Nat.reducePow] at t0
  have w0 : IntKind.i64.wrap ((tk 1 (s0 B)).1 : Int) = ((tk 1 (s0 B)).1 : Int) := wrap_i64 (by omega) (by omega)
  replace q1 : Has ro h7 (Tk fb lb (a0 B).2 :: Ob rb (.cells (pc pz) 1 false) :: R) := q1
  change ∀ b ∈ (a0 B).2.1, b < 256 at b1
  change (a0 B).2.1.length ≤ B.length at c1
  change IntKind.i64.wrap ((a0 B).1 : Int) = ((a0 B).1 : Int) at w0
  change (a0 B).1 < _ at t0
  simp (disch := first | assumption | omega | (simp only [wkD, oneCell, Option.isSome_some, *]; done) | (simp only [wkE, ne_eq]; omega)) only [show tk 1 (s0 B) = a0 B from rfl, w0, wkF, X_region, X_seq, X_block, X_loop, X_cond, Y_box, Y_un, Y_store, Y_append, Y_makeMap, Y_buildSlice, ibin_shl, ibin_shr, ibin_and, ↓reduceIte, reduceCtorEq, oneCell, setAt, readN, Nat.reduceAdd, Nat.reduceLeDiff, Nat.reduceMul, layAt, Nat.reduceLT, Nat.reduceEqDiff, setParams, Int.reduceLT, Int.reduceLE, Int.reduceGT, Int.reduceGE, Int.reduceEq, Int.reduceNe]
  refine Z_is (take_h (n := n + 7) (k := 1) (by omega) (by omega) (by omega) (by omega) b1 q1) ?_
  rintro w h8 ⟨rfl, q2⟩
  have t1 := tk_lt (k := 1) b1
  have b2 := tk_by (k := 1) b1
  have c2 := Nat.le_trans (tk_len (k := 1) (s := (a0 B).2)) c1
  simp only [Nat.reducePow] at t1
  have w1 : IntKind.i64.wrap ((tk 1 ((a0 B).2)).1 : Int) = ((tk 1 ((a0 B).2)).1 : Int) := wrap_i64 (by omega) (by omega)
  replace q2 : Has ro h8 (Tk fb lb (a1 B).2 :: Ob rb (.cells (pc pz) 1 false) :: R) := q2
  change ∀ b ∈ (a1 B).2.1, b < 256 at b2
  change (a1 B).2.1.length ≤ B.length at c2
  change IntKind.i64.wrap ((a1 B).1 : Int) = ((a1 B).1 : Int) at w1
  change (a1 B).1 < _ at t1
  simp (disch := first | assumption | omega | (simp only [wkD, oneCell, Option.isSome_some, *]; done) | (simp only [wkE, ne_eq]; omega)) only [show tk 1 ((a0 B).2) = a1 B from rfl, w1, wkF, X_region, X_seq, X_block, X_loop, X_cond, Y_box, Y_un, Y_store, Y_append, Y_makeMap, Y_buildSlice, ibin_shl, ibin_shr, ibin_and, ↓reduceIte, reduceCtorEq, oneCell, setAt, readN, Nat.reduceAdd, Nat.reduceLeDiff, Nat.reduceMul, layAt, Nat.reduceLT, Nat.reduceEqDiff, setParams, Int.reduceLT, Int.reduceLE, Int.reduceGT, Int.reduceGE, Int.reduceEq, Int.reduceNe]
  refine Z_is (take_h (n := n + 7) (k := 4) (by omega) (by omega) (by omega) (by omega) b2 q2) ?_
  rintro w h9 ⟨rfl, q3⟩
  have t2 := tk_lt (k := 4) b2
  have b3 := tk_by (k := 4) b2
  have c3 := Nat.le_trans (tk_len (k := 4) (s := (a1 B).2)) c2
  simp only [Nat.reducePow] at t2
  have w2 : IntKind.u32.wrap ((tk 4 ((a1 B).2)).1 : Int) = ((tk 4 ((a1 B).2)).1 : Int) := u32_of (by omega)
  replace q3 : Has ro h9 (Tk fb lb (a2 B).2 :: Ob rb (.cells (pc pz) 1 false) :: R) := q3
  change ∀ b ∈ (a2 B).2.1, b < 256 at b3
  change (a2 B).2.1.length ≤ B.length at c3
  change IntKind.u32.wrap ((a2 B).1 : Int) = ((a2 B).1 : Int) at w2
  change (a2 B).1 < _ at t2
  simp (disch := first | assumption | omega | (simp only [wkD, oneCell, Option.isSome_some, *]; done) | (simp only [wkE, ne_eq]; omega)) only [show tk 4 ((a1 B).2) = a2 B from rfl, w2, wkF, X_region, X_seq, X_block, X_loop, X_cond, Y_box, Y_un, Y_store, Y_append, Y_makeMap, Y_buildSlice, ibin_shl, ibin_shr, ibin_and, ↓reduceIte, reduceCtorEq, oneCell, setAt, readN, Nat.reduceAdd, Nat.reduceLeDiff, Nat.reduceMul, layAt, Nat.reduceLT, Nat.reduceEqDiff, setParams, Int.reduceLT, Int.reduceLE, Int.reduceGT, Int.reduceGE, Int.reduceEq, Int.reduceNe]
  refine Z_is (take_h (n := n + 7) (k := 4) (by omega) (by omega) (by omega) (by omega) b3 q3) ?_
  rintro w h10 ⟨rfl, q4⟩
  have t3 := tk_lt (k := 4) b3
  have b4 := tk_by (k := 4) b3
  have c4 := Nat.le_trans (tk_len (k := 4) (s := (a2 B).2)) c3
  simp only [Nat.reducePow] at t3
  have w3 : IntKind.u32.wrap ((tk 4 ((a2 B).2)).1 : Int) = ((tk 4 ((a2 B).2)).1 : Int) := u32_of (by omega)
  replace q4 : Has ro h10 (Tk fb lb (a3 B).2 :: Ob rb (.cells (pc pz) 1 false) :: R) := q4
  change ∀ b ∈ (a3 B).2.1, b < 256 at b4
  change (a3 B).2.1.length ≤ B.length at c4
  change IntKind.u32.wrap ((a3 B).1 : Int) = ((a3 B).1 : Int) at w3
  change (a3 B).1 < _ at t3
  simp (disch := first | assumption | omega | (simp only [wkD, oneCell, Option.isSome_some, *]; done) | (simp only [wkE, ne_eq]; omega)) only [show tk 4 ((a2 B).2) = a3 B from rfl, w3, wkF, X_region, X_seq, X_block, X_loop, X_cond, Y_box, Y_un, Y_store, Y_append, Y_makeMap, Y_buildSlice, ibin_shl, ibin_shr, ibin_and, ↓reduceIte, reduceCtorEq, oneCell, setAt, readN, Nat.reduceAdd, Nat.reduceLeDiff, Nat.reduceMul, layAt, Nat.reduceLT, Nat.reduceEqDiff, setParams, Int.reduceLT, Int.reduceLE, Int.reduceGT, Int.reduceGE, Int.reduceEq, Int.reduceNe]
  refine Z_is (take_h (n := n + 7) (k := 4) (by omega) (by omega) (by omega) (by omega) b4 q4) ?_
  rintro w h11 ⟨rfl, q5⟩
  have t4 := tk_lt (k := 4) b4
  have b5 := tk_by (k := 4) b4
  have c5 := Nat.le_trans (tk_len (k := 4) (s := (a3 B).2)) c4
  simp only [Nat.reducePow] at t4
  have w4 : IntKind.u32.wrap ((tk 4 ((a3 B).2)).1 : Int) = ((tk 4 ((a3 B).2)).1 : Int) := u32_of (by omega)
  replace q5 : Has ro h11 (Tk fb lb (a4 B).2 :: Ob rb (.cells (pc pz) 1 false) :: R) := q5
  change ∀ b ∈ (a4 B).2.1, b < 256 at b5
  change (a4 B).2.1.length ≤ B.length at c5
  change IntKind.u32.wrap ((a4 B).1 : Int) = ((a4 B).1 : Int) at w4
  change (a4 B).1 < _ at t4
  simp (disch := first | assumption | omega | (simp only [wkD, oneCell, Option.isSome_some, *]; done) | (simp only [wkE, ne_eq]; omega)) only [show tk 4 ((a3 B).2) = a4 B from rfl, w4, wkF, X_region, X_seq, X_block, X_loop, X_cond, Y_box, Y_un, Y_store, Y_append, Y_makeMap, Y_buildSlice, ibin_shl, ibin_shr, ibin_and, ↓reduceIte, reduceCtorEq, oneCell, setAt, readN, Nat.reduceAdd, Nat.reduceLeDiff, Nat.reduceMul, layAt, Nat.reduceLT, Nat.reduceEqDiff, setParams, Int.reduceLT, Int.reduceLE, Int.reduceGT, Int.reduceGE, Int.reduceEq, Int.reduceNe]
  refine Z_is (take_h (n := n + 7) (k := 4) (by omega) (by omega) (by omega) (by omega) b5 q5) ?_
  rintro w h12 ⟨rfl, q6⟩
  have t5 := tk_lt (k := 4) b5
  have b6 := tk_by (k := 4) b5
  have c6 := Nat.le_trans (tk_len (k := 4) (s := (a4 B).2)) c5
  simp only [Nat.reducePow] at t5
  have w5 : IntKind.u32.wrap ((tk 4 ((a4 B).2)).1 : Int) = ((tk 4 ((a4 B).2)).1 : Int) := u32_of (by omega)
  replace q6 : Has ro h12 (Tk fb lb (a5 B).2 :: Ob rb (.cells (pc pz) 1 false) :: R) := q6
  change ∀ b ∈ (a5 B).2.1, b < 256 at b6
  change (a5 B).2.1.length ≤ B.length at c6
  change IntKind.u32.wrap ((a5 B).1 : Int) = ((a5 B).1 : Int) at w5
  change (a5 B).1 < _ at t5
  simp (disch := first | assumption | omega | (simp only [wkD, oneCell, Option.isSome_some, *]; done) | (simp only [wkE, ne_eq]; omega)) only [show tk 4 ((a4 B).2) = a5 B from rfl, w5, wkF, X_region, X_seq, X_block, X_loop, X_cond, Y_un, Y_store, Y_append, Y_makeMap, Y_buildSlice, ibin_shl, ibin_shr, ibin_and, ↓reduceIte, reduceCtorEq, oneCell, setAt, readN, Nat.reduceAdd, Nat.reduceLeDiff, Nat.reduceMul, layAt, Nat.reduceLT, Nat.reduceEqDiff, setParams, Int.reduceLT, Int.reduceLE, Int.reduceGT, Int.reduceGE, Int.reduceEq, Int.reduceNe]
  refine Y_boxO q6 ?_
  intro pb h13 O13 e13
  replace O13 : Has ro h13 (Ob pb (.cells (pc pz) 1 false) :: Tk fb lb (a5 B).2 :: Ob rb (.cells (pc pz) 1 false) :: R) := O13
  have g3 := O13.get 0 rfl
  have p3 := O13.can 0 rfl
  have O14 := O13.set 0 rfl (.cells (pc ⟨(a0 B).1, (a1 B).1, (a2 B).1, (a3 B).1, (a4 B).1, (a5 B).1, mz 0⟩) 1 false)
  simp only [List.set_cons_zero] at O14
  have hs3 : setAt (pc pz) 0 [Value.int .i64 ((a0 B).1 : Int), .int .i64 ((a1 B).1 : Int), .int .u32 ((a2 B).1 : Int), .int .u32 ((a3 B).1 : Int), .int .u32 ((a4 B).1 : Int), .int .u32 ((a5 B).1 : Int), .int .i64 0, .int .i64 0, .int .u32 0, .int .u64 0, .int .i64 0, .int .i64 0, .int .i64 0, .int .i64 0, .slice none 0 0] = pc ⟨(a0 B).1, (a1 B).1, (a2 B).1, (a3 B).1, (a4 B).1, (a5 B).1, mz 0⟩ := by
    simp [setAt, pc, mc, mz, nilS]
  simp (disch := first | assumption | omega | (simp only [wkD, oneCell, Option.isSome_some, *]; done) | (simp only [wkE, ne_eq]; omega)) only [cellsOf_agg, g3, p3, hs3, pc_len, wkF, X_region, X_block, X_loop, X_cond, Y_box, Y_un, Y_store, Y_append, Y_makeMap, Y_buildSlice, ibin_shl, ibin_shr, ibin_and, ↓reduceIte, reduceCtorEq, oneCell, readN, Nat.reduceAdd, Nat.reduceLeDiff, Nat.reduceMul, layAt, Nat.reduceLT, Nat.reduceEqDiff, setParams, Int.reduceLT, Int.reduceLE, Int.reduceGT, Int.reduceGE, Int.reduceEq, Int.reduceNe]
  generalize h13.setB pb (.cells (pc ⟨(a0 B).1, (a1 B).1, (a2 B).1, (a3 B).1, (a4 B).1, (a5 B).1, mz 0⟩) 1 false) = h14 at O14 ⊢
  clear O13 g3 p3 hs3 e13 q0 q1 q2 q3 q4 q5 q6
  rw [X_seq]
  have hmk : { mz 0 with cl := nilS } = mz 0 := rfl
  refine X_cut0 (fun s => ∃ cv : Value, s.tmps.length = 57 ∧ s.tmps.getD 2 undefV = .pointer (some ⟨rb, 0, none⟩) ∧ s.tmps.getD 4 undefV = .pointer (some ⟨lb, 0, none⟩) ∧ s.tmps.getD 5 undefV = .pointer (some ⟨fb, 0, none⟩) ∧ s.tmps.getD 7 undefV = .pointer (some ⟨pb, 0, none⟩) ∧ Has ro s.h (Sc 2 cc cv (readS B).2.1 :: Tk fb lb (readS B).2.2 :: Ob pb (.cells (pc { (readS B).1 with m := { (readS B).1.m with cl := cv } }) 1 false) :: Ob rb (.cells (pc pz) 1 false) :: R)) ?_ ?_
  · rw [X_seq]
    simp (disch := first | assumption | omega | (simp only [wkD, oneCell, Option.isSome_some, *]; done) | (simp only [wkE, ne_eq]; omega)) only [wkF, X_region, X_seq, X_block, X_loop, X_cond, Y_box, Y_un, Y_store, Y_append, Y_makeMap, Y_buildSlice, ibin_shl, ibin_shr, ibin_and, ↓reduceIte, reduceCtorEq, oneCell, setAt, readN, Nat.reduceAdd, Nat.reduceLeDiff, Nat.reduceMul, layAt, Nat.reduceLT, Nat.reduceEqDiff, setParams, Int.reduceLT, Int.reduceLE, Int.reduceGT, Int.reduceGE, Int.reduceEq, Int.reduceNe]
    refine Z_is (take_h (n := n + 7) (k := 1) (by omega) (by omega) (by omega) (by omega) b6 (O14.at 1 rfl)) ?_
    rintro w h15 ⟨rfl, O15⟩
    replace O15 : Has ro h15 (Tk fb lb (a6 B).2 :: Ob pb (.cells (pc ⟨(a0 B).1, (a1 B).1, (a2 B).1, (a3 B).1, (a4 B).1, (a5 B).1, mz 0⟩) 1 false) :: Ob rb (.cells (pc pz) 1 false) :: R) := O15
    have t6 := tk_lt (k := 1) b6
    have b7 := tk_by (k := 1) b6
    have c7 := Nat.le_trans (tk_len (k := 1) (s := (a5 B).2)) c6
    simp only [Nat.reducePow] at t6
    change ∀ b ∈ (a6 B).2.1, b < 256 at b7
    change (a6 B).2.1.length ≤ B.length at c7
    change (a6 B).1 < _ at t6
    have w6 : IntKind.i64.wrap ((a6 B).1 : Int) = ((a6 B).1 : Int) := wrap_i64 (by omega) (by omega)
    by_cases hk : 1 ≤ ((a6 B).1 : Int) ∧ ((a6 B).1 : Int) ≤ 11
    · have i1 := fun n h => in_t (n := n) (h := h) hk
      simp (disch := first | assumption | omega | (simp only [wkD, oneCell, Option.isSome_some, *]; done) | (simp only [wkE, ne_eq]; omega)) only [show tk 1 ((a5 B).2) = a6 B from rfl, w6, i1, wkF, X_region, X_seq, X_block, X_loop, X_cond, Y_box, Y_un, Y_store, Y_append, Y_makeMap, Y_buildSlice, ibin_shl, ibin_shr, ibin_and, ↓reduceIte, reduceCtorEq, oneCell, setAt, readN, Nat.reduceAdd, Nat.reduceLeDiff, Nat.reduceMul, layAt, Nat.reduceLT, Nat.reduceEqDiff, setParams, Int.reduceLT, Int.reduceLE, Int.reduceGT, Int.reduceGE, Int.reduceEq, Int.reduceNe]
      refine Z_is (message_h (n := n + 5) hL (by omega) hk.1 hk.2 b7 (by omega) O15) ?_
      rintro w h16 ⟨cv, rfl, O16⟩
      replace O16 : Has ro h16 (Sc 2 cc cv (msgS (a6 B).1 (a6 B).2).2.1 :: Tk fb lb (msgS (a6 B).1 (a6 B).2).2.2 :: Ob pb (.cells (pc ⟨(a0 B).1, (a1 B).1, (a2 B).1, (a3 B).1, (a4 B).1, (a5 B).1, mz 0⟩) 1 false) :: Ob rb (.cells (pc pz) 1 false) :: R) := O16
      have em : msgO ((a6 B).1 : Int) (a6 B).2 = msgS (a6 B).1 (a6 B).2 := if_pos hk
      have er : readS B = (⟨(a0 B).1, (a1 B).1, (a2 B).1, (a3 B).1, (a4 B).1, (a5 B).1, (msgS (a6 B).1 (a6 B).2).1⟩, (msgS (a6 B).1 (a6 B).2).2.1, (msgS (a6 B).1 (a6 B).2).2.2) := by
        unfold readS
        rw [em]
      rw [er]
      obtain ⟨z1, z2⟩ := scOne O16 0 rfl
      have g3 := O16.get 2 rfl
      have p3 := O16.can 2 rfl
      have hone : (mc { (msgS (a6 B).1 (a6 B).2).1 with cl := cv }).all oneCell = true := by
        simp only [mc, List.all_cons, z2, List.all_nil, Bool.and_true]
        rfl
      have hs5 := set_msg ⟨(a0 B).1, (a1 B).1, (a2 B).1, (a3 B).1, (a4 B).1, (a5 B).1, mz 0⟩ { (msgS (a6 B).1 (a6 B).2).1 with cl := cv }
      simp (disch := first | assumption | omega | (simp only [wkD, oneCell, Option.isSome_some, *]; done) | (simp only [wkE, ne_eq]; omega)) only [mv, g3, p3, hs5, mc_len, pc_len, cellsOf_agg, hone, wkF, X_region, X_seq, X_block, X_loop, X_cond, Y_box, Y_un, Y_store, Y_append, Y_makeMap, Y_buildSlice, ibin_shl, ibin_shr, ibin_and, ↓reduceIte, reduceCtorEq, readN, Nat.reduceAdd, Nat.reduceLeDiff, Nat.reduceMul, layAt, Nat.reduceLT, Nat.reduceEqDiff, setParams, Int.reduceLT, Int.reduceLE, Int.reduceGT, Int.reduceGE, Int.reduceEq, Int.reduceNe]
      have O17 := O16.set 2 rfl (.cells (pc { (⟨(a0 B).1, (a1 B).1, (a2 B).1, (a3 B).1, (a4 B).1, (a5 B).1, mz 0⟩ : Pkt) with m := { (msgS (a6 B).1 (a6 B).2).1 with cl := cv } }) 1 false)
      simp only [List.set_cons_succ, List.set_cons_zero] at O17
      exact mid_in ⟨cv, rfl, rfl, rfl, rfl, rfl, O17⟩
    · have i1 := fun n h => in_f (n := n) (h := h) hk
      simp (disch := first | assumption | omega | (simp only [wkD, oneCell, Option.isSome_some, *]; done) | (simp only [wkE, ne_eq]; omega)) only [show tk 1 ((a5 B).2) = a6 B from rfl, w6, i1, wkF, X_region, X_seq, X_block, X_loop, X_cond, Y_box, Y_un, Y_store, Y_append, Y_makeMap, Y_buildSlice, ibin_shl, ibin_shr, ibin_and, ↓reduceIte, reduceCtorEq, oneCell, setAt, readN, Nat.reduceAdd, Nat.reduceLeDiff, Nat.reduceMul, layAt, Nat.reduceLT, Nat.reduceEqDiff, setParams, Int.reduceLT, Int.reduceLE, Int.reduceGT, Int.reduceGE, Int.reduceEq, Int.reduceNe]
      have em : msgO ((a6 B).1 : Int) (a6 B).2 = (mz 0, [], (a6 B).2) := if_neg hk
      have er : readS B = (⟨(a0 B).1, (a1 B).1, (a2 B).1, (a3 B).1, (a4 B).1, (a5 B).1, mz 0⟩, [], (a6 B).2) := by
        unfold readS
        rw [em]
      rw [er]
      exact mid_in ⟨nilS, rfl, rfl, rfl, rfl, rfl, Has.scNil O15⟩
  clear O14
  obtain ⟨P, l, st, hPL⟩ : ∃ P l st, readS B = (P, l, st) := ⟨_, _, _, rfl⟩
  have hRd : RdOk B ↔ st = ([], true) ∧ OkP P l := by unfold RdOk; rw [hPL]
  have hWl : l.length ≤ 1300 := by
    have e : l = (msgO (a6 B).1 (a6 B).2).2.1 := by
      have := congrArg (fun x => x.2.1) hPL
      exact this.symm
    rw [e]
    have b7 := tk_by (k := 1) b6
    unfold msgO
    split
    · have := (fold_inv (N := (a6 B).2.1.length) (F := row (a6 B).1) (c := 0) (x := (mz (a6 B).1, [], (a6 B).2)) ⟨b7, Nat.le_refl _, Nat.le_refl _⟩).2.2
      rw [row_len] at this
      exact Nat.le_trans this (by omega)
    · exact Nat.zero_le _
  rw [hRd, hPL]
  clear hRd
  rintro tm h20 ⟨cv, hlen_, g2, g4, g5, g7, O⟩
  simp only at g2 g4 g5 g7 O
  obtain ⟨w, hg_, rfl⟩ := explode hlen_
  simp only [hg_] at g2 g4 g5 g7
  clear hlen_ hg_
  replace O : Has ro h20 (Sc 2 cc cv l :: Tk fb lb st :: Ob pb (.cells (pc { P with m := { P.m with cl := cv } }) 1 false) :: Ob rb (.cells (pc pz) 1 false) :: R) := O
  obtain ⟨L, f⟩ := st
  obtain ⟨pre, u, O2⟩ := Has.tk.1 (O.at 1 rfl)
  replace O2 : Has ro h20 (Ob fb (.cells [.bool f] 1 false) :: Ob lb (.cells [sub u pre.length] 1 false) :: Sc 1 bc u (pre ++ L) :: Sc 2 cc cv l :: Ob pb (.cells (pc { P with m := { P.m with cl := cv } }) 1 false) :: Ob rb (.cells (pc pz) 1 false) :: R) := O2
  obtain ⟨pl, cl', hsub, -⟩ := (vw_sub (O2.vw 2 rfl)).len
  have gf : readC (h20.get fb) 0 1 = some [.bool f] := by rw [O2.get 0 rfl]; rfl
  have gl : readC (h20.get lb) 0 1 = some [.slice pl L.length cl'] := by rw [O2.get 1 rfl, hsub]; rfl
  obtain ⟨r0, r1, r2, r3, r4, r5, r6, r7⟩ := rdp (O2.get 4 rfl)
  clear r0 r1 r2 r3 r4 r5 r6
  have gr := O2.get 5 rfl
  have pr_ := O2.can 5 rfl
  have hsz : setAt (pc pz) 0 (pc pz) = pc pz := by simp [setAt, pc, mc]
  have honz : (pc pz).all oneCell = true := rfl
  have hpz : [Value.int .i64 0, .int .i64 0, .int .u32 0, .int .u32 0, .int .u32 0, .int .u32 0, .int .i64 0, .int .i64 0, .int .u32 0, .int .u64 0, .int .i64 0, .int .i64 0, .int .i64 0, .int .i64 0, .slice none 0 0] = pc pz := rfl
  cases f with
  | false =>
    simp (disch := first | assumption | omega | (simp only [wkD, oneCell, Option.isSome_some, *]; done) | (simp only [wkE, ne_eq]; omega)) only [g2, g4, g5, g7, gf, gr, pr_, hpz, hsz, honz, pc_len, cellsOf_agg, wkF, X_region, X_seq, X_block, X_loop, X_cond, Y_box, Y_un, Y_store, Y_append, Y_makeMap, Y_buildSlice, ibin_shl, ibin_shr, ibin_and, ↓reduceIte, reduceCtorEq, readN, Nat.reduceAdd, Nat.reduceLeDiff, Nat.reduceMul, layAt, Nat.reduceLT, Nat.reduceEqDiff, setParams, Int.reduceLT, Int.reduceLE, Int.reduceGT, Int.reduceGE, Int.reduceEq, Int.reduceNe]
    have O3 := O2.set 5 rfl (.cells (pc pz) 1 false)
    simp only [List.set_cons_succ, List.set_cons_zero] at O3
    refine leafO _ (answer2 _ _ _ _ (cellN O3 5 rfl rfl rfl) rfl) (Or.inr ⟨fun h => (by cases h.1), rfl, O3.drop.drop.drop.drop.drop.drop⟩)
  | true =>
    by_cases hL0 : 0 < L.length
    · have hL0' : (L.length : Int) > 0 := by omega
      simp (disch := first | assumption | omega | (simp only [wkD, oneCell, Option.isSome_some, *]; done) | (simp only [wkE, ne_eq]; omega)) only [g2, g4, g5, g7, gf, gl, hL0', gr, pr_, hpz, hsz, honz, pc_len, cellsOf_agg, wkF, X_region, X_seq, X_block, X_loop, X_cond, Y_box, Y_un, Y_store, Y_append, Y_makeMap, Y_buildSlice, ibin_shl, ibin_shr, ibin_and, ↓reduceIte, reduceCtorEq, readN, Nat.reduceAdd, Nat.reduceLeDiff, Nat.reduceMul, layAt, Nat.reduceLT, Nat.reduceEqDiff, setParams, Int.reduceLT, Int.reduceLE, Int.reduceGT, Int.reduceGE, Int.reduceEq, Int.reduceNe]
      have O3 := O2.set 5 rfl (.cells (pc pz) 1 false)
      simp only [List.set_cons_succ, List.set_cons_zero] at O3
      refine leafO _ (answer2 _ _ _ _ (cellN O3 5 rfl rfl rfl) rfl) (Or.inr ⟨fun h => ?_, rfl, O3.drop.drop.drop.drop.drop.drop⟩)
      have := h.1
      simp only [Prod.mk.injEq, and_true] at this
      rw [this] at hL0
      exact absurd hL0 (by simp)
    · have hL0' : ¬ (L.length : Int) > 0 := by omega
      have hLn : L = [] := List.eq_nil_of_length_eq_zero (by omega)
      simp (disch := first | assumption | omega | (simp only [wkD, oneCell, Option.isSome_some, *]; done) | (simp only [wkE, ne_eq]; omega)) only [g2, g4, g5, g7, gf, gl, hL0', r7, agg_pv, wkF, X_region, X_seq, X_block, X_loop, X_cond, Y_box, Y_un, Y_store, Y_append, Y_makeMap, Y_buildSlice, ibin_shl, ibin_shr, ibin_and, ↓reduceIte, reduceCtorEq, oneCell, setAt, readN, Nat.reduceAdd, Nat.reduceLeDiff, Nat.reduceMul, layAt, Nat.reduceLT, Nat.reduceEqDiff, setParams, Int.reduceLT, Int.reduceLE, Int.reduceGT, Int.reduceGE, Int.reduceEq, Int.reduceNe]
      refine Z_is (checkP_h (n := n + 1) (p := { P with m := { P.m with cl := cv } }) (l := l) hL (by omega) hWl (fun h O => O.vw 0 rfl) (O2.at 3 rfl)) ?_
      rintro w h21 ⟨rfl, O4⟩
      replace O4 : Has ro h21 (Sc 2 cc cv l :: Ob fb (.cells [.bool true] 1 false) :: Ob lb (.cells [sub u pre.length] 1 false) :: Sc 1 bc u (pre ++ L) :: Ob pb (.cells (pc { P with m := { P.m with cl := cv } }) 1 false) :: Ob rb (.cells (pc pz) 1 false) :: R) := O4
      have gr := O4.get 5 rfl
      have pr_ := O4.can 5 rfl
      by_cases hok : OkP P l
      · rw [code_t ((okP_cl P l cv).2 hok)]
        obtain ⟨r0, r1, r2, r3, r4, r5, r6, r7⟩ := rdp (O4.get 4 rfl)
        clear r0 r1 r2 r3 r4 r5 r6
        obtain ⟨z1, z2⟩ := scOne O4 0 rfl
        have hone : (pc { P with m := { P.m with cl := cv } }).all oneCell = true := by
          simp only [pc, mc, List.all_cons, z2, List.all_nil, Bool.and_true]
          rfl
        have hs5 : setAt (pc pz) 0 (pc { P with m := { P.m with cl := cv } }) = pc { P with m := { P.m with cl := cv } } := by simp [setAt, pc, mc]
        simp (disch := first | assumption | omega | (simp only [wkD, oneCell, Option.isSome_some, *]; done) | (simp only [wkE, ne_eq]; omega)) only [g2, g4, g5, g7, r7, gr, pr_, hs5, hone, pc_len, cellsOf_agg, wkF, X_region, X_seq, X_block, X_loop, X_cond, Y_box, Y_un, Y_store, Y_append, Y_makeMap, Y_buildSlice, ibin_shl, ibin_shr, ibin_and, ↓reduceIte, reduceCtorEq, readN, Nat.reduceAdd, Nat.reduceLeDiff, Nat.reduceMul, layAt, Nat.reduceLT, Nat.reduceEqDiff, setParams, Int.reduceLT, Int.reduceLE, Int.reduceGT, Int.reduceGE, Int.reduceEq, Int.reduceNe]
        have O5 := O4.set 5 rfl (.cells (pc { P with m := { P.m with cl := cv } }) 1 false)
        simp only [List.set_cons_succ, List.set_cons_zero] at O5
        refine leafO _ (answer2 _ _ _ _ (cellN O5 5 rfl rfl rfl) rfl) (Or.inl ⟨⟨by rw [hLn], hok⟩, cv, rfl, ?_⟩)
        exact (((((O5.rid 5 rfl).rid 4 rfl).rid 3 rfl).rid 2 rfl).rid 1 rfl)
      · rw [code_f (fun h => hok ((okP_cl P l cv).1 h))]
        simp (disch := first | assumption | omega | (simp only [wkD, oneCell, Option.isSome_some, *]; done) | (simp only [wkE, ne_eq]; omega)) only [g2, g4, g5, g7, gr, pr_, hpz, hsz, honz, pc_len, cellsOf_agg, wkF, X_region, X_seq, X_block, X_loop, X_cond, Y_box, Y_un, Y_store, Y_append, Y_makeMap, Y_buildSlice, ibin_shl, ibin_shr, ibin_and, ↓reduceIte, reduceCtorEq, readN, Nat.reduceAdd, Nat.reduceLeDiff, Nat.reduceMul, layAt, Nat.reduceLT, Nat.reduceEqDiff, setParams, Int.reduceLT, Int.reduceLE, Int.reduceGT, Int.reduceGE, Int.reduceEq, Int.reduceNe]
        have O5 := O4.set 5 rfl (.cells (pc pz) 1 false)
        simp only [List.set_cons_succ, List.set_cons_zero] at O5
        refine leafO _ (answer2 _ _ _ _ (cellN O5 5 rfl rfl rfl) rfl) (Or.inr ⟨fun h => hok h.2, rfl, O5.drop.drop.drop.drop.drop.drop⟩)
end
end Go.Proofs.YtpodmgbnldmlcaaDoor
