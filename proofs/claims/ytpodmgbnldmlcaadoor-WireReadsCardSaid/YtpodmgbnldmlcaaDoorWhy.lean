/-
  Bytes without their complements.
-/
import Derived.Test.YtpodmgbnldmlcaaDoorFk
import Derived.Test.YtpodmgbnldmlcaaDoorStr
namespace Go.Proofs.YtpodmgbnldmlcaaDoor
open Go Go.Ideal Go.ChangeShapes Go.RowKit
set_option maxHeartbeats 0
set_option linter.unusedSimpArgs false
set_option linter.unusedVariables false
set_option maxRecDepth 100000
attribute [local irreducible] callV T.All T.Is run
theorem env32 : env 32 = some ir32 := rfl
theorem env39 : env 39 = some ir39 := rfl
theorem env42 : env 42 = some ir42 := rfl
/-- The bytes ahead of their complements, if all are. -/
def un : List Nat → Option (List Nat)
  | [] => some []
  | [_] => none
  | x :: y :: r => if x = 255 - y then (un r).map (x :: ·) else none
theorem un_comp : ∀ {A : List Nat}, (∀ b ∈ A, b < 256) → ∀ r, un (comp A ++ r) = (un r).map (A ++ ·)
  | [], _, r => by
    show un r = _
    cases un r <;> rfl
  | x :: A, h, r => by
    have hx := h x (by simp)
    have ih := un_comp (A := A) (fun b hb => h b (by simp [hb])) r
    show un (x :: (255 - x) :: (comp A ++ r)) = _
    rw [un, if_pos (by omega), ih]
    cases un r <;> rfl
theorem un_some : ∀ {B A : List Nat}, (∀ b ∈ B, b < 256) → un B = some A → B = comp A
  | [], A, _, h => by cases h; rfl
  | [_], A, _, h => by cases h
  | x :: y :: r, A, hb, h => by
    rw [un] at h
    split at h
    · rename_i e
      rw [Option.map_eq_some_iff] at h
      obtain ⟨A', h1, rfl⟩ := h
      have := un_some (fun b hm => hb b (by simp [hm])) h1
      have hy := hb y (by simp)
      rw [this, e]
      show _ = (255 - y) :: (255 - (255 - y)) :: comp A'
      rw [show 255 - (255 - y) = y by omega]
    · cases h
theorem un_odd : ∀ {B : List Nat}, B.length % 2 = 1 → un B = none
  | [], h => by cases h
  | [_], _ => rfl
  | x :: y :: r, h => by
    rw [un]
    split
    · rw [un_odd (B := r) (by simp only [List.length_cons] at h; omega)]; rfl
    · rfl

def kAsg : ICode := (.region [
     ⟨(some 5), .move (.tmp 12), none, [], true⟩])
def kBody : ICode := (.block 1 (.seq (.seq (.drawn [
     ⟨(some 13), .move (.tmp 5), none, [], false⟩,
     ⟨(some 14), .indexAddr 1 (.tmp 13) (.const (.int .i64 0)), none, [0], false⟩,
     ⟨(some 15), .load none (.tmp 14), none, [1, 0], false⟩,
     ⟨(some 16), .move (.tmp 5), none, [], false⟩,
     ⟨(some 17), .indexAddr 1 (.tmp 16) (.const (.int .i64 1)), none, [3], false⟩,
     ⟨(some 18), .load none (.tmp 17), none, [4, 3], false⟩,
     ⟨(some 19), .un .xor (.tmp 18), none, [5, 4, 3], false⟩,
     ⟨(some 20), .bin .neq (.tmp 15) (.tmp 19), none, [2, 6, 1, 0, 5, 4, 3], true⟩])
   (.cond (.tmp 20)
    (.seq (.region [
      ⟨none, .store 1 (.tmp 2) (.const (.slice none 0 0)), none, [], true⟩,
      ⟨none, .store 1 (.tmp 3) (.const (.bool false)), none, [], true⟩])
    .ret)
    .skip))
   (.drawn [
     ⟨(some 21), .load none (.tmp 4), none, [], false⟩,
     ⟨(some 22), .move (.tmp 5), none, [], false⟩,
     ⟨(some 23), .indexAddr 1 (.tmp 22) (.const (.int .i64 0)), none, [1], false⟩,
     ⟨(some 24), .load none (.tmp 23), none, [2, 1], false⟩,
     ⟨(some 25), .buildSlice 1 1 [(.int .u8 0)] [(0, (.tmp 24))], none, [3, 2, 1], false⟩,
     ⟨(some 26), .append 1 1 (.tmp 21) (.tmp 25), none, [0, 4, 3, 2, 1], true⟩,
     ⟨none, .store 1 (.tmp 4) (.tmp 26), none, [5, 0, 1, 2, 3, 4], true⟩])))
def kLoop (D : Nat) (tm : List Value) : ILoop := { state := .ready, pending := .normal, tmps := tm, params := [12], assign := kAsg, body := kBody, defers := D }
section
variable {ro : Nat → Option (List Value × Nat)} {h : Heap} {R : List Rs} {B : List Nat}
/-- One pair. -/
theorem whole_y {k D lb rb fb vb b o : Nat} {sp : Option Nat} {x y : Nat} {t : List Nat} {tl : List Value} (htl : tl.length = 28) (ht2 : tl.getD 2 undefV = .pointer (some ⟨rb, 0, none⟩)) (ht3 : tl.getD 3 undefV = .pointer (some ⟨fb, 0, none⟩)) (ht4 : tl.getD 4 undefV = .pointer (some ⟨vb, 0, none⟩)) (hx : x < 256) (hy : y < 256) (hT : t.length ≤ 100000)
    (V : ∀ h, Has ro h R → readC (h.get b) o 1 = some [.int .u8 (x : Int)] ∧ readC (h.get b) (o + 1) 1 = some [.int .u8 (y : Int)] ∧ (b % 2 = 1 ∨ b < 2 * h.next))
    (O : Has ro h (Ob lb (.loop (kLoop D tl)) :: Ob rb (.cells [nilS] 1 false) :: Ob fb (.cells [.bool false] 1 false) :: Bx vb t :: R)) :
    (callV env (k + 1) (.func (.yield lb) #[] #[]) [.slice (some ⟨b, o, sp⟩) 2 2] h).Is fun q => (x = 255 - y ∧ q.1 = .bool true ∧ Has ro q.2 (Ob lb (.loop (kLoop D tl)) :: Ob rb (.cells [nilS] 1 false) :: Ob fb (.cells [.bool false] 1 false) :: Bx vb (t ++ [x]) :: R)) ∨
      (x ≠ 255 - y ∧ q.1 = .bool false ∧ ∃ lp, lp.state ≠ .busy ∧ lp.pending = .ret ∧ Has ro q.2 (Ob lb (.loop lp) :: Ob rb (.cells [nilS] 1 false) :: Ob fb (.cells [.bool false] 1 false) :: Bx vb t :: R)) := by
  rw [callV_yield]
  obtain ⟨lp, hlp⟩ : ∃ lp, lp = kLoop D tl := ⟨_, rfl⟩
  rw [← hlp] at O ⊢
  have l1 : lp.assign = kAsg := by rw [hlp]; rfl
  have l2 : lp.body = kBody := by rw [hlp]; rfl
  have l3 : lp.params = [12] := by rw [hlp]; rfl
  have l4 : lp.tmps = tl := by rw [hlp]; rfl
  obtain ⟨lq, hB⟩ : ∃ B : ILoop, B = { lp with state := .busy } := ⟨_, rfl⟩
  have l5 : ({ lq with state := .ready, pending := .normal } : ILoop) = lp := by rw [hB, hlp]; rfl
  have l6 : lp.state = .ready := by rw [hlp]; rfl
  clear hlp
  obtain ⟨g, hg_, htl⟩ := explode htl
  rw [hg_] at ht2 ht3 ht4
  clear hg_
  have ht2' : g 2 = .pointer (some ⟨rb, 0, none⟩) := ht2
  have ht3' : g 3 = .pointer (some ⟨fb, 0, none⟩) := ht3
  have ht4' : g 4 = .pointer (some ⟨vb, 0, none⟩) := ht4
  clear ht2 ht3 ht4
  simp only [expand_succ, expand_zero, Nat.reduceAdd, ht2', ht3', ht4'] at htl
  refine round_isO O (by rw [l3]; rfl) l6 ?_
  rw [← hB]
  clear hB
  simp (disch := first | assumption | omega | (simp only [wkD, oneCell, Option.isSome_some, *]; done) | (simp only [wkE, ne_eq]; omega)) only [l1, l3, l4, htl, kAsg, List.nil_append, wkF, X_region, X_seq, X_block, X_loop, X_cond, Y_box, Y_un, Y_store, Y_append, Y_makeMap, Y_buildSlice, ibin_shl, ibin_shr, ibin_and, ↓reduceIte, reduceCtorEq, oneCell, setAt, readN, Nat.reduceAdd, Nat.reduceLeDiff, Nat.reduceMul, layAt, Nat.reduceLT, Nat.reduceEqDiff, setParams, Int.reduceLT, Int.reduceLE, Int.reduceGT, Int.reduceGE, Int.reduceEq, Int.reduceNe]
  refine Is_in ⟨rfl, _, O, fun h3 O3 => ?_⟩
  clear htl l4 O
  obtain ⟨V1, V2, V3⟩ := V _ O3.drop.drop.drop.drop
  have V1' : readC (h3.get b) (o + 0 * 1) 1 = some [.int .u8 (x : Int)] := V1
  have V2' : readC (h3.get b) (o + 1 * 1) 1 = some [.int .u8 (y : Int)] := V2
  have xr := iun_xor8 hy
  simp (disch := first | assumption | omega | (simp only [wkD, oneCell, Option.isSome_some, *]; done) | (simp only [wkE, ne_eq]; omega)) only [l2, kBody, wkF, X_region, X_seq, X_block, X_loop, X_cond, Y_box, Y_un, Y_store, Y_append, Y_makeMap, Y_buildSlice, ibin_shl, ibin_shr, ibin_and, ↓reduceIte, reduceCtorEq, oneCell, setAt, readN, Nat.reduceAdd, Nat.reduceLeDiff, Nat.reduceMul, layAt, Nat.reduceLT, Nat.reduceEqDiff, setParams, Int.reduceLT, Int.reduceLE, Int.reduceGT, Int.reduceGE, Int.reduceEq, Int.reduceNe]
  refine X_plan [] O3.fine ?_
  refine Dp.move ?_
  refine Dp.idx (ii := 0) rfl rfl (by omega) ?_
  refine Dp.load1 rfl V1' (fun k _ => by rw [plan_none]; simp) (fun x hx => by cases hx) ?_
  refine Dp.move ?_
  refine Dp.idx (ii := 1) rfl rfl (by omega) ?_
  refine Dp.load1 rfl V2' (fun k _ => by rw [plan_none]; simp) (fun x hx => by cases hx) ?_
  refine Dp.un (a := .int .u8 (y : Int)) rfl xr ?_
  refine Dp.bin (a := .int .u8 (x : Int)) (b := .int .u8 ((255 - y : Nat) : Int)) rfl rfl (ibin_neq _ _ _) ?_
  refine Dp.nil ?_
  by_cases he : x = 255 - y
  · have he' : (x : Int) = ((255 - y : Nat) : Int) := by omega
    simp (disch := first | assumption | omega | (simp only [wkD, oneCell, Option.isSome_some, *]; done) | (simp only [wkE, ne_eq]; omega)) only [decide_eq_true he', Bool.not_true, wkF, X_region, X_seq, X_block, X_loop, X_cond, Y_box, Y_un, Y_store, Y_append, Y_makeMap, Y_buildSlice, ibin_shl, ibin_shr, ibin_and, ↓reduceIte, reduceCtorEq, oneCell, setAt, readN, Nat.reduceAdd, Nat.reduceLeDiff, Nat.reduceMul, layAt, Nat.reduceLT, Nat.reduceEqDiff, setParams, Int.reduceLT, Int.reduceLE, Int.reduceGT, Int.reduceGE, Int.reduceEq, Int.reduceNe]
    obtain ⟨v, O4⟩ := Has.bx.1 (O3.at 3 rfl)
    replace O4 : Has ro h3 (Ob vb (.cells [v] 1 false) :: Sc 1 bc v t :: Ob lb (.loop lq) :: Ob rb (.cells [nilS] 1 false) :: Ob fb (.cells [.bool false] 1 false) :: R) := O4
    have gv : readC (h3.get vb) 0 1 = some [v] := by rw [O4.get 0 rfl]; rfl
    refine X_plan [] O4.fine ?_
    refine Dp.load1 rfl gv (fun k _ => by rw [plan_none]; simp) (fun x hx => by cases hx) ?_
    refine Dp.move ?_
    refine Dp.idx (ii := 0) rfl rfl (by omega) ?_
    refine Dp.load1 rfl V1' (fun k _ => by rw [plan_none]; simp) (fun x hx => by cases hx) ?_
    refine Dp.buildFree O4 (cs := bc x) rfl ?_
    intro b5 h5 O5 hn5 e5
    have V5 : Vw 1 bc h5 (.slice (some ⟨b5, 0, none⟩) 1 1) [x] := O5.one 0 rfl
    obtain ⟨w, h6, ap, O6⟩ := sc_appendV (bytes := 1) (by omega) bc_len bc_one (O5.at 2 rfl) V5 (by simp only [List.length_cons, List.length_nil]; unfold roomMost; omega) (by omega)
    replace O6 : Has ro h6 (Sc 1 bc w (t ++ [x]) :: Ob b5 (.cells (bc x) 1 false) :: Ob vb (.cells [v] 1 false) :: Ob lb (.loop lq) :: Ob rb (.cells [nilS] 1 false) :: Ob fb (.cells [.bool false] 1 false) :: R) := O6
    obtain ⟨w1, w2⟩ := scOne O6 0 rfl
    refine Dp.appendB ap ?_
    refine Dp.storeB O6 2 rfl rfl (by show (cellsOf w).length = 1; rw [w1]; rfl) (by show 0 + 1 ≤ 1; omega) (by show (cellsOf w).all oneCell = true; rw [w1]; simp [w2]) ?_
    intro h7 O7
    refine Dp.nil ?_
    simp (disch := first | assumption | omega | (simp only [wkD, oneCell, Option.isSome_some, *]; done) | (simp only [wkE, ne_eq]; omega)) only [wkF, X_region, X_seq, X_block, X_loop, X_cond, Y_box, Y_un, Y_store, Y_append, Y_makeMap, Y_buildSlice, ibin_shl, ibin_shr, ibin_and, ↓reduceIte, reduceCtorEq, oneCell, setAt, readN, Nat.reduceAdd, Nat.reduceLeDiff, Nat.reduceMul, layAt, Nat.reduceLT, Nat.reduceEqDiff, setParams, Int.reduceLT, Int.reduceLE, Int.reduceGT, Int.reduceGE, Int.reduceEq, Int.reduceNe]
    replace O7 : Has ro h7 (Sc 1 bc w (t ++ [x]) :: Ob b5 (.cells (bc x) 1 false) :: Ob vb (.cells (setAt [v] 0 (cellsOf w)) 1 false) :: Ob lb (.loop lq) :: Ob rb (.cells [nilS] 1 false) :: Ob fb (.cells [.bool false] 1 false) :: R) := O7
    have e1 : setAt [v] 0 (cellsOf w) = [w] := by rw [w1]; rfl
    rw [e1] at O7
    have O8 : Has ro h7 (Bx vb (t ++ [x]) :: Ob lb (.loop lq) :: Ob rb (.cells [nilS] 1 false) :: Ob fb (.cells [.bool false] 1 false) :: R) := Has.bx.2 ⟨w, (O7.rid 1 rfl).at 1 rfl⟩
    refine Is_in ⟨_, _, O8.at 1 rfl, fun h9 O9 => Or.inl ⟨he, rfl, ?_⟩⟩
    replace O9 : Has ro h9 (Ob lb (.loop { lq with state := .ready, pending := .normal }) :: _) := O9
    rw [l5] at O9
    exact (O9.at 1 rfl).at 3 rfl |>.at 3 rfl |>.at 3 rfl
  · have he' : ¬ (x : Int) = ((255 - y : Nat) : Int) := by omega
    have gr := O3.get 1 rfl
    have pr_ := O3.can 1 rfl
    have O4 := O3.set 1 rfl (.cells [nilS] 1 false)
    replace O4 : Has ro _ (Ob lb (.loop lq) :: Ob rb (.cells [nilS] 1 false) :: Ob fb (.cells [.bool false] 1 false) :: Bx vb t :: R) := O4
    have gf := O4.get 2 rfl
    have pf := O4.can 2 rfl
    have O5 := O4.set 2 rfl (.cells [.bool false] 1 false)
    have hn1 : Value.slice none 0 0 = nilS := rfl
    have hc1 : cellsOf nilS = [nilS] := rfl
    have ho1 : oneCell nilS = true := rfl
    have ho2 : oneCell (Value.bool false) = true := rfl
    simp (disch := first | assumption | omega | (simp only [wkD, oneCell, Option.isSome_some, *]; done) | (simp only [wkE, ne_eq]; omega)) only [decide_eq_false he', Bool.not_false, gr, pr_, gf, pf, hn1, hc1, ho1, ho2, wkF, X_region, X_seq, X_block, X_loop, X_cond, Y_box, Y_un, Y_store, Y_append, Y_makeMap, Y_buildSlice, ibin_shl, ibin_shr, ibin_and, ↓reduceIte, reduceCtorEq, setAt, readN, Nat.reduceAdd, Nat.reduceLeDiff, Nat.reduceMul, layAt, Nat.reduceLT, Nat.reduceEqDiff, setParams, Int.reduceLT, Int.reduceLE, Int.reduceGT, Int.reduceGE, Int.reduceEq, Int.reduceNe]
    refine Is_in ⟨_, _, O5, fun h9 O9 => Or.inr ⟨he, rfl, _, ?_, rfl, O9⟩⟩
    intro e; cases e

theorem whole_h {n N c : Nat} {p : Option Addr} (hn : 2000 < n) (hN : B.length ≤ 1500) (hB : ∀ b ∈ B, b < 256) (V : ∀ h, Has ro h R → Vw 1 bc h (.slice p B.length c) B) (O : Has ro h R) :
    (callV env (n + 3) (.func (.func 32) #[] #[]) [.slice p B.length c] h).Is fun q => (∃ v A, q.1 = .tuple #[v, .bool true] ∧ un B = some A ∧ Has ro q.2 (Sc 1 bc v A :: R)) ∨ (q.1 = .tuple #[nilS, .bool false] ∧ un B = none ∧ Has ro q.2 R) := by
  refine call_is env32 ?_
  simp (disch := first | assumption | omega | (simp only [wkD, oneCell, Option.isSome_some, *]; done) | (simp only [wkE, ne_eq]; omega)) only [ir32, List.append_nil, List.nil_append, List.cons_append, List.length_cons, List.length_nil, Nat.reduceAdd, Nat.reduceSub, List.replicate_succ, List.replicate_zero, wkF, X_region, X_seq, X_block, X_loop, X_cond, Y_un, Y_store, Y_append, Y_makeMap, Y_buildSlice, ibin_shl, ibin_shr, ibin_and, ↓reduceIte, reduceCtorEq, oneCell, setAt, readN, Nat.reduceAdd, Nat.reduceLeDiff, Nat.reduceMul, layAt, Nat.reduceLT, Nat.reduceEqDiff, setParams, Int.reduceLT, Int.reduceLE, Int.reduceGT, Int.reduceGE, Int.reduceEq, Int.reduceNe]
  refine Y_boxO O ?_
  intro rb h1 O1 e1
  replace O1 : Has ro h1 (Ob rb (.cells [nilS] 1 false) :: R) := O1
  simp (disch := first | assumption | omega | (simp only [wkD, oneCell, Option.isSome_some, *]; done) | (simp only [wkE, ne_eq]; omega)) only [wkF, X_region, X_seq, X_block, X_loop, X_cond, Y_un, Y_store, Y_append, Y_makeMap, Y_buildSlice, ibin_shl, ibin_shr, ibin_and, ↓reduceIte, reduceCtorEq, oneCell, setAt, readN, Nat.reduceAdd, Nat.reduceLeDiff, Nat.reduceMul, layAt, Nat.reduceLT, Nat.reduceEqDiff, setParams, Int.reduceLT, Int.reduceLE, Int.reduceGT, Int.reduceGE, Int.reduceEq, Int.reduceNe]
  refine Y_boxO O1 ?_
  intro fb h2 O2 e2
  replace O2 : Has ro h2 (Ob fb (.cells [.bool false] 1 false) :: Ob rb (.cells [nilS] 1 false) :: R) := O2
  have hn1 : Value.slice none 0 0 = nilS := rfl
  have hc1 : cellsOf nilS = [nilS] := rfl
  have ho1 : oneCell nilS = true := rfl
  have ho2 : oneCell (Value.bool false) = true := rfl
  by_cases hod : B.length % 2 = 1
  · have ht : (B.length : Int).tmod 2 = 1 := by rw [Int.tmod_eq_emod_of_nonneg (by omega)]; omega
    have gr := O2.get 1 rfl
    have pr_ := O2.can 1 rfl
    have O3 := O2.set 1 rfl (.cells [nilS] 1 false)
    replace O3 : Has ro _ (Ob fb (.cells [.bool false] 1 false) :: Ob rb (.cells [nilS] 1 false) :: R) := O3
    have gf := O3.get 0 rfl
    have pf := O3.can 0 rfl
    have O4 := O3.set 0 rfl (.cells [.bool false] 1 false)
    replace O4 : Has ro _ (Ob fb (.cells [.bool false] 1 false) :: Ob rb (.cells [nilS] 1 false) :: R) := O4
    simp (disch := first | assumption | omega | (simp only [wkD, oneCell, Option.isSome_some, *]; done) | (simp only [wkE, ne_eq]; omega)) only [ht, gr, pr_, gf, pf, hn1, hc1, ho1, ho2, wkF, X_region, X_seq, X_block, X_loop, X_cond, Y_box, Y_un, Y_store, Y_append, Y_makeMap, Y_buildSlice, ibin_shl, ibin_shr, ibin_and, ↓reduceIte, reduceCtorEq, setAt, readN, Nat.reduceAdd, Nat.reduceLeDiff, Nat.reduceMul, layAt, Nat.reduceLT, Nat.reduceEqDiff, setParams, Int.reduceLT, Int.reduceLE, Int.reduceGT, Int.reduceGE, Int.reduceEq, Int.reduceNe]
    exact leafO _ (answer2 _ _ _ _ (cell1 O4 1 rfl rfl) (cell1 O4 0 rfl rfl)) (Or.inr ⟨rfl, un_odd hod, O4.drop.drop⟩)
  have ht : (B.length : Int).tmod 2 = 0 := by rw [Int.tmod_eq_emod_of_nonneg (by omega)]; omega
  simp (disch := first | assumption | omega | (simp only [wkD, oneCell, Option.isSome_some, *]; done) | (simp only [wkE, ne_eq]; omega)) only [ht, wkF, X_region, X_seq, X_block, X_loop, X_cond, Y_un, Y_store, Y_append, Y_makeMap, Y_buildSlice, ibin_shl, ibin_shr, ibin_and, ↓reduceIte, reduceCtorEq, oneCell, setAt, readN, Nat.reduceAdd, Nat.reduceLeDiff, Nat.reduceMul, layAt, Nat.reduceLT, Nat.reduceEqDiff, setParams, Int.reduceLT, Int.reduceLE, Int.reduceGT, Int.reduceGE, Int.reduceEq, Int.reduceNe]
  refine Y_boxO O2 ?_
  intro vb h3 O3 e3
  replace O3 : Has ro h3 (Ob vb (.cells [nilS] 1 false) :: Ob fb (.cells [.bool false] 1 false) :: Ob rb (.cells [nilS] 1 false) :: R) := O3
  clear O O1 O2 e1 e2 e3
  simp (disch := first | assumption | omega | (simp only [wkD, oneCell, Option.isSome_some, *]; done) | (simp only [wkE, ne_eq]; omega)) only [wkF, X_region, X_seq, X_block, X_loop, X_cond, Y_box, Y_un, Y_store, Y_append, Y_makeMap, Y_buildSlice, ibin_shl, ibin_shr, ibin_and, ↓reduceIte, reduceCtorEq, oneCell, setAt, readN, Nat.reduceAdd, Nat.reduceLeDiff, Nat.reduceMul, layAt, Nat.reduceLT, Nat.reduceEqDiff, setParams, Int.reduceLT, Int.reduceLE, Int.reduceGT, Int.reduceGE, Int.reduceEq, Int.reduceNe]
  refine Z_is (R := fun q => ∃ sb nb, q.1 = .func (.func 42) #[] #[.pointer (some ⟨sb, 0, none⟩), .pointer (some ⟨nb, 0, none⟩)] ∧ Has ro q.2 (Ob nb (.cells [.int .i64 2] 1 false) :: Ob sb (.cells [.slice p B.length c] 1 false) :: Ob vb (.cells [nilS] 1 false) :: Ob fb (.cells [.bool false] 1 false) :: Ob rb (.cells [nilS] 1 false) :: R)) ?_ ?_
  · refine call_is env39 ?_
    simp (disch := first | assumption | omega | (simp only [wkD, oneCell, Option.isSome_some, *]; done) | (simp only [wkE, ne_eq]; omega)) only [ir39, List.append_nil, List.nil_append, List.cons_append, List.length_cons, List.length_nil, Nat.reduceAdd, Nat.reduceSub, List.replicate_succ, List.replicate_zero, wkF, X_region, X_seq, X_block, X_loop, X_cond, Y_un, Y_store, Y_append, Y_makeMap, Y_buildSlice, ibin_shl, ibin_shr, ibin_and, ↓reduceIte, reduceCtorEq, oneCell, setAt, readN, Nat.reduceAdd, Nat.reduceLeDiff, Nat.reduceMul, layAt, Nat.reduceLT, Nat.reduceEqDiff, setParams, Int.reduceLT, Int.reduceLE, Int.reduceGT, Int.reduceGE, Int.reduceEq, Int.reduceNe]
    refine Y_boxO O3 ?_
    intro sb h4 O4 e4
    replace O4 : Has ro h4 (Ob sb (.cells [.slice p B.length c] 1 false) :: Ob vb (.cells [nilS] 1 false) :: Ob fb (.cells [.bool false] 1 false) :: Ob rb (.cells [nilS] 1 false) :: R) := O4
    simp (disch := first | assumption | omega | (simp only [wkD, oneCell, Option.isSome_some, *]; done) | (simp only [wkE, ne_eq]; omega)) only [wkF, X_region, X_seq, X_block, X_loop, X_cond, Y_un, Y_store, Y_append, Y_makeMap, Y_buildSlice, ibin_shl, ibin_shr, ibin_and, ↓reduceIte, reduceCtorEq, oneCell, setAt, readN, Nat.reduceAdd, Nat.reduceLeDiff, Nat.reduceMul, layAt, Nat.reduceLT, Nat.reduceEqDiff, setParams, Int.reduceLT, Int.reduceLE, Int.reduceGT, Int.reduceGE, Int.reduceEq, Int.reduceNe]
    refine Y_boxO O4 ?_
    intro nb h5 O5 e5
    replace O5 : Has ro h5 (Ob nb (.cells [.int .i64 2] 1 false) :: Ob sb (.cells [.slice p B.length c] 1 false) :: Ob vb (.cells [nilS] 1 false) :: Ob fb (.cells [.bool false] 1 false) :: Ob rb (.cells [nilS] 1 false) :: R) := O5
    have gn : readC (h5.get nb) 0 1 = some [.int .i64 2] := by rw [O5.get 0 rfl]; rfl
    simp (disch := first | assumption | omega | (simp only [wkD, oneCell, Option.isSome_some, *]; done) | (simp only [wkE, ne_eq]; omega)) only [gn, wkF, X_region, X_seq, X_block, X_loop, X_cond, Y_box, Y_un, Y_store, Y_append, Y_makeMap, Y_buildSlice, ibin_shl, ibin_shr, ibin_and, ↓reduceIte, reduceCtorEq, oneCell, setAt, readN, Nat.reduceAdd, Nat.reduceLeDiff, Nat.reduceMul, layAt, Nat.reduceLT, Nat.reduceEqDiff, setParams, Int.reduceLT, Int.reduceLE, Int.reduceGT, Int.reduceGE, Int.reduceEq, Int.reduceNe]
    exact leaf1 ⟨sb, nb, rfl, O5⟩
  rintro v4 h4 ⟨sb, nb, rfl, O4⟩
  clear O3
  simp (disch := first | assumption | omega | (simp only [wkD, oneCell, Option.isSome_some, *]; done) | (simp only [wkE, ne_eq]; omega)) only [wkF, X_region, X_seq, X_block, X_loop, X_cond, Y_box, Y_un, Y_store, Y_append, Y_makeMap, Y_buildSlice, ibin_shl, ibin_shr, ibin_and, ↓reduceIte, reduceCtorEq, oneCell, setAt, readN, Nat.reduceAdd, Nat.reduceLeDiff, Nat.reduceMul, layAt, Nat.reduceLT, Nat.reduceEqDiff, setParams, Int.reduceLT, Int.reduceLE, Int.reduceGT, Int.reduceGE, Int.reduceEq, Int.reduceNe]
  refine X_rangeO O4 (g := 42) (first := #[]) rfl ?_
  intro dm lb h5 O5
  obtain ⟨tl, htl, ht2, ht3, ht4, O6⟩ : ∃ tl : List Value, tl.length = 28 ∧ tl.getD 2 undefV = .pointer (some ⟨rb, 0, none⟩) ∧ tl.getD 3 undefV = .pointer (some ⟨fb, 0, none⟩) ∧ tl.getD 4 undefV = .pointer (some ⟨vb, 0, none⟩) ∧ Has ro h5 (Ob vb (.cells [nilS] 1 false) :: Ob lb (.loop (kLoop dm tl)) :: Ob rb (.cells [nilS] 1 false) :: Ob fb (.cells [.bool false] 1 false) :: Ob nb (.cells [.int .i64 2] 1 false) :: Ob sb (.cells [.slice p B.length c] 1 false) :: Ob dm (.deferred true) :: R) :=
    ⟨_, rfl, rfl, rfl, rfl, (O5.at 1 rfl).at 3 rfl |>.at 3 rfl |>.at 5 rfl |>.at 6 rfl |>.at 5 rfl |>.at 6 rfl⟩
  clear O5 O4
  have O7 : Has ro h5 (Ob lb (.loop (kLoop dm tl)) :: Ob rb (.cells [nilS] 1 false) :: Ob fb (.cells [.bool false] 1 false) :: Bx vb [] :: Ob nb (.cells [.int .i64 2] 1 false) :: Ob sb (.cells [.slice p B.length c] 1 false) :: Ob dm (.deferred true) :: R) :=
    (((Has.bx.2 ⟨nilS, (Has.scNil (z := 1) (g := bc) O6).swap2⟩).at 3 rfl).at 3 rfl |>.at 3 rfl)
  clear O6
  refine call_is env42 ?_
  simp (disch := first | assumption | omega | (simp only [wkD, oneCell, Option.isSome_some, *]; done) | (simp only [wkE, ne_eq]; omega)) only [ir42, List.append_nil, List.nil_append, List.cons_append, List.length_cons, List.length_nil, Nat.reduceAdd, Nat.reduceSub, List.replicate_succ, List.replicate_zero, wkF, X_region, X_seq, X_block, X_loop, X_cond, Y_box, Y_un, Y_store, Y_append, Y_makeMap, Y_buildSlice, ibin_shl, ibin_shr, ibin_and, ↓reduceIte, reduceCtorEq, oneCell, setAt, readN, Nat.reduceAdd, Nat.reduceLeDiff, Nat.reduceMul, layAt, Nat.reduceLT, Nat.reduceEqDiff, setParams, Int.reduceLT, Int.reduceLE, Int.reduceGT, Int.reduceGE, Int.reduceEq, Int.reduceNe]
  refine L_is (fun q s => ∃ (j : Nat) (t : List Nat), s.defers = [] ∧ s.tmps.length = 31 ∧ s.tmps.getD 0 undefV = .func (.yield lb) #[] #[] ∧ s.tmps.getD 1 undefV = .pointer (some ⟨sb, 0, none⟩) ∧ s.tmps.getD 2 undefV = .pointer (some ⟨nb, 0, none⟩) ∧ s.tmps.getD 4 undefV = .int .i64 ((2 * j : Nat) : Int) ∧ q = B.length - j ∧ 2 * j ≤ B.length ∧ t.length = j ∧ B.take (2 * j) = comp t ∧ Has ro s.h (Ob lb (.loop (kLoop dm tl)) :: Ob rb (.cells [nilS] 1 false) :: Ob fb (.cells [.bool false] 1 false) :: Bx vb t :: Ob nb (.cells [.int .i64 2] 1 false) :: Ob sb (.cells [.slice p B.length c] 1 false) :: Ob dm (.deferred true) :: R)) B.length ?_ (by omega) ?_
  · exact ⟨0, [], rfl, rfl, rfl, rfl, rfl, rfl, rfl, by omega, rfl, rfl, O7⟩
  clear O7
  rintro q_ tm df h8 ⟨j, t, hd, hlen_, g0, g1, g2, g4, hq, hi, htj, hBt, O⟩
  simp only at hd g0 g1 g2 g4 O
  subst hd
  obtain ⟨w, hg_, rfl⟩ := explode hlen_
  simp only [hg_] at g0 g1 g2 g4
  clear hlen_ hg_
  have gn : readC (h8.get nb) 0 1 = some [.int .i64 2] := by rw [O.get 4 rfl]; rfl
  have gs : readC (h8.get sb) 0 1 = some [.slice p B.length c] := by rw [O.get 5 rfl]; rfl
  have htb : ∀ b ∈ t, b < 256 := by
    intro b hb
    refine hB b ?_
    refine List.mem_of_mem_take (i := 2 * j) ?_
    rw [hBt]
    exact List.mem_flatMap.2 ⟨b, hb, by simp⟩
  have hBs : B = comp t ++ B.drop (2 * j) := by rw [← hBt, List.take_append_drop]
  by_cases hlt : 2 * j < B.length
  · have hlt2 : 2 * j + 1 < B.length := by omega
    have hlt' : ((2 * j : Nat) : Int) < (B.length : Int) := by omega
    have y2 : IntKind.i64.wrap (((2 * j : Nat) : Int) + 2) = ((2 * j + 2 : Nat) : Int) := by rw [wrap_i64 (by omega) (by omega)]; omega
    have Vr : ∀ h, Has ro h R → ∃ (b off : Nat) (sp : Option Nat), p = some ⟨b, off, sp⟩ ∧ B.length ≤ c ∧ spotOk 1 ⟨b, off, sp⟩ = true ∧ readC (h.get b) (off + 2 * j * 1) 1 = some [.int .u8 (B[2 * j] : Int)] ∧ readC (h.get b) (off + 2 * j * 1 + 1) 1 = some [.int .u8 (B[2 * j + 1] : Int)] ∧ (b % 2 = 1 ∨ b < 2 * h.next) := by
      intro h O
      have V0 := V h O
      obtain ⟨b1, o1, s1, c1, hv1, k1⟩ := rdW bc_len V0 (i := 2 * j) hlt
      obtain ⟨b2, o2, s2, c2, hv2, k2⟩ := rdW bc_len V0 (i := 2 * j + 1) hlt2
      obtain ⟨p3, c3, hv3, hc3, k3⟩ := V0
      cases hv3
      cases hv1
      cases hv2
      obtain ⟨b4, o4, s4, A4, B4, z4, t4, e4, q1, q2, q3, q4⟩ := k3 (by omega)
      cases e4
      refine ⟨_, _, _, rfl, hc3, ?_, k1, ?_, q4⟩
      · rcases q1 with rfl | rfl
        · exact spotOk_none
        · exact spotOk_some
      · rw [show o1 + 2 * j * 1 + 1 = o1 + (2 * j + 1) * 1 by omega]; exact k2
    obtain ⟨b, off, sp, hp, hBc, hsp, x0, x1, -⟩ := Vr _ O.drop.drop.drop.drop.drop.drop.drop
    subst hp
    have s1 : vSlice 1 (.slice (some ⟨b, off, sp⟩) B.length c) (some (.int .i64 ((2 * j : Nat) : Int))) none none false = some (.slice (some ⟨b, off + 2 * j * 1, sp⟩) (B.length - 2 * j) (c - 2 * j)) := vSlice_l (by omega) hsp
    have s2 : vSlice 1 (.slice (some ⟨b, off, sp⟩) B.length c) (some (.int .i64 ((2 * j : Nat) : Int))) (some (.int .i64 ((2 * j + 2 : Nat) : Int))) (some (.int .i64 ((2 * j + 2 : Nat) : Int))) true = some (.slice (some ⟨b, off + 2 * j * 1, none⟩) 2 2) := by
      rw [vSlice_lhm (by omega) (by omega) (by omega) hsp, show 2 * j + 2 - 2 * j = 2 by omega]
    have mm : vMinmax false [Value.int .i64 2, Value.int .i64 ((B.length - 2 * j : Nat) : Int)] = some (.int .i64 2) := by
      have h1 : ¬ ((B.length - 2 * j : Nat) : Int) < 2 := by omega
      unfold vMinmax
      simp only [mostOf, beq_self_eq_true, if_true, if_false, h1, Bool.false_eq_true, and_false, false_and, or_false, decide_false, decide_eq_true_eq]
    simp (disch := first | assumption | omega | (simp only [wkD, oneCell, Option.isSome_some, *]; done) | (simp only [wkE, ne_eq]; omega)) only [g0, g1, g2, g4, gs, hlt', wkF, X_region, X_seq, X_block, X_loop, X_cond, Y_box, Y_un, Y_store, Y_append, Y_makeMap, Y_buildSlice, ibin_shl, ibin_shr, ibin_and, ↓reduceIte, reduceCtorEq, oneCell, setAt, readN, Nat.reduceAdd, Nat.reduceLeDiff, Nat.reduceMul, layAt, Nat.reduceLT, Nat.reduceEqDiff, setParams, Int.reduceLT, Int.reduceLE, Int.reduceGT, Int.reduceGE, Int.reduceEq, Int.reduceNe]
    refine X_drawn _ fun an => ?_
    simp (disch := first | assumption | omega | (simp only [wkD, oneCell, Option.isSome_some, *]; done) | (simp only [wkE, ne_eq]; omega)) only [g0, g1, g2, g4, gs, gn, s1, s2, mm, y2, wkF, X_region, X_seq, X_block, X_loop, X_cond, Y_box, Y_un, Y_store, Y_append, Y_makeMap, Y_buildSlice, ibin_shl, ibin_shr, ibin_and, ↓reduceIte, reduceCtorEq, oneCell, setAt, readN, Nat.reduceAdd, Nat.reduceLeDiff, Nat.reduceMul, layAt, Nat.reduceLT, Nat.reduceEqDiff, setParams, Int.reduceLT, Int.reduceLE, Int.reduceGT, Int.reduceGE, Int.reduceEq, Int.reduceNe]
    have hx := hB _ (List.getElem_mem hlt)
    have hy := hB _ (List.getElem_mem hlt2)
    refine Z_is (whole_y (k := n) (R := Ob nb (.cells [.int .i64 2] 1 false) :: Ob sb (.cells [.slice (some ⟨b, off, sp⟩) B.length c] 1 false) :: Ob dm (.deferred true) :: R) (b := b) (o := off + 2 * j * 1) (sp := none) htl ht2 ht3 ht4 hx hy (by omega) (fun h O => by
      obtain ⟨b', o', s', e, -, -, k1, k2, k3⟩ := Vr _ O.drop.drop.drop
      cases e
      exact ⟨k1, k2, k3⟩) O) ?_
    rintro v9 h9 (⟨he, rfl, O9⟩ | ⟨he, rfl, lp, hst, hpd, O9⟩)
    · simp (disch := first | assumption | omega | (simp only [wkD, oneCell, Option.isSome_some, *]; done) | (simp only [wkE, ne_eq]; omega)) only [g0, g1, g2, g4, gs, gn, y2, wkF, X_region, X_seq, X_block, X_loop, X_cond, Y_box, Y_un, Y_store, Y_append, Y_makeMap, Y_buildSlice, ibin_shl, ibin_shr, ibin_and, ↓reduceIte, reduceCtorEq, oneCell, setAt, readN, Nat.reduceAdd, Nat.reduceLeDiff, Nat.reduceMul, layAt, Nat.reduceLT, Nat.reduceEqDiff, setParams, Int.reduceLT, Int.reduceLE, Int.reduceGT, Int.reduceGE, Int.reduceEq, Int.reduceNe]
      have gn9 : readC (h9.get nb) 0 1 = some [.int .i64 2] := by rw [show h9.get nb = _ from O9.get 4 rfl]; rfl
      simp (disch := first | assumption | omega | (simp only [wkD, oneCell, Option.isSome_some, *]; done) | (simp only [wkE, ne_eq]; omega)) only [g0, g1, g2, g4, gn9, y2, wkF, X_region, X_seq, X_block, X_loop, X_cond, Y_box, Y_un, Y_store, Y_append, Y_makeMap, Y_buildSlice, ibin_shl, ibin_shr, ibin_and, ↓reduceIte, reduceCtorEq, oneCell, setAt, readN, Nat.reduceAdd, Nat.reduceLeDiff, Nat.reduceMul, layAt, Nat.reduceLT, Nat.reduceEqDiff, setParams, Int.reduceLT, Int.reduceLE, Int.reduceGT, Int.reduceGE, Int.reduceEq, Int.reduceNe]
      refine Is_in ⟨B.length - (j + 1), by omega, j + 1, t ++ [B[2 * j]], rfl, rfl, rfl, rfl, rfl, rfl, rfl, by omega, by rw [List.length_append, htj]; rfl, ?_, O9⟩
      have e1 : B.take (2 * (j + 1)) = B.take (2 * j) ++ [B[2 * j], B[2 * j + 1]] := by
        rw [show 2 * (j + 1) = 2 * j + 1 + 1 by omega, List.take_add_one, List.take_add_one, List.getElem?_eq_getElem hlt, List.getElem?_eq_getElem hlt2, List.append_assoc]
        rfl
      rw [e1, hBt]
      unfold comp
      rw [List.flatMap_append, List.flatMap_singleton]
      have : B[2 * j + 1] = 255 - B[2 * j] := by omega
      rw [this]
    · simp (disch := first | assumption | omega | (simp only [wkD, oneCell, Option.isSome_some, *]; done) | (simp only [wkE, ne_eq]; omega)) only [g0, g1, g2, g4, wkF, X_region, X_seq, X_block, X_loop, X_cond, Y_box, Y_un, Y_store, Y_append, Y_makeMap, Y_buildSlice, ibin_shl, ibin_shr, ibin_and, ↓reduceIte, reduceCtorEq, oneCell, setAt, readN, Nat.reduceAdd, Nat.reduceLeDiff, Nat.reduceMul, layAt, Nat.reduceLT, Nat.reduceEqDiff, setParams, Int.reduceLT, Int.reduceLE, Int.reduceGT, Int.reduceGE, Int.reduceEq, Int.reduceNe]
      refine Is_in ?_
      simp (disch := first | assumption | omega | (simp only [wkD, oneCell, Option.isSome_some, *]; done) | (simp only [wkE, ne_eq]; omega)) only [wkF, X_region, X_seq, X_block, X_loop, X_cond, Y_box, Y_un, Y_store, Y_append, Y_makeMap, Y_buildSlice, ibin_shl, ibin_shr, ibin_and, ↓reduceIte, reduceCtorEq, oneCell, setAt, readN, Nat.reduceAdd, Nat.reduceLeDiff, Nat.reduceMul, layAt, Nat.reduceLT, Nat.reduceEqDiff, setParams, Int.reduceLT, Int.reduceLE, Int.reduceGT, Int.reduceGE, Int.reduceEq, Int.reduceNe]
      have hun : un B = none := by
        rw [hBs, un_comp htb]
        have e2 : B.drop (2 * j) = B[2 * j] :: B[2 * j + 1] :: B.drop (2 * j + 2) := by
          rw [List.drop_eq_getElem_cons hlt, List.drop_eq_getElem_cons hlt2]
        rw [e2, un, if_neg he]
        rfl
      refine leaf0 ⟨lp, _, hst, O9, fun h12 O12 => ?_⟩
      rw [hpd]
      simp (disch := first | assumption | omega | (simp only [wkD, oneCell, Option.isSome_some, *]; done) | (simp only [wkE, ne_eq]; omega)) only [wkF, X_region, X_seq, X_block, X_loop, X_cond, Y_box, Y_un, Y_store, Y_append, Y_makeMap, Y_buildSlice, ibin_shl, ibin_shr, ibin_and, ↓reduceIte, reduceCtorEq, oneCell, setAt, readN, Nat.reduceAdd, Nat.reduceLeDiff, Nat.reduceMul, layAt, Nat.reduceLT, Nat.reduceEqDiff, setParams, Int.reduceLT, Int.reduceLE, Int.reduceGT, Int.reduceGE, Int.reduceEq, Int.reduceNe]
      refine leafMO O12 5 rfl fun h13 O13 => ⟨_, answer2 _ _ _ _ (cell1 O13 0 rfl rfl) (cell1 O13 1 rfl rfl), Or.inr ⟨rfl, hun, ?_⟩⟩
      exact O13.drop.drop.drop.drop.drop.drop
  · have hlt' : ¬ ((2 * j : Nat) : Int) < (B.length : Int) := by omega
    simp (disch := first | assumption | omega | (simp only [wkD, oneCell, Option.isSome_some, *]; done) | (simp only [wkE, ne_eq]; omega)) only [g0, g1, g2, g4, gs, hlt', wkF, X_region, X_seq, X_block, X_loop, X_cond, Y_box, Y_un, Y_store, Y_append, Y_makeMap, Y_buildSlice, ibin_shl, ibin_shr, ibin_and, ↓reduceIte, reduceCtorEq, oneCell, setAt, readN, Nat.reduceAdd, Nat.reduceLeDiff, Nat.reduceMul, layAt, Nat.reduceLT, Nat.reduceEqDiff, setParams, Int.reduceLT, Int.reduceLE, Int.reduceGT, Int.reduceGE, Int.reduceEq, Int.reduceNe]
    refine Is_in ?_
    simp (disch := first | assumption | omega | (simp only [wkD, oneCell, Option.isSome_some, *]; done) | (simp only [wkE, ne_eq]; omega)) only [wkF, X_region, X_seq, X_block, X_loop, X_cond, Y_box, Y_un, Y_store, Y_append, Y_makeMap, Y_buildSlice, ibin_shl, ibin_shr, ibin_and, ↓reduceIte, reduceCtorEq, oneCell, setAt, readN, Nat.reduceAdd, Nat.reduceLeDiff, Nat.reduceMul, layAt, Nat.reduceLT, Nat.reduceEqDiff, setParams, Int.reduceLT, Int.reduceLE, Int.reduceGT, Int.reduceGE, Int.reduceEq, Int.reduceNe]
    have hun : un B = some t := by
      rw [hBs, un_comp htb, List.drop_eq_nil_of_le (by omega)]
      show some (t ++ []) = _
      rw [List.append_nil]
    refine leaf0n ⟨kLoop dm tl, _, (by intro e; cases e), O, fun h12 O12 => ?_⟩
    have hpn : (kLoop dm tl).pending = .normal := rfl
    rw [hpn]
    obtain ⟨u, O13⟩ := Has.bx.1 (O12.at 2 rfl)
    replace O13 : Has ro h12 (Ob vb (.cells [u] 1 false) :: Sc 1 bc u t :: Ob rb (.cells [nilS] 1 false) :: Ob fb (.cells [.bool false] 1 false) :: Ob nb (.cells [.int .i64 2] 1 false) :: Ob sb (.cells [.slice p B.length c] 1 false) :: Ob dm (.deferred true) :: R) := O13
    obtain ⟨u1, u2⟩ := scOne O13 1 rfl
    have gu : readC (h12.get vb) 0 1 = some [u] := by rw [O13.get 0 rfl]; rfl
    have gr := O13.get 2 rfl
    have pr_ := O13.can 2 rfl
    have O14 := O13.set 2 rfl (.cells [u] 1 false)
    replace O14 : Has ro _ (Ob vb (.cells [u] 1 false) :: Sc 1 bc u t :: Ob rb (.cells [u] 1 false) :: Ob fb (.cells [.bool false] 1 false) :: Ob nb (.cells [.int .i64 2] 1 false) :: Ob sb (.cells [.slice p B.length c] 1 false) :: Ob dm (.deferred true) :: R) := O14
    have gf := O14.get 3 rfl
    have pf := O14.can 3 rfl
    have O15 := O14.set 3 rfl (.cells [.bool true] 1 false)
    replace O15 : Has ro _ (Ob vb (.cells [u] 1 false) :: Sc 1 bc u t :: Ob rb (.cells [u] 1 false) :: Ob fb (.cells [.bool true] 1 false) :: Ob nb (.cells [.int .i64 2] 1 false) :: Ob sb (.cells [.slice p B.length c] 1 false) :: Ob dm (.deferred true) :: R) := O15
    have ho3 : oneCell (Value.bool true) = true := rfl
    simp (disch := first | assumption | omega | (simp only [wkD, oneCell, Option.isSome_some, *]; done) | (simp only [wkE, ne_eq]; omega)) only [gu, u1, u2, gr, pr_, gf, pf, ho3, wkF, X_region, X_seq, X_block, X_loop, X_cond, Y_box, Y_un, Y_store, Y_append, Y_makeMap, Y_buildSlice, ibin_shl, ibin_shr, ibin_and, ↓reduceIte, reduceCtorEq, setAt, readN, Nat.reduceAdd, Nat.reduceLeDiff, Nat.reduceMul, layAt, Nat.reduceLT, Nat.reduceEqDiff, setParams, Int.reduceLT, Int.reduceLE, Int.reduceGT, Int.reduceGE, Int.reduceEq, Int.reduceNe]
    refine leafMO O15 6 rfl fun h16 O16 => ⟨_, answer2 _ _ _ _ (cell1 O16 2 rfl rfl) (cell1 O16 3 rfl rfl), Or.inl ⟨u, t, rfl, hun, ?_⟩⟩
    exact (O16.drop).rid 1 rfl |>.rid 1 rfl |>.rid 1 rfl |>.rid 1 rfl |>.rid 1 rfl
end
end Go.Proofs.YtpodmgbnldmlcaaDoor
