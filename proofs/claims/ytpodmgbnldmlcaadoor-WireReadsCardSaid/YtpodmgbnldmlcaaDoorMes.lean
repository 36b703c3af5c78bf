/-
  A message taken from the bytes that are left.
-/
import Derived.Test.YtpodmgbnldmlcaaDoorFk
import Derived.Test.YtpodmgbnldmlcaaDoorFel
namespace Go.Proofs.YtpodmgbnldmlcaaDoor
open Go Go.Ideal Go.ChangeShapes Go.RowKit
set_option maxHeartbeats 0
set_option linter.unusedSimpArgs false
set_option linter.unusedVariables false
set_option maxRecDepth 100000
attribute [local irreducible] callV T.All T.Is run
theorem env34 : env 34 = some ir34 := rfl
def foldS (F : List Int) (x : Msg × List Cl × Stt) : Msg × List Cl × Stt := F.foldl (fun x f => fldS f x) x
def msgS (k : Int) (s : Stt) : Msg × List Cl × Stt := foldS (row k) (mz k, [], s)
theorem fldS_zero (x : Msg × List Cl × Stt) : fldS 0 x = x := rfl
theorem foldS_zero : ∀ {F : List Int} {x : Msg × List Cl × Stt}, (∀ f ∈ F, f = 0) → foldS F x = x
  | [], _, _ => rfl
  | f :: F, x, h => by
    show foldS F (fldS f x) = x
    rw [h f (by simp), fldS_zero]
    exact foldS_zero fun g hg => h g (by simp [hg])
theorem foldS_append (F G : List Int) (x : Msg × List Cl × Stt) : foldS (F ++ G) x = foldS G (foldS F x) := List.foldl_append ..
theorem foldS_take {k : Int} {j : Nat} {x : Msg × List Cl × Stt} (hj : j ≤ 5) (hz : j = 5 ∨ (row k).getD j 0 = 0) : foldS ((row k).take j) x = foldS (row k) x := by
  have e : foldS (row k) x = foldS ((row k).drop j) (foldS ((row k).take j) x) := by rw [← foldS_append, List.take_append_drop]
  rw [e]
  refine (foldS_zero ?_).symm
  intro f hf
  obtain ⟨i, hi⟩ := List.getElem?_of_mem hf
  rw [List.getElem?_drop] at hi
  have hlt := (List.getElem?_eq_some_iff.1 hi).1
  rw [row_len] at hlt
  rcases hz with hz | hz
  · omega
  · have := row_zero k j (by omega) (j + i) hlt (by omega) hz
    rw [List.getD_eq_getElem?_getD, hi] at this
    exact this
/-- What holds of the state while fields are taken. -/
def Inv (N c : Nat) (x : Msg × List Cl × Stt) : Prop := (∀ b ∈ x.2.2.1, b < 256) ∧ x.2.2.1.length ≤ N ∧ x.2.1.length ≤ c
theorem fld_inv {N c : Nat} {f : Int} {x : Msg × List Cl × Stt} (h : Inv N c x) : Inv N (c + 256) (fldS f x) := by
  obtain ⟨h1, h2, h3⟩ := h
  have hk : ∀ k, (∀ b ∈ (tk k x.2.2).2.1, b < 256) ∧ (tk k x.2.2).2.1.length ≤ N := fun k => ⟨tk_by h1, Nat.le_trans tk_len h2⟩
  have ht := tk_lt (k := 1) h1
  simp only [Nat.reducePow] at ht
  unfold fldS
  repeat' split
  · exact ⟨(hk 2).1, (hk 2).2, by simp only; omega⟩
  · exact ⟨(hk 4).1, (hk 4).2, by simp only; omega⟩
  · exact ⟨(hk 8).1, (hk 8).2, by simp only; omega⟩
  · exact ⟨(hk 1).1, (hk 1).2, by simp only; omega⟩
  · exact ⟨(hk 1).1, (hk 1).2, by simp only; omega⟩
  · exact ⟨(hk 1).1, (hk 1).2, by simp only; omega⟩
  · exact ⟨(hk 1).1, (hk 1).2, by simp only; omega⟩
  · refine ⟨clS_by (hk 1).1, Nat.le_trans clS_len (hk 1).2, ?_⟩
    simp only
    rw [clS_cl]
    simp only
    omega
  · exact ⟨h1, h2, by omega⟩
theorem fold_inv {N : Nat} : ∀ {F : List Int} {c : Nat} {x : Msg × List Cl × Stt}, Inv N c x → Inv N (c + 256 * F.length) (foldS F x)
  | [], c, x, h => h
  | f :: F, c, x, h => by
    have := fold_inv (F := F) (fld_inv (f := f) h)
    rw [List.length_cons, show c + 256 * (F.length + 1) = c + 256 + 256 * F.length by omega]
    exact this
section
variable {ro : Nat → Option (List Value × Nat)} {h : Heap} {R : List Rs} {s : Stt}
theorem msg_y {k D lp0 mb cb fb lb f : Nat} {m : Msg} {l : List Cl} {tl : List Value} (hf1 : 1 ≤ f) (hf2 : f ≤ 8) (htl : tl.length = 75) (ht3 : tl.getD 3 undefV = .pointer (some ⟨cb, 0, none⟩)) (ht5 : tl.getD 5 undefV = .pointer (some ⟨mb, 0, none⟩)) (hk : 400 < k) (hs : ∀ b ∈ s.1, b < 256) (hsl : s.1.length ≤ 2000) (hl : l.length ≤ 5000)
    (O : Has ro h (Ob lp0 (.loop (gLoop D tl)) :: Mx mb m l :: Ob cb (.cells [.func (.func 33) #[] #[.pointer (some ⟨fb, 0, none⟩), .pointer (some ⟨lb, 0, none⟩)]] 1 false) :: Tk fb lb s :: R)) :
    (callV env (k + 1) (.func (.yield lp0) #[] #[]) [.int .i64 (f : Int)] h).Is fun q => q.1 = .bool true ∧ Has ro q.2 (Ob lp0 (.loop (gLoop D tl)) :: Mx mb (fldS f (m, l, s)).1 (fldS f (m, l, s)).2.1 :: Ob cb (.cells [.func (.func 33) #[] #[.pointer (some ⟨fb, 0, none⟩), .pointer (some ⟨lb, 0, none⟩)]] 1 false) :: Tk fb lb (fldS f (m, l, s)).2.2 :: R) := by
  have : f = 1 ∨ f = 2 ∨ f = 3 ∨ f = 4 ∨ f = 5 ∨ f = 6 ∨ f = 7 ∨ f = 8 := by omega
  rcases this with rfl | rfl | rfl | rfl | rfl | rfl | rfl | rfl
  · exact msg_y1 htl ht3 ht5 hk hs hsl hl O
  · exact msg_y2 htl ht3 ht5 hk hs hsl hl O
  · exact msg_y3 htl ht3 ht5 hk hs hsl hl O
  · exact msg_y4 htl ht3 ht5 hk hs hsl hl O
  · exact msg_y5 htl ht3 ht5 hk hs hsl hl O
  · exact msg_y6 htl ht3 ht5 hk hs hsl hl O
  · exact msg_y7 htl ht3 ht5 hk hs hsl hl O
  · exact msg_y8 htl ht3 ht5 hk hs hsl hl O

theorem message_h {n fb lb : Nat} {k : Int} (hL : Lay ro) (hn : 500 < n) (hk0 : 1 ≤ k) (hk1 : k ≤ 11) (hs : ∀ b ∈ s.1, b < 256) (hsl : s.1.length ≤ 2000) (O : Has ro h (Tk fb lb s :: R)) :
    (callV env (n + 3) (.func (.func 34) #[] #[]) [.int .i64 k, .func (.func 33) #[] #[.pointer (some ⟨fb, 0, none⟩), .pointer (some ⟨lb, 0, none⟩)]] h).Is fun q => ∃ cv, q.1 = mv { (msgS k s).1 with cl := cv } ∧ Has ro q.2 (Sc 2 cc cv (msgS k s).2.1 :: Tk fb lb (msgS k s).2.2 :: R) := by
  refine call_is env34 ?_
  obtain ⟨fv, hfv⟩ : ∃ fv, fv = Value.func (.func 33) #[] #[.pointer (some ⟨fb, 0, none⟩), .pointer (some ⟨lb, 0, none⟩)] := ⟨_, rfl⟩
  simp (disch := first | assumption | omega | (simp only [wkD, oneCell, Option.isSome_some, *]; done) | (simp only [wkE, ne_eq]; omega)) only [ir34, List.append_nil, List.nil_append, List.cons_append, List.length_cons, List.length_nil, Nat.reduceAdd, Nat.reduceSub, List.replicate_succ, List.replicate_zero, wkF, X_region, X_seq, X_block, X_loop, X_cond, Y_un, Y_store, Y_append, Y_makeMap, Y_buildSlice, ibin_shl, ibin_shr, ibin_and, ↓reduceIte, reduceCtorEq, oneCell, setAt, readN, Nat.reduceAdd, Nat.reduceLeDiff, Nat.reduceMul, layAt, Nat.reduceLT, Nat.reduceEqDiff, setParams, Int.reduceLT, Int.reduceLE, Int.reduceGT, Int.reduceGE, Int.reduceEq, Int.reduceNe]
  refine Y_boxO O ?_
  intro cb h1 O1 e1
  replace O1 : Has ro h1 (Ob cb (.cells [.func (.func 33) #[] #[.pointer (some ⟨fb, 0, none⟩), .pointer (some ⟨lb, 0, none⟩)]] 1 false) :: Tk fb lb s :: R) := O1
  simp (disch := first | assumption | omega | (simp only [wkD, oneCell, Option.isSome_some, *]; done) | (simp only [wkE, ne_eq]; omega)) only [wkF, X_region, X_seq, X_block, X_loop, X_cond, Y_un, Y_store, Y_append, Y_makeMap, Y_buildSlice, ibin_shl, ibin_shr, ibin_and, ↓reduceIte, reduceCtorEq, oneCell, setAt, readN, Nat.reduceAdd, Nat.reduceLeDiff, Nat.reduceMul, layAt, Nat.reduceLT, Nat.reduceEqDiff, setParams, Int.reduceLT, Int.reduceLE, Int.reduceGT, Int.reduceGE, Int.reduceEq, Int.reduceNe]
  refine Y_boxO O1 ?_
  intro zb h2 O2 e2
  replace O2 : Has ro h2 (Ob zb (.cells (mc (mz 0)) 1 false) :: Ob cb (.cells [.func (.func 33) #[] #[.pointer (some ⟨fb, 0, none⟩), .pointer (some ⟨lb, 0, none⟩)]] 1 false) :: Tk fb lb s :: R) := O2
  simp (disch := first | assumption | omega | (simp only [wkD, oneCell, Option.isSome_some, *]; done) | (simp only [wkE, ne_eq]; omega)) only [wkF, X_region, X_seq, X_block, X_loop, X_cond, Y_un, Y_store, Y_append, Y_makeMap, Y_buildSlice, ibin_shl, ibin_shr, ibin_and, ↓reduceIte, reduceCtorEq, oneCell, setAt, readN, Nat.reduceAdd, Nat.reduceLeDiff, Nat.reduceMul, layAt, Nat.reduceLT, Nat.reduceEqDiff, setParams, Int.reduceLT, Int.reduceLE, Int.reduceGT, Int.reduceGE, Int.reduceEq, Int.reduceNe]
  refine Y_boxO O2 ?_
  intro mb h3 O3 e3
  replace O3 : Has ro h3 (Ob mb (.cells (mc (mz 0)) 1 false) :: Ob zb (.cells (mc (mz 0)) 1 false) :: Ob cb (.cells [.func (.func 33) #[] #[.pointer (some ⟨fb, 0, none⟩), .pointer (some ⟨lb, 0, none⟩)]] 1 false) :: Tk fb lb s :: R) := O3
  have g3 := O3.get 0 rfl
  have p3 := O3.can 0 rfl
  have OS := O3.set 0 rfl (.cells (mc (mz k)) 1 false)
  simp only [List.set_cons_zero] at OS
  have hs3 : setAt (mc (mz 0)) 0 [Value.int .i64 k, .int .i64 0, .int .u32 0, .int .u64 0, .int .i64 0, .int .i64 0, .int .i64 0, .int .i64 0, .slice none 0 0] = mc (mz k) := by
    simp [setAt, mc, mz, nilS]
  simp (disch := first | assumption | omega | (simp only [wkD, oneCell, Option.isSome_some, *]; done) | (simp only [wkE, ne_eq]; omega)) only [cellsOf_agg, g3, p3, hs3, mc_len, wkF, X_region, X_seq, X_block, X_loop, X_cond, Y_box, Y_un, Y_store, Y_append, Y_makeMap, Y_buildSlice, ibin_shl, ibin_shr, ibin_and, ↓reduceIte, reduceCtorEq, oneCell, readN, Nat.reduceAdd, Nat.reduceLeDiff, Nat.reduceMul, layAt, Nat.reduceLT, Nat.reduceEqDiff, setParams, Int.reduceLT, Int.reduceLE, Int.reduceGT, Int.reduceGE, Int.reduceEq, Int.reduceNe]
  generalize h3.setB mb (.cells (mc (mz k)) 1 false) = h4 at OS ⊢
  clear O O1 O2 O3 e1 e2 e3 g3 p3 hs3 hfv
  refine Z_is (R := fun q => ∃ bE, q.1 = .func (.func 41) #[] #[.pointer (some ⟨bE, 0, none⟩)] ∧ Has ro q.2 (Ob bE (.cells [.int .i64 k] 1 false) :: Ob mb (.cells (mc (mz k)) 1 false) :: Ob zb (.cells (mc (mz 0)) 1 false) :: Ob cb (.cells [.func (.func 33) #[] #[.pointer (some ⟨fb, 0, none⟩), .pointer (some ⟨lb, 0, none⟩)]] 1 false) :: Tk fb lb s :: R)) ?_ ?_
  · refine call_is env38 ?_
    simp (disch := first | assumption | omega | (simp only [wkD, oneCell, Option.isSome_some, *]; done) | (simp only [wkE, ne_eq]; omega)) only [ir38, List.append_nil, List.nil_append, List.cons_append, List.length_cons, List.length_nil, Nat.reduceAdd, Nat.reduceSub, List.replicate_succ, List.replicate_zero, wkF, X_region, X_seq, X_block, X_loop, X_cond, Y_un, Y_store, Y_append, Y_makeMap, Y_buildSlice, ibin_shl, ibin_shr, ibin_and, ↓reduceIte, reduceCtorEq, oneCell, setAt, readN, Nat.reduceAdd, Nat.reduceLeDiff, Nat.reduceMul, layAt, Nat.reduceLT, Nat.reduceEqDiff, setParams, Int.reduceLT, Int.reduceLE, Int.reduceGT, Int.reduceGE, Int.reduceEq, Int.reduceNe]
    refine Y_boxO OS ?_
    intro bE h5 O5 e5
    simp (disch := first | assumption | omega | (simp only [wkD, oneCell, Option.isSome_some, *]; done) | (simp only [wkE, ne_eq]; omega)) only [wkF, X_region, X_seq, X_block, X_loop, X_cond, Y_box, Y_un, Y_store, Y_append, Y_makeMap, Y_buildSlice, ibin_shl, ibin_shr, ibin_and, ↓reduceIte, reduceCtorEq, oneCell, setAt, readN, Nat.reduceAdd, Nat.reduceLeDiff, Nat.reduceMul, layAt, Nat.reduceLT, Nat.reduceEqDiff, setParams, Int.reduceLT, Int.reduceLE, Int.reduceGT, Int.reduceGE, Int.reduceEq, Int.reduceNe]
    exact leaf1 ⟨bE, rfl, O5⟩
  rintro v5 h5 ⟨bE, rfl, O5⟩
  clear OS
  simp (disch := first | assumption | omega | (simp only [wkD, oneCell, Option.isSome_some, *]; done) | (simp only [wkE, ne_eq]; omega)) only [wkF, X_region, X_seq, X_block, X_loop, X_cond, Y_box, Y_un, Y_store, Y_append, Y_makeMap, Y_buildSlice, ibin_shl, ibin_shr, ibin_and, ↓reduceIte, reduceCtorEq, oneCell, setAt, readN, Nat.reduceAdd, Nat.reduceLeDiff, Nat.reduceMul, layAt, Nat.reduceLT, Nat.reduceEqDiff, setParams, Int.reduceLT, Int.reduceLE, Int.reduceGT, Int.reduceGE, Int.reduceEq, Int.reduceNe]
  refine X_rangeO O5 (g := 41) (first := #[]) rfl ?_
  intro dm lp0 h6 O6
  obtain ⟨tl, htl, ht3, ht5, O7⟩ : ∃ tl : List Value, tl.length = 75 ∧ tl.getD 3 undefV = .pointer (some ⟨cb, 0, none⟩) ∧ tl.getD 5 undefV = .pointer (some ⟨mb, 0, none⟩) ∧ Has ro h6 (Ob mb (.cells (mc (mz k)) 1 false) :: Ob bE (.cells [.int .i64 k] 1 false) :: Ob lp0 (.loop (gLoop dm tl)) :: Ob cb (.cells [.func (.func 33) #[] #[.pointer (some ⟨fb, 0, none⟩), .pointer (some ⟨lb, 0, none⟩)]] 1 false) :: Tk fb lb s :: Ob dm (.deferred true) :: Ob zb (.cells (mc (mz 0)) 1 false) :: R) :=
    ⟨_, rfl, rfl, rfl, (O6.at 4 rfl).at 2 rfl |>.at 6 rfl |>.at 6 rfl |>.at 4 rfl |>.at 5 rfl |>.at 6 rfl⟩
  clear O6 O5
  have O8 : Has ro h6 (Ob bE (.cells [.int .i64 k] 1 false) :: Ob lp0 (.loop (gLoop dm tl)) :: Mx mb (foldS ((row k).take 0) (mz k, [], s)).1 (foldS ((row k).take 0) (mz k, [], s)).2.1 :: Ob cb (.cells [.func (.func 33) #[] #[.pointer (some ⟨fb, 0, none⟩), .pointer (some ⟨lb, 0, none⟩)]] 1 false) :: Tk fb lb (foldS ((row k).take 0) (mz k, [], s)).2.2 :: Ob dm (.deferred true) :: Ob zb (.cells (mc (mz 0)) 1 false) :: R) := by
    have e : foldS ((row k).take 0) (mz k, [], s) = (mz k, [], s) := by rw [List.take_zero]; rfl
    rw [e]
    have h9 : Has ro h6 (Mx mb (mz k) [] :: Ob bE (.cells [.int .i64 k] 1 false) :: Ob lp0 (.loop (gLoop dm tl)) :: Ob cb (.cells [.func (.func 33) #[] #[.pointer (some ⟨fb, 0, none⟩), .pointer (some ⟨lb, 0, none⟩)]] 1 false) :: Tk fb lb s :: Ob dm (.deferred true) :: Ob zb (.cells (mc (mz 0)) 1 false) :: R) := Has.mx.2 ⟨nilS, (Has.scNil (z := 2) (g := cc) O7).swap2⟩
    exact h9.at 2 rfl |>.at 2 rfl
  clear O7
  refine T.Is.mono ?_ (fields_r (n := n + 1) (kd := k) (lb := lp0) (I := fun i => Ob lp0 (.loop (gLoop dm tl)) :: Mx mb (foldS ((row k).take i) (mz k, [], s)).1 (foldS ((row k).take i) (mz k, [], s)).2.1 :: Ob cb (.cells [.func (.func 33) #[] #[.pointer (some ⟨fb, 0, none⟩), .pointer (some ⟨lb, 0, none⟩)]] 1 false) :: Tk fb lb (foldS ((row k).take i) (mz k, [], s)).2.2 :: Ob dm (.deferred true) :: Ob zb (.cells (mc (mz 0)) 1 false) :: R) hL (by omega) hk0 hk1 ?_ O8)
  rotate_left
  · intro i h f hi hf h1 h2 O
    have hin := fold_inv (N := s.1.length) (F := (row k).take i) (c := 0) (x := (mz k, [], s)) ⟨hs, Nat.le_refl _, Nat.le_refl _⟩
    have hlt : ((row k).take i).length ≤ 5 := by rw [List.length_take, row_len]; omega
    obtain ⟨i1, i2, i3⟩ := hin
    have e : foldS ((row k).take (i + 1)) (mz k, [], s) = fldS (f : Int) (foldS ((row k).take i) (mz k, [], s)) := by
      rw [take_next (by rw [row_len]; omega), hf, foldS_append]; rfl
    simp only [e]
    refine T.Is.mono ?_ (msg_y (k := n) (m := (foldS ((row k).take i) (mz k, [], s)).1) (l := (foldS ((row k).take i) (mz k, [], s)).2.1) (s := (foldS ((row k).take i) (mz k, [], s)).2.2) (R := Ob bE (.cells [.int .i64 k] 1 false) :: Ob dm (.deferred true) :: Ob zb (.cells (mc (mz 0)) 1 false) :: R) h1 h2 htl ht3 ht5 (by omega) i1 (by omega) (by omega) ((O.at 4 rfl).at 4 rfl |>.at 4 rfl |>.at 4 rfl))
    rintro ⟨v, h'⟩ ⟨hv, O'⟩
    exact ⟨hv, O'.at 4 rfl⟩
  rintro ⟨v9, h9⟩ ⟨j, hj, O10, hz⟩
  replace O10 : Has ro h9 (Ob bE (.cells [.int .i64 k] 1 false) :: Ob lp0 (.loop (gLoop dm tl)) :: Mx mb (foldS ((row k).take j) (mz k, [], s)).1 (foldS ((row k).take j) (mz k, [], s)).2.1 :: Ob cb (.cells [.func (.func 33) #[] #[.pointer (some ⟨fb, 0, none⟩), .pointer (some ⟨lb, 0, none⟩)]] 1 false) :: Tk fb lb (foldS ((row k).take j) (mz k, [], s)).2.2 :: Ob dm (.deferred true) :: Ob zb (.cells (mc (mz 0)) 1 false) :: R) := O10
  rw [foldS_take hj hz] at O10
  refine ⟨gLoop dm tl, _, (by intro e; cases e), O10.at 1 rfl, fun h11 O11 => ?_⟩
  replace O11 : Has ro h11 (Ob bE (.cells [.int .i64 k] 1 false) :: Mx mb (msgS k s).1 (msgS k s).2.1 :: Ob cb (.cells [.func (.func 33) #[] #[.pointer (some ⟨fb, 0, none⟩), .pointer (some ⟨lb, 0, none⟩)]] 1 false) :: Tk fb lb (msgS k s).2.2 :: Ob dm (.deferred true) :: Ob zb (.cells (mc (mz 0)) 1 false) :: R) := O11
  have hpn : (gLoop dm tl).pending = .normal := rfl
  rw [hpn]
  obtain ⟨cv, O12⟩ := Has.mx.1 (O11.at 1 rfl)
  replace O12 : Has ro h11 (Ob mb (.cells (mc { (msgS k s).1 with cl := cv }) 1 false) :: Sc 2 cc cv (msgS k s).2.1 :: Ob bE (.cells [.int .i64 k] 1 false) :: Ob cb (.cells [.func (.func 33) #[] #[.pointer (some ⟨fb, 0, none⟩), .pointer (some ⟨lb, 0, none⟩)]] 1 false) :: Tk fb lb (msgS k s).2.2 :: Ob dm (.deferred true) :: Ob zb (.cells (mc (mz 0)) 1 false) :: R) := O12
  have r9 : readC (h11.get mb) 0 9 = some (mc { (msgS k s).1 with cl := cv }) := by rw [O12.get 0 rfl]; rfl
  have gz := O12.get 6 rfl
  have pz := O12.can 6 rfl
  obtain ⟨z1, z2⟩ := scOne O12 1 rfl
  have hone : (mc { (msgS k s).1 with cl := cv }).all oneCell = true := by
    simp only [mc, List.all_cons, z2, List.all_nil, Bool.and_true]
    rfl
  have hs2 : setAt (mc (mz 0)) 0 (mc { (msgS k s).1 with cl := cv }) = mc { (msgS k s).1 with cl := cv } := by
    simp [setAt, mc]
  simp (disch := first | assumption | omega | (simp only [wkD, oneCell, Option.isSome_some, *]; done) | (simp only [wkE, ne_eq]; omega)) only [r9, gz, pz, hs2, mc_len, cellsOf_agg, hone, wkF, X_region, X_seq, X_block, X_loop, X_cond, Y_box, Y_un, Y_store, Y_append, Y_makeMap, Y_buildSlice, ibin_shl, ibin_shr, ibin_and, ↓reduceIte, reduceCtorEq, readN, Nat.reduceAdd, Nat.reduceLeDiff, Nat.reduceMul, layAt, Nat.reduceLT, Nat.reduceEqDiff, setParams, Int.reduceLT, Int.reduceLE, Int.reduceGT, Int.reduceGE, Int.reduceEq, Int.reduceNe]
  have O13 := O12.set 6 rfl (.cells (mc { (msgS k s).1 with cl := cv }) 1 false)
  simp only [List.set_cons_succ, List.set_cons_zero] at O13
  refine leafMO O13 5 rfl fun h14 O14 => ⟨_, answerC (cellN O14 6 rfl rfl rfl), cv, rfl, ?_⟩
  exact ((O14.rid 6 rfl).rid 5 rfl).rid 3 rfl |>.rid 2 rfl |>.rid 0 rfl
end
end Go.Proofs.YtpodmgbnldmlcaaDoor
