/-
  The packet that bytes without complements may be, as the document has it.
-/
import Derived.Test.YtpodmgbnldmlcaaDoorFk
import Derived.Test.YtpodmgbnldmlcaaDoorGtk
import Derived.Test.YtpodmgbnldmlcaaDoorMes
import Derived.Test.YtpodmgbnldmlcaaDoorRmy
namespace Go.Proofs.YtpodmgbnldmlcaaDoor
open Go Go.Ideal Go.ChangeShapes Go.RowKit
set_option maxHeartbeats 0
set_option linter.unusedSimpArgs false
set_option linter.unusedVariables false
set_option maxRecDepth 100000
attribute [local irreducible] callV T.All T.Is run
theorem env35 : env 35 = some ir35 := rfl
/-- The field of a letter. -/
def ltf (c : Nat) : Nat := if c = 99 then 1 else if c = 103 then 2 else if c = 115 then 3 else if c = 112 then 4 else if c = 104 then 5 else if c = 111 then 6 else if c = 119 then 7 else 8
def gcl (B : List Nat) : Nat → List Cl × Nat → List Cl × Nat
  | 0, x => x
  | n + 1, x => ((gcl B n x).1 ++ [⟨(gt B (gcl B n x).2 2 : Int), gt B ((gcl B n x).2 + 2) 4⟩], (gcl B n x).2 + 6)
/-- A field is guessed. -/
def gfl (B : List Nat) (x : Msg × List Cl × Nat) (f : Nat) : Msg × List Cl × Nat :=
  if f = 1 then ({ x.1 with cell := (gt B x.2.2 2 : Int) }, x.2.1, x.2.2 + 2)
  else if f = 2 then ({ x.1 with gen := gt B x.2.2 4 }, x.2.1, x.2.2 + 4)
  else if f = 3 then ({ x.1 with stamp := gt B x.2.2 8 }, x.2.1, x.2.2 + 8)
  else if f = 4 then ({ x.1 with prio := (gt B x.2.2 1 : Int) }, x.2.1, x.2.2 + 1)
  else if f = 5 then ({ x.1 with hops := (gt B x.2.2 1 : Int) }, x.2.1, x.2.2 + 1)
  else if f = 6 then ({ x.1 with orig := (gt B x.2.2 1 : Int) }, x.2.1, x.2.2 + 1)
  else if f = 7 then ({ x.1 with oth := if gt B x.2.2 1 = 255 then -1 else (gt B x.2.2 1 : Int) }, x.2.1, x.2.2 + 1)
  else (x.1, gcl B (gt B x.2.2 1) (x.2.1, x.2.2 + 1))
def gfold (B : List Nat) (F : List Nat) (x : Msg × List Cl × Nat) : Msg × List Cl × Nat := F.foldl (gfl B) x
def guessM (B : List Nat) : Msg × List Cl × Nat := gfold B ((lt (gt B 18 1 : Int)).map ltf) (mz (gt B 18 1 : Int), [], 19)
def guessP (B : List Nat) : Pkt := ⟨(gt B 0 1 : Int), (gt B 1 1 : Int), gt B 2 4, gt B 6 4, gt B 10 4, gt B 14 4, (guessM B).1⟩
theorem lt_mem (k : Int) : (lt k).length ≤ 5 ∧ ∀ i, i < (lt k).length → (lt k).getD i 0 = 99 ∨ (lt k).getD i 0 = 103 ∨ (lt k).getD i 0 = 115 ∨ (lt k).getD i 0 = 112 ∨ (lt k).getD i 0 = 104 ∨ (lt k).getD i 0 = 111 ∨ (lt k).getD i 0 = 119 ∨ ((lt k).getD i 0 = 108 ∧ i = 0 ∧ (lt k).length = 1) := by
  unfold lt
  repeat' split
  all_goals decide
theorem gcl_at (B : List Nat) : ∀ n x, (gcl B n x).2 = x.2 + 6 * n ∧ (gcl B n x).1.length = x.1.length + n
  | 0, x => ⟨rfl, rfl⟩
  | n + 1, x => by
    obtain ⟨h1, h2⟩ := gcl_at B n x
    refine ⟨?_, ?_⟩
    · show (gcl B n x).2 + 6 = _
      omega
    · show ((gcl B n x).1 ++ [_]).length = _
      rw [List.length_append, h2]; rfl
theorem Vw.of_get {α : Type} {z : Nat} {g : α → List Value} {h h' : Heap} {v : Value} {l : List α} (V : Vw z g h v l) (hg : ∀ b, h'.get b = h.get b) (hn : h'.next = h.next) : Vw z g h' v l := by
  obtain ⟨p, c, rfl, hc, k⟩ := V
  refine ⟨p, c, rfl, hc, fun h0 => ?_⟩
  obtain ⟨b, off, sp, A, B, zz, t, k1, k2, k3, k4, k5⟩ := k h0
  exact ⟨b, off, sp, A, B, zz, t, k1, k2, k3, (hg b).trans k4, by rw [hn]; exact k5⟩
section
variable {ro : Nat → Option (List Value × Nat)} {h : Heap} {R : List Rs} {B : List Nat}
theorem gtake_e {n pl k : Nat} {v : Value} {h : Heap} (hn : 20 < n) (hk : k ≤ 8) (hp : pl ≤ 100000) (hl : B.length ≤ 100000) (hB : ∀ b ∈ B, b < 256) (V : Vw 1 bc h v B) : callV env (n + 1) (.func (.func 40) #[] #[]) [v, .int .i64 (pl : Int), .int .i64 (k : Int)] h = .ret (.int .u64 ((gt B pl k : Nat) : Int), h) := T.Is.eq (gtake_h hn hk hp hl hB V)
theorem guess_h {n : Nat} {v : Value} (hn : 1000 < n) (hl : B.length ≤ 2000) (hB : ∀ b ∈ B, b < 256) (V : ∀ h, Has ro h R → Vw 1 bc h v B) (O : Has ro h R) :
    (callV env (n + 2) (.func (.func 35) #[] #[]) [v] h).Is fun q => ∃ cv, q.1 = pv { guessP B with m := { (guessM B).1 with cl := cv } } ∧ Has ro q.2 (Sc 2 cc cv (guessM B).2.1 :: R) := by
  refine call_is env35 ?_
  have G := fun (pl k : Nat) (h : Heap) (hk : k ≤ 8) (hp : pl ≤ 100000) (V : Vw 1 bc h v B) => gtake_e (n := n) (pl := pl) (k := k) (h := h) (by omega) hk hp (by omega) hB V
  have gl := fun (pl k : Nat) => gt_lt (B := B) (pl := pl) (k := k) hB
  simp (disch := first | assumption | omega | (simp only [wkD, oneCell, Option.isSome_some, *]; done) | (simp only [wkE, ne_eq]; omega)) only [ir35, List.append_nil, List.nil_append, List.cons_append, List.length_cons, List.length_nil, Nat.reduceAdd, Nat.reduceSub, List.replicate_succ, List.replicate_zero, wkF, X_region, X_seq, X_block, X_loop, X_cond, Y_un, Y_store, Y_append, Y_makeMap, Y_buildSlice, ibin_shl, ibin_shr, ibin_and, ↓reduceIte, reduceCtorEq, oneCell, setAt, readN, Nat.reduceAdd, Nat.reduceLeDiff, Nat.reduceMul, layAt, Nat.reduceLT, Nat.reduceEqDiff, setParams, Int.reduceLT, Int.reduceLE, Int.reduceGT, Int.reduceGE, Int.reduceEq, Int.reduceNe]
  refine Y_boxO O ?_
  intro rb h1 O1 e1
  replace O1 : Has ro h1 (Ob rb (.cells (pc (⟨0, 0, 0, 0, 0, 0, mz 0⟩ : Pkt)) 1 false) :: R) := O1
  have V1 := V _ O1.drop
  have t0 : callV env (n + 1) (.func (.func 40) #[] #[]) [v, .int .i64 0, .int .i64 1] h1 = .ret (.int .u64 ((gt B 0 1 : Nat) : Int), h1) := G 0 1 h1 (by omega) (by omega) V1
  have t1 : callV env (n + 1) (.func (.func 40) #[] #[]) [v, .int .i64 1, .int .i64 1] h1 = .ret (.int .u64 ((gt B 1 1 : Nat) : Int), h1) := G 1 1 h1 (by omega) (by omega) V1
  have t2 : callV env (n + 1) (.func (.func 40) #[] #[]) [v, .int .i64 2, .int .i64 4] h1 = .ret (.int .u64 ((gt B 2 4 : Nat) : Int), h1) := G 2 4 h1 (by omega) (by omega) V1
  have t3 : callV env (n + 1) (.func (.func 40) #[] #[]) [v, .int .i64 6, .int .i64 4] h1 = .ret (.int .u64 ((gt B 6 4 : Nat) : Int), h1) := G 6 4 h1 (by omega) (by omega) V1
  have t4 : callV env (n + 1) (.func (.func 40) #[] #[]) [v, .int .i64 10, .int .i64 4] h1 = .ret (.int .u64 ((gt B 10 4 : Nat) : Int), h1) := G 10 4 h1 (by omega) (by omega) V1
  have t5 : callV env (n + 1) (.func (.func 40) #[] #[]) [v, .int .i64 14, .int .i64 4] h1 = .ret (.int .u64 ((gt B 14 4 : Nat) : Int), h1) := G 14 4 h1 (by omega) (by omega) V1
  have b1 := gl 0 1
  have b2 := gl 1 1
  have b3 := gl 2 4
  have b4 := gl 6 4
  have b5 := gl 10 4
  have b6 := gl 14 4
  have b7 := gl 18 1
  simp only [Nat.reducePow] at b1 b2 b3 b4 b5 b6 b7
  have w0 : IntKind.i64.wrap ((gt B 0 1 : Nat) : Int) = ((gt B 0 1 : Nat) : Int) := wrap_i64 (by omega) (by omega)
  have w1 : IntKind.i64.wrap ((gt B 1 1 : Nat) : Int) = ((gt B 1 1 : Nat) : Int) := wrap_i64 (by omega) (by omega)
  have w2 : IntKind.u32.wrap ((gt B 2 4 : Nat) : Int) = ((gt B 2 4 : Nat) : Int) := u32_of b3
  have w3 : IntKind.u32.wrap ((gt B 6 4 : Nat) : Int) = ((gt B 6 4 : Nat) : Int) := u32_of b4
  have w4 : IntKind.u32.wrap ((gt B 10 4 : Nat) : Int) = ((gt B 10 4 : Nat) : Int) := u32_of b5
  have w5 : IntKind.u32.wrap ((gt B 14 4 : Nat) : Int) = ((gt B 14 4 : Nat) : Int) := u32_of b6
  have w6 : IntKind.i64.wrap ((gt B 18 1 : Nat) : Int) = ((gt B 18 1 : Nat) : Int) := wrap_i64 (by omega) (by omega)
  simp (disch := first | assumption | omega | (simp only [wkD, oneCell, Option.isSome_some, *]; done) | (simp only [wkE, ne_eq]; omega)) only [t0, t1, t2, t3, t4, t5, w0, w1, w2, w3, w4, w5, wkF, X_region, X_seq, X_block, X_loop, X_cond, Y_un, Y_store, Y_append, Y_makeMap, Y_buildSlice, ibin_shl, ibin_shr, ibin_and, ↓reduceIte, reduceCtorEq, oneCell, setAt, readN, Nat.reduceAdd, Nat.reduceLeDiff, Nat.reduceMul, layAt, Nat.reduceLT, Nat.reduceEqDiff, setParams, Int.reduceLT, Int.reduceLE, Int.reduceGT, Int.reduceGE, Int.reduceEq, Int.reduceNe]
  refine Y_boxO O1 ?_
  intro pb h2 O2 e2
  replace O2 : Has ro h2 (Ob pb (.cells (pc (⟨0, 0, 0, 0, 0, 0, mz 0⟩ : Pkt)) 1 false) :: Ob rb (.cells (pc (⟨0, 0, 0, 0, 0, 0, mz 0⟩ : Pkt)) 1 false) :: R) := O2
  have g2 := O2.get 0 rfl
  have p2 := O2.can 0 rfl
  have O3 := O2.set 0 rfl (.cells (pc ⟨(gt B 0 1 : Int), (gt B 1 1 : Int), gt B 2 4, gt B 6 4, gt B 10 4, gt B 14 4, mz 0⟩) 1 false)
  simp only [List.set_cons_zero] at O3
  have hs2 : setAt (pc (⟨0, 0, 0, 0, 0, 0, mz 0⟩ : Pkt)) 0 [Value.int .i64 ((gt B 0 1 : Nat) : Int), .int .i64 ((gt B 1 1 : Nat) : Int), .int .u32 ((gt B 2 4 : Nat) : Int), .int .u32 ((gt B 6 4 : Nat) : Int), .int .u32 ((gt B 10 4 : Nat) : Int), .int .u32 ((gt B 14 4 : Nat) : Int), .int .i64 0, .int .i64 0, .int .u32 0, .int .u64 0, .int .i64 0, .int .i64 0, .int .i64 0, .int .i64 0, .slice none 0 0] = pc ⟨(gt B 0 1 : Int), (gt B 1 1 : Int), gt B 2 4, gt B 6 4, gt B 10 4, gt B 14 4, mz 0⟩ := by
    simp [setAt, pc, mc, mz, nilS]
  simp (disch := first | assumption | omega | (simp only [wkD, oneCell, Option.isSome_some, *]; done) | (simp only [wkE, ne_eq]; omega)) only [cellsOf_agg, g2, p2, hs2, pc_len, wkF, X_region, X_block, X_loop, X_cond, Y_box, Y_un, Y_store, Y_append, Y_makeMap, Y_buildSlice, ibin_shl, ibin_shr, ibin_and, ↓reduceIte, reduceCtorEq, oneCell, readN, Nat.reduceAdd, Nat.reduceLeDiff, Nat.reduceMul, layAt, Nat.reduceLT, Nat.reduceEqDiff, setParams, Int.reduceLT, Int.reduceLE, Int.reduceGT, Int.reduceGE, Int.reduceEq, Int.reduceNe]
  generalize h2.setB pb (.cells (pc ⟨(gt B 0 1 : Int), (gt B 1 1 : Int), gt B 2 4, gt B 6 4, gt B 10 4, gt B 14 4, mz 0⟩) 1 false) = h3 at O3 ⊢
  clear O1 O2 t0 t1 t2 t3 t4 t5 e1 e2 g2 p2 hs2 V1
  have V3 := V _ O3.drop.drop
  have t6 : callV env (n + 1) (.func (.func 40) #[] #[]) [v, .int .i64 18, .int .i64 1] h3 = .ret (.int .u64 ((gt B 18 1 : Nat) : Int), h3) := G 18 1 h3 (by omega) (by omega) V3
  rw [X_seq]
  simp (disch := first | assumption | omega | (simp only [wkD, oneCell, Option.isSome_some, *]; done) | (simp only [wkE, ne_eq]; omega)) only [t6, w6, wkF, X_region, X_seq, X_block, X_loop, X_cond, Y_un, Y_store, Y_append, Y_makeMap, Y_buildSlice, ibin_shl, ibin_shr, ibin_and, ↓reduceIte, reduceCtorEq, oneCell, setAt, readN, Nat.reduceAdd, Nat.reduceLeDiff, Nat.reduceMul, layAt, Nat.reduceLT, Nat.reduceEqDiff, setParams, Int.reduceLT, Int.reduceLE, Int.reduceGT, Int.reduceGE, Int.reduceEq, Int.reduceNe]
  refine Y_boxO O3 ?_
  intro mb h4 O4 e4
  replace O4 : Has ro h4 (Ob mb (.cells (mc (mz 0)) 1 false) :: Ob pb (.cells (pc ⟨(gt B 0 1 : Int), (gt B 1 1 : Int), gt B 2 4, gt B 6 4, gt B 10 4, gt B 14 4, mz 0⟩) 1 false) :: Ob rb (.cells (pc (⟨0, 0, 0, 0, 0, 0, mz 0⟩ : Pkt)) 1 false) :: R) := O4
  have g4 := O4.get 0 rfl
  have p4 := O4.can 0 rfl
  have O5 := O4.set 0 rfl (.cells (mc (mz (gt B 18 1 : Int))) 1 false)
  simp only [List.set_cons_zero] at O5
  have hs4 : setAt (mc (mz 0)) 0 [Value.int .i64 ((gt B 18 1 : Nat) : Int), .int .i64 0, .int .u32 0, .int .u64 0, .int .i64 0, .int .i64 0, .int .i64 0, .int .i64 0, .slice none 0 0] = mc (mz (gt B 18 1 : Int)) := by
    simp [setAt, mc, mz, nilS]
  simp (disch := first | assumption | omega | (simp only [wkD, oneCell, Option.isSome_some, *]; done) | (simp only [wkE, ne_eq]; omega)) only [cellsOf_agg, g4, p4, hs4, mc_len, wkF, X_region, X_block, X_loop, X_cond, Y_box, Y_un, Y_store, Y_append, Y_makeMap, Y_buildSlice, ibin_shl, ibin_shr, ibin_and, ↓reduceIte, reduceCtorEq, oneCell, readN, Nat.reduceAdd, Nat.reduceLeDiff, Nat.reduceMul, layAt, Nat.reduceLT, Nat.reduceEqDiff, setParams, Int.reduceLT, Int.reduceLE, Int.reduceGT, Int.reduceGE, Int.reduceEq, Int.reduceNe]
  generalize h4.setB mb (.cells (mc (mz (gt B 18 1 : Int))) 1 false) = h5 at O5 ⊢
  clear O3 O4 e4 g4 p4 hs4 t6 V3
  have r5 := (rdm (O5.get 0 rfl)).1
  have rk : readC (h5.get mb) 0 1 = some [.int .i64 ((gt B 18 1 : Nat) : Int)] := r5
  have nm := fun h => names_e (n := n) (k := ((gt B 18 1 : Nat) : Int)) (h := h)
  rw [X_seq]
  simp (disch := first | assumption | omega | (simp only [wkD, oneCell, Option.isSome_some, *]; done) | (simp only [wkE, ne_eq]; omega)) only [rk, nm, wkF, X_region, X_seq, X_block, X_loop, X_cond, Y_box, Y_un, Y_store, Y_append, Y_makeMap, Y_buildSlice, ibin_shl, ibin_shr, ibin_and, ↓reduceIte, reduceCtorEq, oneCell, setAt, readN, Nat.reduceAdd, Nat.reduceLeDiff, Nat.reduceMul, layAt, Nat.reduceLT, Nat.reduceEqDiff, setParams, Int.reduceLT, Int.reduceLE, Int.reduceGT, Int.reduceGE, Int.reduceEq, Int.reduceNe]
  obtain ⟨f1, f2⟩ := lt_mem ((gt B 18 1 : Nat) : Int)
  have hb256 : ∀ b ∈ lt ((gt B 18 1 : Nat) : Int), b < 256 := by
    intro b hb
    obtain ⟨j, hj⟩ := List.getElem?_of_mem hb
    have hlt := (List.getElem?_eq_some_iff.1 hj).1
    have := f2 j hlt
    rw [List.getD_eq_getElem?_getD, hj] at this
    simp only [Option.getD_some] at this
    omega
  have O6 : Has ro h5 (Mx mb (mz (gt B 18 1 : Int)) [] :: Ob pb (.cells (pc (⟨(gt B 0 1 : Int), (gt B 1 1 : Int), gt B 2 4, gt B 6 4, gt B 10 4, gt B 14 4, mz 0⟩ : Pkt)) 1 false) :: Ob rb (.cells (pc (⟨0, 0, 0, 0, 0, 0, mz 0⟩ : Pkt)) 1 false) :: R) := Has.mx.2 ⟨nilS, (Has.scNil (z := 2) (g := cc) O5).swap2⟩
  have sl := str_len (lt ((gt B 18 1 : Nat) : Int))
  have hgM : guessM B = gfold B ((lt (gt B 18 1 : Int)).map ltf) (mz (gt B 18 1 : Int), [], 19) := rfl
  rw [hgM]
  generalize lt ((gt B 18 1 : Nat) : Int) = LT at f1 f2 hb256 sl ⊢
  generalize hX0 : ((mz (gt B 18 1 : Int), [], 19) : Msg × List Cl × Nat) = X0
  clear O5 r5 rk nm hgM
  refine L_is (fun q s => ∃ (i : Nat) (x : Msg × List Cl × Nat), s.defers = [] ∧ s.tmps.length = 144 ∧ s.tmps.getD 0 undefV = v ∧ s.tmps.getD 2 undefV = .pointer (some ⟨rb, 0, none⟩) ∧ s.tmps.getD 3 undefV = .pointer (some ⟨pb, 0, none⟩) ∧ s.tmps.getD 4 undefV = .pointer (some ⟨mb, 0, none⟩) ∧ s.tmps.getD 5 undefV = .string (strB LT) ∧ s.tmps.getD 6 undefV = .int .i64 (x.2.2 : Int) ∧ s.tmps.getD 7 undefV = .int .i64 (i : Int) ∧ q = LT.length - i ∧ i ≤ LT.length ∧ x = gfold B ((LT.take i).map ltf) X0 ∧ x.2.2 ≤ 19 + 2000 * i ∧ x.2.1.length ≤ 256 * i ∧ Has ro s.h (Mx mb x.1 x.2.1 :: Ob pb (.cells (pc (⟨(gt B 0 1 : Int), (gt B 1 1 : Int), gt B 2 4, gt B 6 4, gt B 10 4, gt B 14 4, mz 0⟩ : Pkt)) 1 false) :: Ob rb (.cells (pc (⟨0, 0, 0, 0, 0, 0, mz 0⟩ : Pkt)) 1 false) :: R)) LT.length ?_ (by omega) ?_
  · refine ⟨0, X0, rfl, rfl, rfl, rfl, rfl, rfl, rfl, ?_, rfl, rfl, by omega, rfl, ?_, ?_, ?_⟩
    · rw [← hX0]; rfl
    · rw [← hX0]; show 19 ≤ 19 + 2000 * 0; omega
    · rw [← hX0]; show 0 ≤ 256 * 0; omega
    · rw [← hX0]; exact O6
  clear O6
  rintro q_ tm df h6 ⟨i, x, hd, hlen_, g0, g2, g3, g4, g5, g6, g7, hq, hi, hx, ha, hcl, O⟩
  simp only at hd g0 g2 g3 g4 g5 g6 g7 O
  subst hd
  obtain ⟨w, hg_, rfl⟩ := explode hlen_
  simp only [hg_] at g0 g2 g3 g4 g5 g6 g7
  clear hlen_ hg_
  by_cases hlt : i < LT.length
  case neg =>
    have hlt' : ¬ (i : Int) < (LT.length : Int) := by omega
    simp (disch := first | assumption | omega | (simp only [wkD, oneCell, Option.isSome_some, *]; done) | (simp only [wkE, ne_eq]; omega)) only [g0, g2, g3, g4, g5, g6, g7, Y_lenStr, vLenStr_str, sl, hlt', wkF, X_region, X_seq, X_block, X_loop, X_cond, Y_box, Y_un, Y_store, Y_append, Y_makeMap, Y_buildSlice, ibin_shl, ibin_shr, ibin_and, ↓reduceIte, reduceCtorEq, oneCell, setAt, readN, Nat.reduceAdd, Nat.reduceLeDiff, Nat.reduceMul, layAt, Nat.reduceLT, Nat.reduceEqDiff, setParams, Int.reduceLT, Int.reduceLE, Int.reduceGT, Int.reduceGE, Int.reduceEq, Int.reduceNe]
    refine Is_in ?_
    rw [List.take_of_length_le (show LT.length ≤ i by omega)] at hx
    rw [← hx]
    obtain ⟨m, l, a⟩ := x
    obtain ⟨cv, O7⟩ := Has.mx.1 O
    replace O7 : Has ro h6 (Ob mb (.cells (mc { m with cl := cv }) 1 false) :: Sc 2 cc cv l :: Ob pb (.cells (pc (⟨(gt B 0 1 : Int), (gt B 1 1 : Int), gt B 2 4, gt B 6 4, gt B 10 4, gt B 14 4, mz 0⟩ : Pkt)) 1 false) :: Ob rb (.cells (pc (⟨0, 0, 0, 0, 0, 0, mz 0⟩ : Pkt)) 1 false) :: R) := O7
    have r9 := (rdm (O7.get 0 rfl)).2.2.2.2.2.2.2.2.2
    have gp := O7.get 2 rfl
    have pp := O7.can 2 rfl
    obtain ⟨z1, z2⟩ := scOne O7 1 rfl
    have hone : (mc { m with cl := cv }).all oneCell = true := by
      simp only [mc, List.all_cons, z2, List.all_nil, Bool.and_true]
      rfl
    have hs5 := set_msg (⟨(gt B 0 1 : Int), (gt B 1 1 : Int), gt B 2 4, gt B 6 4, gt B 10 4, gt B 14 4, mz 0⟩ : Pkt) { m with cl := cv }
    have O8 := O7.set 2 rfl (.cells (pc { (⟨(gt B 0 1 : Int), (gt B 1 1 : Int), gt B 2 4, gt B 6 4, gt B 10 4, gt B 14 4, mz 0⟩ : Pkt) with m := { m with cl := cv } }) 1 false)
    simp only [List.set_cons_succ, List.set_cons_zero] at O8
    have r15 := (rdp (O8.get 2 rfl)).2.2.2.2.2.2.2
    have gr := O8.get 3 rfl
    have pr_ := O8.can 3 rfl
    have hone2 : (pc { (⟨(gt B 0 1 : Int), (gt B 1 1 : Int), gt B 2 4, gt B 6 4, gt B 10 4, gt B 14 4, mz 0⟩ : Pkt) with m := { m with cl := cv } }).all oneCell = true := by
      simp only [pc, mc, List.all_cons, z2, List.all_nil, Bool.and_true]
      rfl
    have hs6 : setAt (pc (⟨0, 0, 0, 0, 0, 0, mz 0⟩ : Pkt)) 0 (pc { (⟨(gt B 0 1 : Int), (gt B 1 1 : Int), gt B 2 4, gt B 6 4, gt B 10 4, gt B 14 4, mz 0⟩ : Pkt) with m := { m with cl := cv } }) = pc { (⟨(gt B 0 1 : Int), (gt B 1 1 : Int), gt B 2 4, gt B 6 4, gt B 10 4, gt B 14 4, mz 0⟩ : Pkt) with m := { m with cl := cv } } := by simp [setAt, pc, mc]
    simp (disch := first | assumption | omega | (simp only [wkD, oneCell, Option.isSome_some, *]; done) | (simp only [wkE, ne_eq]; omega)) only [g0, g2, g3, g4, g5, g6, g7, r9, gp, pp, hs5, hone, mc_len, pc_len, cellsOf_agg, r15, gr, pr_, hs6, hone2, wkF, X_region, X_seq, X_block, X_loop, X_cond, Y_box, Y_un, Y_store, Y_append, Y_makeMap, Y_buildSlice, ibin_shl, ibin_shr, ibin_and, ↓reduceIte, reduceCtorEq, readN, Nat.reduceAdd, Nat.reduceLeDiff, Nat.reduceMul, layAt, Nat.reduceLT, Nat.reduceEqDiff, setParams, Int.reduceLT, Int.reduceLE, Int.reduceGT, Int.reduceGE, Int.reduceEq, Int.reduceNe]
    have O9 := O8.set 3 rfl (.cells (pc { (⟨(gt B 0 1 : Int), (gt B 1 1 : Int), gt B 2 4, gt B 6 4, gt B 10 4, gt B 14 4, mz 0⟩ : Pkt) with m := { m with cl := cv } }) 1 false)
    simp only [List.set_cons_succ, List.set_cons_zero] at O9
    refine leafO _ (answerC (cellN O9 3 rfl rfl rfl)) ⟨cv, rfl, ?_⟩
    exact ((O9.rid 3 rfl).rid 2 rfl).rid 0 rfl
  have hlt' : (i : Int) < (LT.length : Int) := by omega
  have y1 : IntKind.i64.wrap ((i : Int) + 1) = ((i + 1 : Nat) : Int) := by rw [wrap_i64 (by omega) (by omega)]; omega
  have hgi : LT.getD i 0 = LT[i] := by rw [List.getD_eq_getElem?_getD, List.getElem?_eq_getElem hlt]; rfl
  have ix := idx_str (L := LT) (i := i) hlt (hb256 _ (List.getElem_mem hlt)) (k := .i64)
  have f3 := f2 i hlt
  rw [hgi] at f3
  have htk : (LT.take (i + 1)).map ltf = (LT.take i).map ltf ++ [ltf LT[i]] := by
    rw [List.take_add_one, List.getElem?_eq_getElem hlt, List.map_append]; rfl
  have hnx : gfold B ((LT.take (i + 1)).map ltf) X0 = gfl B x (ltf LT[i]) := by
    rw [htk, hx]
    exact List.foldl_append ..
  obtain ⟨m, l, a⟩ := x
  simp only at g6 ha hcl
  obtain ⟨cv, O7⟩ := Has.mx.1 O
  replace O7 : Has ro h6 (Ob mb (.cells (mc { m with cl := cv }) 1 false) :: Sc 2 cc cv l :: Ob pb (.cells (pc (⟨(gt B 0 1 : Int), (gt B 1 1 : Int), gt B 2 4, gt B 6 4, gt B 10 4, gt B 14 4, mz 0⟩ : Pkt)) 1 false) :: Ob rb (.cells (pc (⟨0, 0, 0, 0, 0, 0, mz 0⟩ : Pkt)) 1 false) :: R) := O7
  have V7 := V _ O7.drop.drop.drop.drop
  have g8 := O7.get 0 rfl
  have p8 := O7.can 0 rfl
  have i5 : i ≤ 4 := by omega
  generalize hc : LT[i] = c at ix f3 hnx
  rcases f3 with rfl | rfl | rfl | rfl | rfl | rfl | rfl | ⟨rfl, hi0, hl1⟩
  · have ix : vIndexStr (.string (strB LT)) (.int .i64 (i : Int)) = some (.int .u8 99) := ix
    have t : callV env (n + 1) (.func (.func 40) #[] #[]) [v, .int .i64 (a : Int), .int .i64 2] h6 = .ret (.int .u64 ((gt B a 2 : Nat) : Int), h6) := G a 2 h6 (by omega) (by omega) V7
    have bb := gl a 2
    simp only [Nat.reducePow] at bb
    have wu : IntKind.i64.wrap ((gt B a 2 : Nat) : Int) = ((gt B a 2 : Nat) : Int) := wrap_i64 (by omega) (by omega)
    have ya : IntKind.i64.wrap ((a : Int) + 2) = ((a + 2 : Nat) : Int) := by rw [wrap_i64 (by omega) (by omega)]; omega
    have hst : setAt (mc { m with cl := cv }) 1 [.int .i64 ((gt B a 2 : Nat) : Int)] = mc { m with cell := ((gt B a 2 : Nat) : Int), cl := cv } := by simp [setAt, mc]
    have O8 := O7.set 0 rfl (.cells (mc { m with cell := ((gt B a 2 : Nat) : Int), cl := cv }) 1 false)
    simp only [List.set_cons_zero] at O8
    simp (disch := first | assumption | omega | (simp only [wkD, oneCell, Option.isSome_some, *]; done) | (simp only [wkE, ne_eq]; omega)) only [g0, g2, g3, g4, g5, g6, g7, Y_lenStr, vLenStr_str, sl, hlt', Y_indexStr, ix, t, wu, g8, p8, hst, mc_len, ya, y1, wkF, X_region, X_seq, X_block, X_loop, X_cond, Y_box, Y_un, Y_store, Y_append, Y_makeMap, Y_buildSlice, ibin_shl, ibin_shr, ibin_and, ↓reduceIte, reduceCtorEq, oneCell, readN, Nat.reduceAdd, Nat.reduceLeDiff, Nat.reduceMul, layAt, Nat.reduceLT, Nat.reduceEqDiff, setParams, Int.reduceLT, Int.reduceLE, Int.reduceGT, Int.reduceGE, Int.reduceEq, Int.reduceNe]
    refine Is_in ⟨LT.length - (i + 1), by omega, i + 1, gfl B (m, l, a) (ltf 99), rfl, rfl, rfl, rfl, rfl, rfl, rfl, rfl, rfl, rfl, by omega, hnx.symm, ?_, ?_, Has.mx.2 ⟨cv, O8⟩⟩
    · show a + 2 ≤ _; omega
    · show l.length ≤ _; omega
  · have ix : vIndexStr (.string (strB LT)) (.int .i64 (i : Int)) = some (.int .u8 103) := ix
    have t : callV env (n + 1) (.func (.func 40) #[] #[]) [v, .int .i64 (a : Int), .int .i64 4] h6 = .ret (.int .u64 ((gt B a 4 : Nat) : Int), h6) := G a 4 h6 (by omega) (by omega) V7
    have bb := gl a 4
    simp only [Nat.reducePow] at bb
    have wu : IntKind.u32.wrap ((gt B a 4 : Nat) : Int) = ((gt B a 4 : Nat) : Int) := u32_of (by omega)
    have ya : IntKind.i64.wrap ((a : Int) + 4) = ((a + 4 : Nat) : Int) := by rw [wrap_i64 (by omega) (by omega)]; omega
    have hst : setAt (mc { m with cl := cv }) 2 [.int .u32 (gt B a 4)] = mc { m with gen := (gt B a 4), cl := cv } := by simp [setAt, mc]
    have O8 := O7.set 0 rfl (.cells (mc { m with gen := (gt B a 4), cl := cv }) 1 false)
    simp only [List.set_cons_zero] at O8
    simp (disch := first | assumption | omega | (simp only [wkD, oneCell, Option.isSome_some, *]; done) | (simp only [wkE, ne_eq]; omega)) only [g0, g2, g3, g4, g5, g6, g7, Y_lenStr, vLenStr_str, sl, hlt', Y_indexStr, ix, t, wu, g8, p8, hst, mc_len, ya, y1, wkF, X_region, X_seq, X_block, X_loop, X_cond, Y_box, Y_un, Y_store, Y_append, Y_makeMap, Y_buildSlice, ibin_shl, ibin_shr, ibin_and, ↓reduceIte, reduceCtorEq, oneCell, readN, Nat.reduceAdd, Nat.reduceLeDiff, Nat.reduceMul, layAt, Nat.reduceLT, Nat.reduceEqDiff, setParams, Int.reduceLT, Int.reduceLE, Int.reduceGT, Int.reduceGE, Int.reduceEq, Int.reduceNe]
    refine Is_in ⟨LT.length - (i + 1), by omega, i + 1, gfl B (m, l, a) (ltf 103), rfl, rfl, rfl, rfl, rfl, rfl, rfl, rfl, rfl, rfl, by omega, hnx.symm, ?_, ?_, Has.mx.2 ⟨cv, O8⟩⟩
    · show a + 4 ≤ _; omega
    · show l.length ≤ _; omega
  · have ix : vIndexStr (.string (strB LT)) (.int .i64 (i : Int)) = some (.int .u8 115) := ix
    have t : callV env (n + 1) (.func (.func 40) #[] #[]) [v, .int .i64 (a : Int), .int .i64 8] h6 = .ret (.int .u64 ((gt B a 8 : Nat) : Int), h6) := G a 8 h6 (by omega) (by omega) V7
    have bb := gl a 8
    simp only [Nat.reducePow] at bb
    have wu : True := trivial
    have ya : IntKind.i64.wrap ((a : Int) + 8) = ((a + 8 : Nat) : Int) := by rw [wrap_i64 (by omega) (by omega)]; omega
    have hst : setAt (mc { m with cl := cv }) 3 [.int .u64 (gt B a 8)] = mc { m with stamp := (gt B a 8), cl := cv } := by simp [setAt, mc]
    have O8 := O7.set 0 rfl (.cells (mc { m with stamp := (gt B a 8), cl := cv }) 1 false)
    simp only [List.set_cons_zero] at O8
    simp (disch := first | assumption | omega | (simp only [wkD, oneCell, Option.isSome_some, *]; done) | (simp only [wkE, ne_eq]; omega)) only [g0, g2, g3, g4, g5, g6, g7, Y_lenStr, vLenStr_str, sl, hlt', Y_indexStr, ix, t, wu, g8, p8, hst, mc_len, ya, y1, wkF, X_region, X_seq, X_block, X_loop, X_cond, Y_box, Y_un, Y_store, Y_append, Y_makeMap, Y_buildSlice, ibin_shl, ibin_shr, ibin_and, ↓reduceIte, reduceCtorEq, oneCell, readN, Nat.reduceAdd, Nat.reduceLeDiff, Nat.reduceMul, layAt, Nat.reduceLT, Nat.reduceEqDiff, setParams, Int.reduceLT, Int.reduceLE, Int.reduceGT, Int.reduceGE, Int.reduceEq, Int.reduceNe]
    refine Is_in ⟨LT.length - (i + 1), by omega, i + 1, gfl B (m, l, a) (ltf 115), rfl, rfl, rfl, rfl, rfl, rfl, rfl, rfl, rfl, rfl, by omega, hnx.symm, ?_, ?_, Has.mx.2 ⟨cv, O8⟩⟩
    · show a + 8 ≤ _; omega
    · show l.length ≤ _; omega
  · have ix : vIndexStr (.string (strB LT)) (.int .i64 (i : Int)) = some (.int .u8 112) := ix
    have t : callV env (n + 1) (.func (.func 40) #[] #[]) [v, .int .i64 (a : Int), .int .i64 1] h6 = .ret (.int .u64 ((gt B a 1 : Nat) : Int), h6) := G a 1 h6 (by omega) (by omega) V7
    have bb := gl a 1
    simp only [Nat.reducePow] at bb
    have wu : IntKind.i64.wrap ((gt B a 1 : Nat) : Int) = ((gt B a 1 : Nat) : Int) := wrap_i64 (by omega) (by omega)
    have ya : IntKind.i64.wrap ((a : Int) + 1) = ((a + 1 : Nat) : Int) := by rw [wrap_i64 (by omega) (by omega)]; omega
    have hst : setAt (mc { m with cl := cv }) 4 [.int .i64 ((gt B a 1 : Nat) : Int)] = mc { m with prio := ((gt B a 1 : Nat) : Int), cl := cv } := by simp [setAt, mc]
    have O8 := O7.set 0 rfl (.cells (mc { m with prio := ((gt B a 1 : Nat) : Int), cl := cv }) 1 false)
    simp only [List.set_cons_zero] at O8
    simp (disch := first | assumption | omega | (simp only [wkD, oneCell, Option.isSome_some, *]; done) | (simp only [wkE, ne_eq]; omega)) only [g0, g2, g3, g4, g5, g6, g7, Y_lenStr, vLenStr_str, sl, hlt', Y_indexStr, ix, t, wu, g8, p8, hst, mc_len, ya, y1, wkF, X_region, X_seq, X_block, X_loop, X_cond, Y_box, Y_un, Y_store, Y_append, Y_makeMap, Y_buildSlice, ibin_shl, ibin_shr, ibin_and, ↓reduceIte, reduceCtorEq, oneCell, readN, Nat.reduceAdd, Nat.reduceLeDiff, Nat.reduceMul, layAt, Nat.reduceLT, Nat.reduceEqDiff, setParams, Int.reduceLT, Int.reduceLE, Int.reduceGT, Int.reduceGE, Int.reduceEq, Int.reduceNe]
    refine Is_in ⟨LT.length - (i + 1), by omega, i + 1, gfl B (m, l, a) (ltf 112), rfl, rfl, rfl, rfl, rfl, rfl, rfl, rfl, rfl, rfl, by omega, hnx.symm, ?_, ?_, Has.mx.2 ⟨cv, O8⟩⟩
    · show a + 1 ≤ _; omega
    · show l.length ≤ _; omega
  · have ix : vIndexStr (.string (strB LT)) (.int .i64 (i : Int)) = some (.int .u8 104) := ix
    have t : callV env (n + 1) (.func (.func 40) #[] #[]) [v, .int .i64 (a : Int), .int .i64 1] h6 = .ret (.int .u64 ((gt B a 1 : Nat) : Int), h6) := G a 1 h6 (by omega) (by omega) V7
    have bb := gl a 1
    simp only [Nat.reducePow] at bb
    have wu : IntKind.i64.wrap ((gt B a 1 : Nat) : Int) = ((gt B a 1 : Nat) : Int) := wrap_i64 (by omega) (by omega)
    have ya : IntKind.i64.wrap ((a : Int) + 1) = ((a + 1 : Nat) : Int) := by rw [wrap_i64 (by omega) (by omega)]; omega
    have hst : setAt (mc { m with cl := cv }) 5 [.int .i64 ((gt B a 1 : Nat) : Int)] = mc { m with hops := ((gt B a 1 : Nat) : Int), cl := cv } := by simp [setAt, mc]
    have O8 := O7.set 0 rfl (.cells (mc { m with hops := ((gt B a 1 : Nat) : Int), cl := cv }) 1 false)
    simp only [List.set_cons_zero] at O8
    simp (disch := first | assumption | omega | (simp only [wkD, oneCell, Option.isSome_some, *]; done) | (simp only [wkE, ne_eq]; omega)) only [g0, g2, g3, g4, g5, g6, g7, Y_lenStr, vLenStr_str, sl, hlt', Y_indexStr, ix, t, wu, g8, p8, hst, mc_len, ya, y1, wkF, X_region, X_seq, X_block, X_loop, X_cond, Y_box, Y_un, Y_store, Y_append, Y_makeMap, Y_buildSlice, ibin_shl, ibin_shr, ibin_and, ↓reduceIte, reduceCtorEq, oneCell, readN, Nat.reduceAdd, Nat.reduceLeDiff, Nat.reduceMul, layAt, Nat.reduceLT, Nat.reduceEqDiff, setParams, Int.reduceLT, Int.reduceLE, Int.reduceGT, Int.reduceGE, Int.reduceEq, Int.reduceNe]
    refine Is_in ⟨LT.length - (i + 1), by omega, i + 1, gfl B (m, l, a) (ltf 104), rfl, rfl, rfl, rfl, rfl, rfl, rfl, rfl, rfl, rfl, by omega, hnx.symm, ?_, ?_, Has.mx.2 ⟨cv, O8⟩⟩
    · show a + 1 ≤ _; omega
    · show l.length ≤ _; omega
  · have ix : vIndexStr (.string (strB LT)) (.int .i64 (i : Int)) = some (.int .u8 111) := ix
    have t : callV env (n + 1) (.func (.func 40) #[] #[]) [v, .int .i64 (a : Int), .int .i64 1] h6 = .ret (.int .u64 ((gt B a 1 : Nat) : Int), h6) := G a 1 h6 (by omega) (by omega) V7
    have bb := gl a 1
    simp only [Nat.reducePow] at bb
    have wu : IntKind.i64.wrap ((gt B a 1 : Nat) : Int) = ((gt B a 1 : Nat) : Int) := wrap_i64 (by omega) (by omega)
    have ya : IntKind.i64.wrap ((a : Int) + 1) = ((a + 1 : Nat) : Int) := by rw [wrap_i64 (by omega) (by omega)]; omega
    have hst : setAt (mc { m with cl := cv }) 6 [.int .i64 ((gt B a 1 : Nat) : Int)] = mc { m with orig := ((gt B a 1 : Nat) : Int), cl := cv } := by simp [setAt, mc]
    have O8 := O7.set 0 rfl (.cells (mc { m with orig := ((gt B a 1 : Nat) : Int), cl := cv }) 1 false)
    simp only [List.set_cons_zero] at O8
    simp (disch := first | assumption | omega | (simp only [wkD, oneCell, Option.isSome_some, *]; done) | (simp only [wkE, ne_eq]; omega)) only [g0, g2, g3, g4, g5, g6, g7, Y_lenStr, vLenStr_str, sl, hlt', Y_indexStr, ix, t, wu, g8, p8, hst, mc_len, ya, y1, wkF, X_region, X_seq, X_block, X_loop, X_cond, Y_box, Y_un, Y_store, Y_append, Y_makeMap, Y_buildSlice, ibin_shl, ibin_shr, ibin_and, ↓reduceIte, reduceCtorEq, oneCell, readN, Nat.reduceAdd, Nat.reduceLeDiff, Nat.reduceMul, layAt, Nat.reduceLT, Nat.reduceEqDiff, setParams, Int.reduceLT, Int.reduceLE, Int.reduceGT, Int.reduceGE, Int.reduceEq, Int.reduceNe]
    refine Is_in ⟨LT.length - (i + 1), by omega, i + 1, gfl B (m, l, a) (ltf 111), rfl, rfl, rfl, rfl, rfl, rfl, rfl, rfl, rfl, rfl, by omega, hnx.symm, ?_, ?_, Has.mx.2 ⟨cv, O8⟩⟩
    · show a + 1 ≤ _; omega
    · show l.length ≤ _; omega
  · have ix : vIndexStr (.string (strB LT)) (.int .i64 (i : Int)) = some (.int .u8 119) := ix
    have t : callV env (n + 1) (.func (.func 40) #[] #[]) [v, .int .i64 (a : Int), .int .i64 1] h6 = .ret (.int .u64 ((gt B a 1 : Nat) : Int), h6) := G a 1 h6 (by omega) (by omega) V7
    have bb := gl a 1
    simp only [Nat.reducePow] at bb
    have wu : IntKind.i64.wrap ((gt B a 1 : Nat) : Int) = ((gt B a 1 : Nat) : Int) := wrap_i64 (by omega) (by omega)
    have ya : IntKind.i64.wrap ((a : Int) + 1) = ((a + 1 : Nat) : Int) := by rw [wrap_i64 (by omega) (by omega)]; omega
    have hst : setAt (mc { m with cl := cv }) 7 [.int .i64 ((gt B a 1 : Nat) : Int)] = mc { m with oth := ((gt B a 1 : Nat) : Int), cl := cv } := by simp [setAt, mc]
    have O8 := O7.set 0 rfl (.cells (mc { m with oth := ((gt B a 1 : Nat) : Int), cl := cv }) 1 false)
    simp only [List.set_cons_zero] at O8
    have r7 := (rdm (O8.get 0 rfl)).2.2.2.2.2.2.2.1
    have hst2 : setAt (mc { m with oth := ((gt B a 1 : Nat) : Int), cl := cv }) 7 [.int .i64 (-1)] = mc { m with oth := -1, cl := cv } := by simp [setAt, mc]
    have g9 := O8.get 0 rfl
    have p9 := O8.can 0 rfl
    have hd7 : List.take 1 (List.drop 7 (mc { m with oth := ((gt B a 1 : Nat) : Int), cl := cv })) = [.int .i64 ((gt B a 1 : Nat) : Int)] := rfl
    by_cases hv : gt B a 1 = 255
    · have d7 : ((gt B a 1 : Nat) : Int) = 255 := by omega
      have dd : decide (((gt B a 1 : Nat) : Int) = 255) = true := decide_eq_true d7
      have e7 : gfl B (m, l, a) (ltf 119) = ({ m with oth := -1 }, l, a + 1) := by
        show ({ m with oth := if gt B a 1 = 255 then -1 else (gt B a 1 : Int) }, l, a + 1) = _
        rw [if_pos hv]
      have O9 := O8.set 0 rfl (.cells (mc { m with oth := -1, cl := cv }) 1 false)
      simp only [List.set_cons_zero] at O9
      simp (disch := first | assumption | omega | (simp only [wkD, oneCell, Option.isSome_some, *]; done) | (simp only [wkE, ne_eq]; omega)) only [g0, g2, g3, g4, g5, g6, g7, Y_lenStr, vLenStr_str, sl, hlt', Y_indexStr, ix, t, wu, g8, p8, hst, mc_len, hd7, dd, g9, p9, hst2, ya, y1, wkF, X_region, X_seq, X_block, X_loop, X_cond, Y_box, Y_un, Y_store, Y_append, Y_makeMap, Y_buildSlice, ibin_shl, ibin_shr, ibin_and, ↓reduceIte, reduceCtorEq, oneCell, readN, Nat.reduceAdd, Nat.reduceLeDiff, Nat.reduceMul, layAt, Nat.reduceLT, Nat.reduceEqDiff, setParams, Int.reduceLT, Int.reduceLE, Int.reduceGT, Int.reduceGE, Int.reduceEq, Int.reduceNe]
      refine Is_in ⟨LT.length - (i + 1), by omega, i + 1, ({ m with oth := -1 }, l, a + 1), rfl, rfl, rfl, rfl, rfl, rfl, rfl, rfl, rfl, rfl, by omega, (hnx.trans e7).symm, ?_, ?_, Has.mx.2 ⟨cv, O9⟩⟩
      · show a + 1 ≤ _; omega
      · show l.length ≤ _; omega
    · have dd : decide (((gt B a 1 : Nat) : Int) = 255) = false := decide_eq_false (by omega)
      have e7 : gfl B (m, l, a) (ltf 119) = ({ m with oth := (gt B a 1 : Int) }, l, a + 1) := by
        show ({ m with oth := if gt B a 1 = 255 then -1 else (gt B a 1 : Int) }, l, a + 1) = _
        rw [if_neg hv]
      simp (disch := first | assumption | omega | (simp only [wkD, oneCell, Option.isSome_some, *]; done) | (simp only [wkE, ne_eq]; omega)) only [g0, g2, g3, g4, g5, g6, g7, Y_lenStr, vLenStr_str, sl, hlt', Y_indexStr, ix, t, wu, g8, p8, hst, mc_len, r7, dd, ya, y1, wkF, X_region, X_seq, X_block, X_loop, X_cond, Y_box, Y_un, Y_store, Y_append, Y_makeMap, Y_buildSlice, ibin_shl, ibin_shr, ibin_and, ↓reduceIte, reduceCtorEq, oneCell, readN, Nat.reduceAdd, Nat.reduceLeDiff, Nat.reduceMul, layAt, Nat.reduceLT, Nat.reduceEqDiff, setParams, Int.reduceLT, Int.reduceLE, Int.reduceGT, Int.reduceGE, Int.reduceEq, Int.reduceNe]
      refine Is_in ⟨LT.length - (i + 1), by omega, i + 1, ({ m with oth := (gt B a 1 : Int) }, l, a + 1), rfl, rfl, rfl, rfl, rfl, rfl, rfl, rfl, rfl, rfl, by omega, (hnx.trans e7).symm, ?_, ?_, Has.mx.2 ⟨cv, O8⟩⟩
      · show a + 1 ≤ _; omega
      · show l.length ≤ _; omega
  · have ix : vIndexStr (.string (strB LT)) (.int .i64 (i : Int)) = some (.int .u8 108) := ix
    have t : callV env (n + 1) (.func (.func 40) #[] #[]) [v, .int .i64 (a : Int), .int .i64 1] h6 = .ret (.int .u64 ((gt B a 1 : Nat) : Int), h6) := G a 1 h6 (by omega) (by omega) V7
    have bb := gl a 1
    simp only [Nat.reducePow] at bb
    have wu : IntKind.i64.wrap ((gt B a 1 : Nat) : Int) = ((gt B a 1 : Nat) : Int) := wrap_i64 (by omega) (by omega)
    have ya : IntKind.i64.wrap ((a : Int) + 1) = ((a + 1 : Nat) : Int) := by rw [wrap_i64 (by omega) (by omega)]; omega
    have e8 : gfl B (m, l, a) (ltf 108) = (m, gcl B (gt B a 1) (l, a + 1)) := rfl
    rw [e8] at hnx
    simp (disch := first | assumption | omega | (simp only [wkD, oneCell, Option.isSome_some, *]; done) | (simp only [wkE, ne_eq]; omega)) only [g0, g2, g3, g4, g5, g6, g7, Y_lenStr, vLenStr_str, sl, hlt', Y_indexStr, ix, t, wu, ya, wkF, X_region, X_seq, X_block, X_loop, X_cond, Y_box, Y_un, Y_store, Y_append, Y_makeMap, Y_buildSlice, ibin_shl, ibin_shr, ibin_and, ↓reduceIte, reduceCtorEq, oneCell, setAt, readN, Nat.reduceAdd, Nat.reduceLeDiff, Nat.reduceMul, layAt, Nat.reduceLT, Nat.reduceEqDiff, setParams, Int.reduceLT, Int.reduceLE, Int.reduceGT, Int.reduceGE, Int.reduceEq, Int.reduceNe]
    clear t wu O7 V7 g8 p8 ix
    generalize gt B a 1 = N at bb hnx ⊢
    refine L_is (fun q s => ∃ (c : Nat), s.defers = [] ∧ s.tmps.length = 144 ∧ s.tmps.getD 0 undefV = v ∧ s.tmps.getD 2 undefV = .pointer (some ⟨rb, 0, none⟩) ∧ s.tmps.getD 3 undefV = .pointer (some ⟨pb, 0, none⟩) ∧ s.tmps.getD 4 undefV = .pointer (some ⟨mb, 0, none⟩) ∧ s.tmps.getD 5 undefV = .string (strB LT) ∧ s.tmps.getD 6 undefV = .int .i64 ((a + 1 + 6 * c : Nat) : Int) ∧ s.tmps.getD 7 undefV = .int .i64 (i : Int) ∧ s.tmps.getD 8 undefV = .int .i64 (N : Int) ∧ s.tmps.getD 9 undefV = .int .i64 (c : Int) ∧ q = N - c ∧ c ≤ N ∧ Has ro s.h (Mx mb m (gcl B c (l, a + 1)).1 :: Ob pb (.cells (pc (⟨(gt B 0 1 : Int), (gt B 1 1 : Int), gt B 2 4, gt B 6 4, gt B 10 4, gt B 14 4, mz 0⟩ : Pkt)) 1 false) :: Ob rb (.cells (pc (⟨0, 0, 0, 0, 0, 0, mz 0⟩ : Pkt)) 1 false) :: R)) N ?_ (by omega) ?_
    · exact ⟨0, rfl, rfl, rfl, rfl, rfl, rfl, rfl, rfl, rfl, rfl, rfl, rfl, by omega, O⟩
    clear O g0 g2 g3 g4 g5 g6 g7
    rintro q2_ tm df h7 ⟨c, hd, hlen_, g0, g2, g3, g4, g5, g6, g7, g8, g9, hq2, hcN, O⟩
    simp only at hd g0 g2 g3 g4 g5 g6 g7 g8 g9 O
    subst hd
    obtain ⟨w2, hg_, rfl⟩ := explode hlen_
    simp only [hg_] at g0 g2 g3 g4 g5 g6 g7 g8 g9
    clear hlen_ hg_
    obtain ⟨hat, hcl2⟩ := gcl_at B c (l, a + 1)
    by_cases hlc : c < N
    · have hlc' : (c : Int) < (N : Int) := by omega
      have y2 : IntKind.i64.wrap ((c : Int) + 1) = ((c + 1 : Nat) : Int) := by rw [wrap_i64 (by omega) (by omega)]; omega
      have y6 : IntKind.i64.wrap (((a + 1 + 6 * c : Nat) : Int) + 6) = ((a + 1 + 6 * (c + 1) : Nat) : Int) := by rw [wrap_i64 (by omega) (by omega)]; omega
      have y3 : IntKind.i64.wrap (((a + 1 + 6 * c : Nat) : Int) + 2) = ((a + 1 + 6 * c + 2 : Nat) : Int) := by rw [wrap_i64 (by omega) (by omega)]; omega
      obtain ⟨l2, hx1⟩ : ∃ l2, (gcl B c (l, a + 1)).1 = l2 := ⟨_, rfl⟩
      have hx2 : (gcl B (c + 1) (l, a + 1)).1 = l2 ++ [⟨(gt B (a + 1 + 6 * c) 2 : Int), gt B (a + 1 + 6 * c + 2) 4⟩] := by
        show (gcl B c (l, a + 1)).1 ++ [⟨(gt B (gcl B c (l, a + 1)).2 2 : Int), gt B ((gcl B c (l, a + 1)).2 + 2) 4⟩] = _
        rw [hx1, hat]
      rw [hx1] at O hcl2
      obtain ⟨cv, O8⟩ := Has.mx.1 O
      replace O8 : Has ro h7 (Ob mb (.cells (mc { m with cl := cv }) 1 false) :: Sc 2 cc cv l2 :: Ob pb (.cells (pc (⟨(gt B 0 1 : Int), (gt B 1 1 : Int), gt B 2 4, gt B 6 4, gt B 10 4, gt B 14 4, mz 0⟩ : Pkt)) 1 false) :: Ob rb (.cells (pc (⟨0, 0, 0, 0, 0, 0, mz 0⟩ : Pkt)) 1 false) :: R) := O8
      have V8 := V _ O8.drop.drop.drop.drop
      have Vs : ∀ ax i, Vw 1 bc (seenBy ax [] i [] h7) v B := fun ax i => Vw.of_get V8 (fun b => seen_get (fun k _ => by rw [plan_none]; simp) (fun x hx => by cases hx)) rfl
      have r8 := (rdm (O8.get 0 rfl)).2.2.2.2.2.2.2.2.1
      have b2 := gl (a + 1 + 6 * c) 2
      have b4 := gl (a + 1 + 6 * c + 2) 4
      simp only [Nat.reducePow] at b2 b4
      have w2 : IntKind.i64.wrap ((gt B (a + 1 + 6 * c) 2 : Nat) : Int) = ((gt B (a + 1 + 6 * c) 2 : Nat) : Int) := wrap_i64 (by omega) (by omega)
      have w4 : IntKind.u32.wrap ((gt B (a + 1 + 6 * c + 2) 4 : Nat) : Int) = ((gt B (a + 1 + 6 * c + 2) 4 : Nat) : Int) := u32_of b4
      simp (disch := first | assumption | omega | (simp only [wkD, oneCell, Option.isSome_some, *]; done) | (simp only [wkE, ne_eq]; omega)) only [g0, g2, g3, g4, g5, g6, g7, g8, g9, hlc', wkF, X_region, X_seq, X_block, X_loop, X_cond, Y_box, Y_un, Y_store, Y_append, Y_makeMap, Y_buildSlice, ibin_shl, ibin_shr, ibin_and, ↓reduceIte, reduceCtorEq, oneCell, setAt, readN, Nat.reduceAdd, Nat.reduceLeDiff, Nat.reduceMul, layAt, Nat.reduceLT, Nat.reduceEqDiff, setParams, Int.reduceLT, Int.reduceLE, Int.reduceGT, Int.reduceGE, Int.reduceEq, Int.reduceNe]
      refine X_plan [] O8.fine ?_
      refine Dp.fieldAddr rfl ?_
      refine Dp.load1 rfl r8 (fun k _ => by rw [plan_none]; simp) (fun x hx => by cases hx) ?_
      refine Dp.move ?_
      refine Dp.move ?_
      simp only [putDst_some, putDst_none, List.set_cons_succ, List.set_cons_zero]
      refine Dp.callFree (R := fun q => q = (.int .u64 ((gt B (a + 1 + 6 * c) 2 : Nat) : Int), h7)) O8.fine (T.Is.mono (fun _ _ => trivial) (gtake_h (n := n) (k := 2) (pl := a + 1 + 6 * c) (by omega) (by omega) (by omega) (by omega) hB (Vs _ _))) (gtake_h (n := n) (k := 2) (pl := a + 1 + 6 * c) (by omega) (by omega) (by omega) (by omega) hB V8) ?_
      rintro w7 h7' e7'
      cases e7'
      rw [if_neg (Nat.lt_irrefl _)]
      refine Dp.conv rfl w2 ?_
      refine Dp.move ?_
      refine Dp.move ?_
      simp only [putDst_some, putDst_none, List.set_cons_succ, List.set_cons_zero]
      refine Dp.bin (a := .int .i64 ((a + 1 + 6 * c : Nat) : Int)) (b := .int .i64 2) (v := .int .i64 ((a + 1 + 6 * c + 2 : Nat) : Int)) rfl rfl (by rw [ibin_add, y3]) ?_
      refine Dp.callFree (R := fun q => q = (.int .u64 ((gt B (a + 1 + 6 * c + 2) 4 : Nat) : Int), h7)) O8.fine (T.Is.mono (fun _ _ => trivial) (gtake_h (n := n) (k := 4) (pl := a + 1 + 6 * c + 2) (by omega) (by omega) (by omega) (by omega) hB (Vs _ _))) (gtake_h (n := n) (k := 4) (pl := a + 1 + 6 * c + 2) (by omega) (by omega) (by omega) (by omega) hB V8) ?_
      rintro w7 h7' e7'
      cases e7'
      rw [if_neg (Nat.lt_irrefl _)]
      simp only [putDst_some, putDst_none, List.set_cons_succ, List.set_cons_zero]
      refine Dp.conv rfl w4 ?_
      simp only [putDst_some, putDst_none, List.set_cons_succ, List.set_cons_zero]
      refine Dp.pure (v := .agg (cc ⟨(gt B (a + 1 + 6 * c) 2 : Int), gt B (a + 1 + 6 * c + 2) 4⟩).toArray) rfl rfl ?_
      simp only [putDst_some, putDst_none, List.set_cons_succ, List.set_cons_zero]
      refine Dp.buildFree O8 (cs := cc ⟨(gt B (a + 1 + 6 * c) 2 : Int), gt B (a + 1 + 6 * c + 2) 4⟩) rfl ?_
      intro b10 h10 O10 hn10 e10
      have V10 : Vw 2 cc h10 (.slice (some ⟨b10, 0, none⟩) 1 1) [⟨(gt B (a + 1 + 6 * c) 2 : Int), gt B (a + 1 + 6 * c + 2) 4⟩] := O10.one 0 rfl
      obtain ⟨w, h11, ap, O11⟩ := sc_appendV (bytes := 16) (by omega) cc_len (fun x => rfl) (O10.at 2 rfl) V10 (by simp only [List.length_cons, List.length_nil]; simp only at hcl2; unfold roomMost; omega) (by omega)
      replace O11 : Has ro h11 (Sc 2 cc w (l2 ++ [⟨(gt B (a + 1 + 6 * c) 2 : Int), gt B (a + 1 + 6 * c + 2) 4⟩]) :: Ob b10 (.cells (cc ⟨(gt B (a + 1 + 6 * c) 2 : Int), gt B (a + 1 + 6 * c + 2) 4⟩) 2 false) :: Ob mb (.cells (mc { m with cl := cv }) 1 false) :: Ob pb (.cells (pc (⟨(gt B 0 1 : Int), (gt B 1 1 : Int), gt B 2 4, gt B 6 4, gt B 10 4, gt B 14 4, mz 0⟩ : Pkt)) 1 false) :: Ob rb (.cells (pc (⟨0, 0, 0, 0, 0, 0, mz 0⟩ : Pkt)) 1 false) :: R) := O11
      obtain ⟨z1, z2⟩ := scOne O11 0 rfl
      simp only [putDst_some, putDst_none, List.set_cons_succ, List.set_cons_zero]
      refine Dp.appendB ap ?_
      refine Dp.fieldAddr rfl ?_
      refine Dp.storeB O11 2 rfl rfl (by show (cellsOf w).length = 1; rw [z1]; rfl) (by show 8 + 1 ≤ 9; omega) (by show (cellsOf w).all oneCell = true; rw [z1]; simp [z2]) ?_
      intro h12 O12
      replace O12 : Has ro h12 (Sc 2 cc w (l2 ++ [⟨(gt B (a + 1 + 6 * c) 2 : Int), gt B (a + 1 + 6 * c + 2) 4⟩]) :: Ob b10 (.cells (cc ⟨(gt B (a + 1 + 6 * c) 2 : Int), gt B (a + 1 + 6 * c + 2) 4⟩) 2 false) :: Ob mb (.cells (setAt (mc { m with cl := cv }) 8 (cellsOf w)) 1 false) :: Ob pb (.cells (pc (⟨(gt B 0 1 : Int), (gt B 1 1 : Int), gt B 2 4, gt B 6 4, gt B 10 4, gt B 14 4, mz 0⟩ : Pkt)) 1 false) :: Ob rb (.cells (pc (⟨0, 0, 0, 0, 0, 0, mz 0⟩ : Pkt)) 1 false) :: R) := O12
      have e1 : setAt (mc { m with cl := cv }) 8 (cellsOf w) = mc { m with cl := w } := by rw [z1]; simp [setAt, mc]
      rw [e1] at O12
      refine Dp.nil ?_
      simp (disch := first | assumption | omega | (simp only [wkD, oneCell, Option.isSome_some, *]; done) | (simp only [wkE, ne_eq]; omega)) only [g0, g2, g3, g4, g5, g6, g7, g8, g9, y2, y6, wkF, X_region, X_seq, X_block, X_loop, X_cond, Y_box, Y_un, Y_store, Y_append, Y_makeMap, Y_buildSlice, ibin_shl, ibin_shr, ibin_and, ↓reduceIte, reduceCtorEq, oneCell, setAt, readN, Nat.reduceAdd, Nat.reduceLeDiff, Nat.reduceMul, layAt, Nat.reduceLT, Nat.reduceEqDiff, setParams, Int.reduceLT, Int.reduceLE, Int.reduceGT, Int.reduceGE, Int.reduceEq, Int.reduceNe]
      refine Is_in ⟨N - (c + 1), by omega, c + 1, rfl, rfl, rfl, rfl, rfl, rfl, rfl, rfl, rfl, rfl, rfl, rfl, by omega, ?_⟩
      rw [hx2]
      exact Has.mx.2 ⟨w, (O12.rid 1 rfl).at 1 rfl⟩
    · have hlc' : ¬ (c : Int) < (N : Int) := by omega
      have hcn : c = N := by omega
      subst hcn
      simp (disch := first | assumption | omega | (simp only [wkD, oneCell, Option.isSome_some, *]; done) | (simp only [wkE, ne_eq]; omega)) only [g0, g2, g3, g4, g5, g6, g7, g8, g9, hlc', wkF, X_region, X_seq, X_block, X_loop, X_cond, Y_box, Y_un, Y_store, Y_append, Y_makeMap, Y_buildSlice, ibin_shl, ibin_shr, ibin_and, ↓reduceIte, reduceCtorEq, oneCell, setAt, readN, Nat.reduceAdd, Nat.reduceLeDiff, Nat.reduceMul, layAt, Nat.reduceLT, Nat.reduceEqDiff, setParams, Int.reduceLT, Int.reduceLE, Int.reduceGT, Int.reduceGE, Int.reduceEq, Int.reduceNe]
      refine Is_in ?_
      simp (disch := first | assumption | omega | (simp only [wkD, oneCell, Option.isSome_some, *]; done) | (simp only [wkE, ne_eq]; omega)) only [g0, g2, g3, g4, g5, g6, g7, g8, g9, y1, wkF, X_region, X_seq, X_block, X_loop, X_cond, Y_box, Y_un, Y_store, Y_append, Y_makeMap, Y_buildSlice, ibin_shl, ibin_shr, ibin_and, ↓reduceIte, reduceCtorEq, oneCell, setAt, readN, Nat.reduceAdd, Nat.reduceLeDiff, Nat.reduceMul, layAt, Nat.reduceLT, Nat.reduceEqDiff, setParams, Int.reduceLT, Int.reduceLE, Int.reduceGT, Int.reduceGE, Int.reduceEq, Int.reduceNe]
      simp only at hat hcl2
      refine Is_in ⟨LT.length - (i + 1), by omega, i + 1, (m, gcl B c (l, a + 1)), rfl, rfl, rfl, rfl, rfl, rfl, rfl, ?_, rfl, rfl, by omega, hnx.symm, ?_, ?_, O⟩
      · rw [hat]; rfl
      · show (gcl B c (l, a + 1)).2 ≤ _; omega
      · show (gcl B c (l, a + 1)).1.length ≤ _; omega
end
end Go.Proofs.YtpodmgbnldmlcaaDoor
