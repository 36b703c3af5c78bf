/-
  The law LedgerGens holds: the call answers true whatever size and calls it is handed, whatever the machine chooses, and nothing that was there before it is changed; no condition.
-/
import Derived.Test.YtmpnldmdchchjaaFk
import Derived.Test.YtmpnldmdchchjaaGen
import Derived.Test.YtmpnldmdchchjaaArg
import Derived.Test.YtmpnldmdchchjaaRows
namespace Go.Proofs.Ytmpnldmdchchjaa
open Go Go.Ideal Go.ChangeShapes Go.RowKit
set_option maxHeartbeats 0
set_option linter.unusedSimpArgs false
set_option linter.unusedVariables false
set_option maxRecDepth 100000
attribute [local irreducible] callV T.All T.Is run
theorem env7 : env 7 = some ir7 := rfl
def g32 (x : Int) : List Value := [.int .u32 x]
theorem g32_len (x : Int) : (g32 x).length = 1 := rfl
theorem g32_one (x : Int) : (g32 x).all oneCell = true := rfl
/-- What a ledger says of a cell. -/
def Ls.H (S : Ls) (x : Int) : En := if S.Is x then S.E x else e0
def Ls.V (S : Ls) (x : Int) : List It := if S.Is x then S.W x else []
def hs (S : Ls) (k : Nat) : List Int := (List.range k).map fun i : Nat => (S.H (i : Int)).o
def gs (S : Ls) (k : Nat) : List Int := (List.range k).map fun i : Nat => (S.H (i : Int)).g
theorem hs_succ (S : Ls) (k : Nat) : hs S (k + 1) = hs S k ++ [(S.H (k : Int)).o] := by unfold hs; rw [List.range_succ, List.map_append]; rfl
theorem gs_succ (S : Ls) (k : Nat) : gs S (k + 1) = gs S k ++ [(S.H (k : Int)).g] := by unfold gs; rw [List.range_succ, List.map_append]; rfl
theorem hs_len (S : Ls) (k : Nat) : (hs S k).length = k := by unfold hs; simp
theorem gs_len (S : Ls) (k : Nat) : (gs S k).length = k := by unfold gs; simp
theorem hs_get (S : Ls) {k i : Nat} (h : i < k) : (hs S k)[i]? = some (S.H (i : Int)).o := by unfold hs; simp [h]
theorem gs_get (S : Ls) {k i : Nat} (h : i < k) : (gs S k)[i]? = some (S.H (i : Int)).g := by unfold gs; simp [h]
theorem is_same {S S' : Ls} (s : S.Same S') (x : Int) : S'.Is x ↔ S.Is x := by unfold Ls.Is; rw [s.1, s.2.1, s.2.2]
theorem H_ge {S S' : Ls} (s : Stp S S') (x : Int) : Ge (S.H x) (S'.H x) := by
  unfold Ls.H
  by_cases h : S.Is x
  · rw [if_pos h, if_pos ((is_same s.2.1 x).2 h)]
    exact s.2.2 x
  · rw [if_neg h, if_neg fun e => h ((is_same s.2.1 x).1 e)]
    exact Ge.refl _
theorem V_gc {S : Ls} (g : Gi S) (x : Int) : Gc (S.H x) (S.V x) := by
  unfold Ls.H Ls.V
  by_cases h : S.Is x
  · rw [if_pos h, if_pos h]
    exact g.c x
  · rw [if_neg h, if_neg h]
    exact ⟨List.nodup_nil, fun y hy => (by cases hy), fun h => absurd rfl h⟩
theorem V_len {S : Ls} (g : Gi S) (x : Int) : (S.V x).length ≤ 8 := by
  unfold Ls.V
  split
  · exact g.w.w8 x
  · exact Nat.zero_le _
section
variable {ro : Nat → Option (List Value × Nat)} {h : Heap} {R : List Rs} {lb : Nat} {S : Ls} {n : Nat}
theorem sub_lt' {a i q : Nat} (hk : q = a - i) (h : i < a) : a - (i + 1) < q := by omega
theorem holder_H (x : Int) (O : Has ro h (Lg lb S :: R)) : (callV env (n + 3) (.func (.func 25) #[] #[]) [.pointer (some ⟨lb, 0, none⟩), .int .i64 x] h).Is fun p => p.1 = .tuple #[.int .i64 (S.H x).o, .int .u32 (S.H x).g] ∧ Has ro p.2 (Lg lb S :: R) := by
  refine T.Is.mono ?_ (holder_h x O)
  rintro p ⟨h1, h2⟩
  refine ⟨h1.trans ?_, h2⟩
  unfold Ls.H
  split <;> rfl
theorem waiters_V (x : Int) (w : Wf S) (O : Has ro h (Lg lb S :: R)) : (callV env (n + 3) (.func (.func 24) #[] #[]) [.pointer (some ⟨lb, 0, none⟩), .int .i64 x] h).Is fun p => Has ro p.2 (Sc 3 ic p.1 (S.V x) :: Lg lb S :: R) := waiters_h x w O
end
theorem ledgerGens_run {ro : Nat → Option (List Value × Nat)} {a b c : Int} {l : List Cq} {pl : Option Addr} {cl : Nat} (ok : ∀ a ∈ l, OkQ ro a) (hl : l.length ≤ cl) (hcl : cl ≤ maxLen)
    (V : ∀ (M : List Rs) (h : Heap), Has ro h M → Vw 7 cq h (.slice pl l.length cl) l) :
    (callV env 5000 (.func (.func 7) #[] #[]) [.agg #[.int .i64 a, .int .i64 b, .int .i64 c], .slice pl l.length cl] (fresh ro)).Is fun p => p.1 = .bool true := by
  refine call_is (n := 4999) env7 ?_
  simp (disch := first | assumption | omega | (simp only [wkD, oneCell, Option.isSome_some, *]; done) | (simp only [wkE, ne_eq]; omega)) only [ir7, List.append_nil, List.nil_append, List.cons_append, List.length_cons, List.length_nil, Nat.reduceAdd, Nat.reduceSub, List.replicate_succ, List.replicate_zero, show (fresh ro).next = 0 from rfl, wkF, X_region, X_seq, X_block, X_loop, X_cond, Y_box, Y_un, Y_store, Y_append, Y_makeMap, Y_buildSlice, ibin_shl, ibin_shr, ibin_and, ↓reduceIte, reduceCtorEq, oneCell, setAt, readN, Nat.reduceAdd, Nat.reduceLeDiff, Nat.reduceMul, layAt, Nat.reduceLT, Nat.reduceEqDiff, setParams, Int.reduceLT, Int.reduceLE, Int.reduceGT, Int.reduceGE, Int.reduceEq, Int.reduceNe]
  refine Z_is (alive2_h ro a b c) ?_
  rintro v h1 ⟨rfl, O1⟩
  simp only at O1
  simp (disch := first | assumption | omega | (simp only [wkD, oneCell, Option.isSome_some, *]; done) | (simp only [wkE, ne_eq]; omega)) only [wkF, X_region, X_seq, X_block, X_loop, X_cond, Y_box, Y_un, Y_store, Y_append, Y_makeMap, Y_buildSlice, ibin_shl, ibin_shr, ibin_and, ↓reduceIte, reduceCtorEq, oneCell, setAt, readN, Nat.reduceAdd, Nat.reduceLeDiff, Nat.reduceMul, layAt, Nat.reduceLT, Nat.reduceEqDiff, setParams, Int.reduceLT, Int.reduceLE, Int.reduceGT, Int.reduceGE, Int.reduceEq, Int.reduceNe]
  refine Z_is (great_h (n := 4998) (by omega) ok (V _ _ O1)) ?_
  rintro v h2 (hv | ⟨hv, hl120, hcl40⟩)
  · cases hv
    simp (disch := first | assumption | omega | (simp only [wkD, oneCell, Option.isSome_some, *]; done) | (simp only [wkE, ne_eq]; omega)) only [wkF, X_region, X_seq, X_block, X_loop, X_cond, Y_box, Y_un, Y_store, Y_append, Y_makeMap, Y_buildSlice, ibin_shl, ibin_shr, ibin_and, ↓reduceIte, reduceCtorEq, oneCell, setAt, readN, Nat.reduceAdd, Nat.reduceLeDiff, Nat.reduceMul, layAt, Nat.reduceLT, Nat.reduceEqDiff, setParams, Int.reduceLT, Int.reduceLE, Int.reduceGT, Int.reduceGE, Int.reduceEq, Int.reduceNe]
    exact leaf1 rfl
  cases hv
  have gz := O1.get 0 rfl
  by_cases hc60 : 60 < c
  · simp (disch := first | assumption | omega | (simp only [wkD, oneCell, Option.isSome_some, *]; done) | (simp only [wkE, ne_eq]; omega)) only [gz, hc60, wkF, X_region, X_seq, X_block, X_loop, X_cond, Y_box, Y_un, Y_store, Y_append, Y_makeMap, Y_buildSlice, ibin_shl, ibin_shr, ibin_and, ↓reduceIte, reduceCtorEq, oneCell, setAt, readN, Nat.reduceAdd, Nat.reduceLeDiff, Nat.reduceMul, layAt, Nat.reduceLT, Nat.reduceEqDiff, setParams, Int.reduceLT, Int.reduceLE, Int.reduceGT, Int.reduceGE, Int.reduceEq, Int.reduceNe]
    exact leaf1 rfl
  simp (disch := first | assumption | omega | (simp only [wkD, oneCell, Option.isSome_some, *]; done) | (simp only [wkE, ne_eq]; omega)) only [gz, hc60, wkF, X_region, X_seq, X_block, X_loop, X_cond, Y_box, Y_un, Y_store, Y_append, Y_makeMap, Y_buildSlice, ibin_shl, ibin_shr, ibin_and, ↓reduceIte, reduceCtorEq, oneCell, setAt, readN, Nat.reduceAdd, Nat.reduceLeDiff, Nat.reduceMul, layAt, Nat.reduceLT, Nat.reduceEqDiff, setParams, Int.reduceLT, Int.reduceLE, Int.reduceGT, Int.reduceGE, Int.reduceEq, Int.reduceNe]
  refine Z_is (new_h (n := 4998) a b c O1) ?_
  rintro v h3 hv
  rcases hv with ⟨hsz, rfl, O3⟩ | ⟨hsz, lb, rfl, O3⟩
  · simp (disch := first | assumption | omega | (simp only [wkD, oneCell, Option.isSome_some, *]; done) | (simp only [wkE, ne_eq]; omega)) only [vEqPtr_none, Bool.not_false, wkF, X_region, X_seq, X_block, X_loop, X_cond, Y_box, Y_un, Y_store, Y_append, Y_makeMap, Y_buildSlice, ibin_shl, ibin_shr, ibin_and, ↓reduceIte, reduceCtorEq, oneCell, setAt, readN, Nat.reduceAdd, Nat.reduceLeDiff, Nat.reduceMul, layAt, Nat.reduceLT, Nat.reduceEqDiff, setParams, Int.reduceLT, Int.reduceLE, Int.reduceGT, Int.reduceGE, Int.reduceEq, Int.reduceNe]
    exact leaf1 rfl
  simp only at O3
  simp (disch := first | assumption | omega | (simp only [wkD, oneCell, Option.isSome_some, *]; done) | (simp only [wkE, ne_eq]; omega)) only [wkF, X_region, X_seq, X_block, X_loop, X_cond, Y_box, Y_un, Y_store, Y_append, Y_makeMap, Y_buildSlice, ibin_shl, ibin_shr, ibin_and, ↓reduceIte, reduceCtorEq, oneCell, setAt, readN, Nat.reduceAdd, Nat.reduceLeDiff, Nat.reduceMul, layAt, Nat.reduceLT, Nat.reduceEqDiff, setParams, Int.reduceLT, Int.reduceLE, Int.reduceGT, Int.reduceGE, Int.reduceEq, Int.reduceNe]
  have gi0 := gi_lz hsz
  have hc1 : 1 ≤ c := hsz.2.2.2.2.1
  obtain ⟨C, rfl⟩ : ∃ C : Nat, c = (C : Int) := ⟨c.toNat, by omega⟩
  clear gz O1
  refine L_is (fun q s => ∃ (i : Nat) (S : Ls), q = l.length - i ∧ s.defers = [] ∧ s.tmps.length = 225 ∧ s.tmps.getD 1 undefV = .slice pl l.length cl ∧ s.tmps.getD 2 undefV = .pointer (some ⟨0, 0, none⟩) ∧ s.tmps.getD 5 undefV = .bool true ∧ s.tmps.getD 6 undefV = .pointer (some ⟨lb, 0, none⟩) ∧ s.tmps.getD 8 undefV = .int .i64 (i : Int) ∧ i ≤ l.length ∧ Gi S ∧ Has ro s.h [Lg lb S, Ob 0 (.cells [.int .i64 a, .int .i64 b, .int .i64 (C : Int)] 1 false)]) l.length ?_ (by omega) ?_
  · exact ⟨0, _, rfl, rfl, rfl, rfl, rfl, rfl, rfl, rfl, Nat.zero_le _, gi0, O3⟩
  clear O3 gi0
  rintro q tm df h4 ⟨i, S, hk, hd, hlen_, g1, g2, g5, g6, g8, hil, gi, O4⟩
  simp only at hd g1 g2 g5 g6 g8 O4
  subst hd
  obtain ⟨w, hg_, rfl⟩ := explode hlen_
  simp only [hg_] at g1 g2 g5 g6 g8
  clear hlen_ hg_
  have hki := hk
  by_cases h0 : i < l.length
  · have h0' : (i : Int) < (l.length : Int) := by omega
    have hi0 : (0 : Int) ≤ (i : Int) := by omega
    simp (disch := first | assumption | omega | (simp only [wkD, oneCell, Option.isSome_some, *]; done) | (simp only [wkE, ne_eq]; omega)) only [g1, g2, g5, g6, g8, h0', wkF, X_region, X_seq, X_block, X_loop, X_cond, Y_box, Y_un, Y_store, Y_append, Y_makeMap, Y_buildSlice, ibin_shl, ibin_shr, ibin_and, ↓reduceIte, reduceCtorEq, oneCell, setAt, readN, Nat.reduceAdd, Nat.reduceLeDiff, Nat.reduceMul, layAt, Nat.reduceLT, Nat.reduceEqDiff, setParams, Int.reduceLT, Int.reduceLE, Int.reduceGT, Int.reduceGE, Int.reduceEq, Int.reduceNe]
    refine L_is (fun q s => ∃ (k : Nat) (v9 v10 : Value), q = C - k ∧ s.defers = [] ∧ s.tmps.length = 225 ∧ s.tmps.getD 1 undefV = .slice pl l.length cl ∧ s.tmps.getD 2 undefV = .pointer (some ⟨0, 0, none⟩) ∧ s.tmps.getD 5 undefV = .bool true ∧ s.tmps.getD 6 undefV = .pointer (some ⟨lb, 0, none⟩) ∧ s.tmps.getD 8 undefV = .int .i64 (i : Int) ∧ s.tmps.getD 9 undefV = v9 ∧ s.tmps.getD 10 undefV = v10 ∧ s.tmps.getD 11 undefV = .int .i64 (k : Int) ∧ k ≤ C ∧ Has ro s.h [Sc 1 zc v9 (hs S k), Sc 1 g32 v10 (gs S k), Lg lb S, Ob 0 (.cells [.int .i64 a, .int .i64 b, .int .i64 (C : Int)] 1 false)]) C ?_ (by omega) ?_
    · exact ⟨0, _, _, rfl, rfl, rfl, rfl, rfl, rfl, rfl, rfl, rfl, rfl, rfl, Nat.zero_le _, Has.scNil (Has.scNil O4)⟩
    clear O4 g1 g2 g5 g6 g8 w
    rintro q tm df h5 ⟨k, v9, v10, hk, hd, hlen_, g1, g2, g5, g6, g8, g9, g10, g11, hkC, O5⟩
    simp only at hd g1 g2 g5 g6 g8 g9 g10 g11 O5
    subst hd
    obtain ⟨w, hg_, rfl⟩ := explode hlen_
    simp only [hg_] at g1 g2 g5 g6 g8 g9 g10 g11
    clear hlen_ hg_
    have gz := O5.get 3 rfl
    by_cases hkc : k < C
    · have hk' : (k : Int) < (C : Int) := by omega
      simp (disch := first | assumption | omega | (simp only [wkD, oneCell, Option.isSome_some, *]; done) | (simp only [wkE, ne_eq]; omega)) only [g1, g2, g5, g6, g8, g9, g10, g11, gz, hk', wkF, X_region, X_seq, X_block, X_loop, X_cond, Y_box, Y_un, Y_store, Y_append, Y_makeMap, Y_buildSlice, ibin_shl, ibin_shr, ibin_and, ↓reduceIte, reduceCtorEq, oneCell, setAt, readN, Nat.reduceAdd, Nat.reduceLeDiff, Nat.reduceMul, layAt, Nat.reduceLT, Nat.reduceEqDiff, setParams, Int.reduceLT, Int.reduceLE, Int.reduceGT, Int.reduceGE, Int.reduceEq, Int.reduceNe]
      refine Z_is (holder_H (n := 4996) (k : Int) (O5.at 2 rfl)) ?_
      rintro v6 h6 ⟨rfl, O6⟩
      simp only at O6
      replace O6 : Has ro h6 (Lg lb S :: Sc 1 zc v9 (hs S k) :: Sc 1 g32 v10 (gs S k) :: Ob 0 (.cells [.int .i64 a, .int .i64 b, .int .i64 (C : Int)] 1 false) :: []) := O6
      simp (disch := first | assumption | omega | (simp only [wkD, oneCell, Option.isSome_some, *]; done) | (simp only [wkE, ne_eq]; omega)) only [wkF, X_region, X_seq, X_block, X_loop, X_cond, Y_box, Y_un, Y_store, Y_append, Y_makeMap, ibin_shl, ibin_shr, ibin_and, ↓reduceIte, reduceCtorEq, oneCell, setAt, readN, Nat.reduceAdd, Nat.reduceLeDiff, Nat.reduceMul, layAt, Nat.reduceLT, Nat.reduceEqDiff, setParams, Int.reduceLT, Int.reduceLE, Int.reduceGT, Int.reduceGE, Int.reduceEq, Int.reduceNe]
      refine Y_buildSliceO O6 (cs := zc (S.H (k : Int)).o) rfl ?_
      intro b7 h7 O7 _
      obtain ⟨v9', h8, ap1, O8⟩ := sc_appendV (bytes := 8) (by decide) zc_len zc_one (O7.at 2 rfl) (Has.one (O7.at 2 rfl) 1 rfl) (by rw [hs_len]; show (k + 1) * 8 ≤ roomMost; unfold roomMost; omega) (by decide)
      simp only [List.eraseIdx_cons_succ, List.eraseIdx_cons_zero] at O8
      simp (disch := first | assumption | omega | (simp only [wkD, oneCell, Option.isSome_some, *]; done) | (simp only [wkE, ne_eq]; omega)) only [ap1, wkF, X_region, X_seq, X_block, X_loop, X_cond, Y_box, Y_un, Y_store, Y_append, Y_makeMap, ibin_shl, ibin_shr, ibin_and, ↓reduceIte, reduceCtorEq, oneCell, setAt, readN, Nat.reduceAdd, Nat.reduceLeDiff, Nat.reduceMul, layAt, Nat.reduceLT, Nat.reduceEqDiff, setParams, Int.reduceLT, Int.reduceLE, Int.reduceGT, Int.reduceGE, Int.reduceEq, Int.reduceNe]
      refine Y_buildSliceO O8 (cs := g32 (S.H (k : Int)).g) rfl ?_
      intro b9 h9 O9 _
      obtain ⟨v10', h10, ap2, O10⟩ := sc_appendV (bytes := 4) (by decide) g32_len g32_one (O9.at 4 rfl) (Has.one (O9.at 4 rfl) 1 rfl) (by rw [gs_len]; show (k + 1) * 4 ≤ roomMost; unfold roomMost; omega) (by decide)
      simp only [List.eraseIdx_cons_succ, List.eraseIdx_cons_zero] at O10
      have yk : IntKind.i64.wrap ((k : Int) + 1) = ((k + 1 : Nat) : Int) := by rw [wrap_i64 (by omega) (by omega)]; omega
      simp (disch := first | assumption | omega | (simp only [wkD, oneCell, Option.isSome_some, *]; done) | (simp only [wkE, ne_eq]; omega)) only [ap2, yk, wkF, X_region, X_seq, X_block, X_loop, X_cond, Y_box, Y_un, Y_store, Y_append, Y_makeMap, Y_buildSlice, ibin_shl, ibin_shr, ibin_and, ↓reduceIte, reduceCtorEq, oneCell, setAt, readN, Nat.reduceAdd, Nat.reduceLeDiff, Nat.reduceMul, layAt, Nat.reduceLT, Nat.reduceEqDiff, setParams, Int.reduceLT, Int.reduceLE, Int.reduceGT, Int.reduceGE, Int.reduceEq, Int.reduceNe]
      refine Is_in ⟨C - (k + 1), sub_lt' hk hkc, k + 1, v9', v10', rfl, rfl, rfl, rfl, rfl, rfl, rfl, rfl, rfl, rfl, rfl, hkc, ?_⟩
      rw [hs_succ, gs_succ]
      exact (((O10.rid 3 rfl).rid 1 rfl).swap2)
    have hk' : ¬ (k : Int) < (C : Int) := by omega
    have hkC' : k = C := by omega
    subst hkC'
    have hq7 : l[i]? = some l[i] := List.getElem?_eq_getElem h0
    have okq := ok _ (List.getElem_mem h0)
    generalize l[i] = x at hq7 okq
    obtain ⟨b1, off1, sp1, c1, hv1, _, rd1⟩ := (V _ _ O5).rd cq_len hq7
    have e1 : pl = some ⟨b1, off1, sp1⟩ := by injection hv1
    subst e1
    obtain ⟨xp, xc, hxv⟩ := okq.s
    have xone : (cq x).all oneCell = true := by unfold cq; rw [hxv]; rfl
    have xcell : cellsOf (.agg (cq x).toArray) = cq x := rfl
    have xset : setAt [Value.int .i64 0, .int .i64 0, .int .i64 0, .int .u32 0, .int .u64 0, .int .i64 0, .slice none 0 0] 0 (cq x) = cq x := rfl
    simp (disch := first | assumption | omega | (simp only [wkD, oneCell, Option.isSome_some, *]; done) | (simp only [wkE, ne_eq]; omega)) only [g1, g2, g5, g6, g8, g9, g10, g11, gz, hk', wkF, X_region, X_seq, X_block, X_loop, X_cond, Y_box, Y_un, Y_store, Y_append, Y_makeMap, Y_buildSlice, ibin_shl, ibin_shr, ibin_and, ↓reduceIte, reduceCtorEq, oneCell, setAt, readN, Nat.reduceAdd, Nat.reduceLeDiff, Nat.reduceMul, layAt, Nat.reduceLT, Nat.reduceEqDiff, setParams, Int.reduceLT, Int.reduceLE, Int.reduceGT, Int.reduceGE, Int.reduceEq, Int.reduceNe]
    refine Is_in ?_
    simp (disch := first | assumption | omega | (simp only [wkD, oneCell, Option.isSome_some, *]; done) | (simp only [wkE, ne_eq]; omega)) only [wkF, X_region, X_block, X_loop, X_cond, Y_un, Y_store, Y_append, Y_makeMap, Y_buildSlice, ibin_shl, ibin_shr, ibin_and, ↓reduceIte, reduceCtorEq, oneCell, setAt, readN, Nat.reduceAdd, Nat.reduceLeDiff, Nat.reduceMul, layAt, Nat.reduceLT, Nat.reduceEqDiff, setParams, Int.reduceLT, Int.reduceLE, Int.reduceGT, Int.reduceGE, Int.reduceEq, Int.reduceNe]
    rw [X_seq]
    simp (disch := first | assumption | omega | (simp only [wkD, oneCell, Option.isSome_some, *]; done) | (simp only [wkE, ne_eq]; omega)) only [g1, g2, g5, g6, g8, g9, g10, g11, h0', hi0, Int.toNat_natCast, rd1, wkF, X_region, X_block, X_loop, X_cond, Y_un, Y_store, Y_append, Y_makeMap, Y_buildSlice, ibin_shl, ibin_shr, ibin_and, ↓reduceIte, reduceCtorEq, oneCell, setAt, readN, Nat.reduceAdd, Nat.reduceLeDiff, Nat.reduceMul, layAt, Nat.reduceLT, Nat.reduceEqDiff, setParams, Int.reduceLT, Int.reduceLE, Int.reduceGT, Int.reduceGE, Int.reduceEq, Int.reduceNe]
    refine Y_boxO O5 ?_
    intro b14 h6 O6 _
    replace O6 : Has ro h6 (Ob b14 (.cells [.int .i64 0, .int .i64 0, .int .i64 0, .int .u32 0, .int .u64 0, .int .i64 0, .slice none 0 0] 1 false) :: Sc 1 zc v9 (hs S k) :: Sc 1 g32 v10 (gs S k) :: Lg lb S :: Ob 0 (.cells [.int .i64 a, .int .i64 b, .int .i64 (k : Int)] 1 false) :: []) := O6
    have g6 := O6.get 0 rfl
    have p6 := O6.can 0 rfl
    have O7 := O6.set 0 rfl (.cells (cq x) 1 false)
    simp only [List.set_cons_zero] at O7
    simp (disch := first | assumption | omega | (simp only [wkD, oneCell, Option.isSome_some, *]; done) | (simp only [wkE, ne_eq]; omega)) only [g6, p6, xcell, xset, xone, cq_len, wkF, X_region, X_block, X_loop, X_cond, Y_un, Y_store, Y_append, Y_makeMap, Y_buildSlice, ibin_shl, ibin_shr, ibin_and, ↓reduceIte, reduceCtorEq, oneCell, setAt, readN, Nat.reduceAdd, Nat.reduceLeDiff, Nat.reduceMul, layAt, Nat.reduceLT, Nat.reduceEqDiff, setParams, Int.reduceLT, Int.reduceLE, Int.reduceGT, Int.reduceGE, Int.reduceEq, Int.reduceNe]
    clear g6 p6
    replace O7 : Has ro (h6.setB b14 (.cells (cq x) 1 false)) (Lg lb S :: Ob b14 (.cells [.int .i64 x.kd, .int .i64 x.rb, .int .i64 x.cell, .int .u32 x.gen, .int .u64 x.st, .int .i64 x.pr, x.cv] 1 false) :: Sc 1 zc v9 (hs S k) :: Sc 1 g32 v10 (gs S k) :: Ob 0 (.cells [.int .i64 a, .int .i64 b, .int .i64 (k : Int)] 1 false) :: []) := O7.at 3 rfl
    generalize h6.setB b14 _ = h7 at O7 ⊢
    rw [X_seq]
    clear rd1 gz
    refine X_cut0 (fun s => ∃ S', s.tmps.length = 225 ∧ s.tmps.getD 1 undefV = .slice (some ⟨b1, off1, sp1⟩) l.length cl ∧ s.tmps.getD 2 undefV = .pointer (some ⟨0, 0, none⟩) ∧ s.tmps.getD 5 undefV = .bool true ∧ s.tmps.getD 6 undefV = .pointer (some ⟨lb, 0, none⟩) ∧ s.tmps.getD 8 undefV = .int .i64 (i : Int) ∧ s.tmps.getD 9 undefV = v9 ∧ s.tmps.getD 10 undefV = v10 ∧ Stp S S' ∧ Has ro s.h [Sc 1 zc v9 (hs S k), Sc 1 g32 v10 (gs S k), Lg lb S', Ob 0 (.cells [.int .i64 a, .int .i64 b, .int .i64 (k : Int)] 1 false)]) ?_ ?_
    · have g1 := O7.get 1 rfl
      by_cases d0 : x.kd = 0
      · have d0' : (x.kd = 0) = True := eq_true d0
        simp (disch := first | assumption | omega | (simp only [wkD, oneCell, Option.isSome_some, *]; done) | (simp only [wkE, ne_eq]; omega)) only [g1, d0', wkF, X_region, X_seq, X_block, X_loop, X_cond, Y_box, Y_un, Y_store, Y_append, Y_makeMap, Y_buildSlice, ibin_shl, ibin_shr, ibin_and, ↓reduceIte, reduceCtorEq, oneCell, setAt, readN, Nat.reduceAdd, Nat.reduceLeDiff, Nat.reduceMul, layAt, Nat.reduceLT, Nat.reduceEqDiff, setParams, Int.reduceLT, Int.reduceLE, Int.reduceGT, Int.reduceGE, Int.reduceEq, Int.reduceNe]
        refine Z_is (place_h' (n := 4989) x.cell x.rb gi.w O7) ?_
        rintro v h8 ⟨rv, e, S', D, rfl, hp, O8⟩
        simp only at O8
        simp (disch := first | assumption | omega | (simp only [wkD, oneCell, Option.isSome_some, *]; done) | (simp only [wkE, ne_eq]; omega)) only [wkF, X_region, X_seq, X_block, X_loop, X_cond, Y_box, Y_un, Y_store, Y_append, Y_makeMap, Y_buildSlice, ibin_shl, ibin_shr, ibin_and, ↓reduceIte, reduceCtorEq, oneCell, setAt, readN, Nat.reduceAdd, Nat.reduceLeDiff, Nat.reduceMul, layAt, Nat.reduceLT, Nat.reduceEqDiff, setParams, Int.reduceLT, Int.reduceLE, Int.reduceGT, Int.reduceGE, Int.reduceEq, Int.reduceNe]
        refine mid_in ⟨S', rfl, rfl, rfl, rfl, rfl, rfl, rfl, rfl, stp_pla gi hp, ?_⟩
        exact ((((O8.rid 2 rfl).rid 1 rfl).at 2 rfl).at 2 rfl)
      by_cases d1 : x.kd = 1
      · have d1' : (x.kd = 1) = True := eq_true d1
        simp (disch := first | assumption | omega | (simp only [wkD, oneCell, Option.isSome_some, *]; done) | (simp only [wkE, ne_eq]; omega)) only [g1, d1', d0, wkF, X_region, X_seq, X_block, X_loop, X_cond, Y_box, Y_un, Y_store, Y_append, Y_makeMap, Y_buildSlice, ibin_shl, ibin_shr, ibin_and, ↓reduceIte, reduceCtorEq, oneCell, setAt, readN, Nat.reduceAdd, Nat.reduceLeDiff, Nat.reduceMul, layAt, Nat.reduceLT, Nat.reduceEqDiff, setParams, Int.reduceLT, Int.reduceLE, Int.reduceGT, Int.reduceGE, Int.reduceEq, Int.reduceNe]
        refine Z_is (renewed_h (n := 4989) x.rb gi.w (by omega) O7) ?_
        rintro v h8 ⟨S', hp, O8⟩
        simp only at O8
        simp (disch := first | assumption | omega | (simp only [wkD, oneCell, Option.isSome_some, *]; done) | (simp only [wkE, ne_eq]; omega)) only [wkF, X_region, X_seq, X_block, X_loop, X_cond, Y_box, Y_un, Y_store, Y_append, Y_makeMap, Y_buildSlice, ibin_shl, ibin_shr, ibin_and, ↓reduceIte, reduceCtorEq, oneCell, setAt, readN, Nat.reduceAdd, Nat.reduceLeDiff, Nat.reduceMul, layAt, Nat.reduceLT, Nat.reduceEqDiff, setParams, Int.reduceLT, Int.reduceLE, Int.reduceGT, Int.reduceGE, Int.reduceEq, Int.reduceNe]
        refine mid_in ⟨S', rfl, rfl, rfl, rfl, rfl, rfl, rfl, rfl, stp_ren gi hp, ?_⟩
        exact (((O8.rid 1 rfl).at 2 rfl).at 2 rfl)
      by_cases d2 : x.kd = 2
      · have d2' : (x.kd = 2) = True := eq_true d2
        simp (disch := first | assumption | omega | (simp only [wkD, oneCell, Option.isSome_some, *]; done) | (simp only [wkE, ne_eq]; omega)) only [g1, d2', d0, d1, wkF, X_region, X_seq, X_block, X_loop, X_cond, Y_box, Y_un, Y_store, Y_append, Y_makeMap, Y_buildSlice, ibin_shl, ibin_shr, ibin_and, ↓reduceIte, reduceCtorEq, oneCell, setAt, readN, Nat.reduceAdd, Nat.reduceLeDiff, Nat.reduceMul, layAt, Nat.reduceLT, Nat.reduceEqDiff, setParams, Int.reduceLT, Int.reduceLE, Int.reduceGT, Int.reduceGE, Int.reduceEq, Int.reduceNe]
        refine Z_is (status_h (n := 4979) (L := x.L) x.rb gi.w (by omega) (by have := hcl40 x (List.mem_of_getElem? hq7); omega) ⟨_, _, _, hxv⟩ (fun M h O => okq.v _ h O) O7) ?_
        rintro v h8 ⟨wv, pv, bv, e, S', o', rfl, hp, O8⟩
        simp only at O8
        simp (disch := first | assumption | omega | (simp only [wkD, oneCell, Option.isSome_some, *]; done) | (simp only [wkE, ne_eq]; omega)) only [wkF, X_region, X_seq, X_block, X_loop, X_cond, Y_box, Y_un, Y_store, Y_append, Y_makeMap, Y_buildSlice, ibin_shl, ibin_shr, ibin_and, ↓reduceIte, reduceCtorEq, oneCell, setAt, readN, Nat.reduceAdd, Nat.reduceLeDiff, Nat.reduceMul, layAt, Nat.reduceLT, Nat.reduceEqDiff, setParams, Int.reduceLT, Int.reduceLE, Int.reduceGT, Int.reduceGE, Int.reduceEq, Int.reduceNe]
        refine mid_in ⟨S', rfl, rfl, rfl, rfl, rfl, rfl, rfl, rfl, stp_stat gi hp, ?_⟩
        exact ((((O8.rid 2 rfl).rid 1 rfl).at 2 rfl).at 2 rfl)
      by_cases d3 : x.kd = 3
      · have d3' : (x.kd = 3) = True := eq_true d3
        simp (disch := first | assumption | omega | (simp only [wkD, oneCell, Option.isSome_some, *]; done) | (simp only [wkE, ne_eq]; omega)) only [g1, d3', d0, d1, d2, wkF, X_region, X_seq, X_block, X_loop, X_cond, Y_box, Y_un, Y_store, Y_append, Y_makeMap, Y_buildSlice, ibin_shl, ibin_shr, ibin_and, ↓reduceIte, reduceCtorEq, oneCell, setAt, readN, Nat.reduceAdd, Nat.reduceLeDiff, Nat.reduceMul, layAt, Nat.reduceLT, Nat.reduceEqDiff, setParams, Int.reduceLT, Int.reduceLE, Int.reduceGT, Int.reduceGE, Int.reduceEq, Int.reduceNe]
        refine Z_is (request_h (n := 4988) ⟨x.rb, x.st, x.pr⟩ x.cell gi.w (by omega) O7) ?_
        rintro v h8 ⟨wv, pv, bv, e, S', o', rfl, hp, O8⟩
        simp only at O8
        simp (disch := first | assumption | omega | (simp only [wkD, oneCell, Option.isSome_some, *]; done) | (simp only [wkE, ne_eq]; omega)) only [wkF, X_region, X_seq, X_block, X_loop, X_cond, Y_box, Y_un, Y_store, Y_append, Y_makeMap, Y_buildSlice, ibin_shl, ibin_shr, ibin_and, ↓reduceIte, reduceCtorEq, oneCell, setAt, readN, Nat.reduceAdd, Nat.reduceLeDiff, Nat.reduceMul, layAt, Nat.reduceLT, Nat.reduceEqDiff, setParams, Int.reduceLT, Int.reduceLE, Int.reduceGT, Int.reduceGE, Int.reduceEq, Int.reduceNe]
        refine mid_in ⟨S', rfl, rfl, rfl, rfl, rfl, rfl, rfl, rfl, stp_req gi hp, ?_⟩
        exact ((((O8.rid 2 rfl).rid 1 rfl).at 2 rfl).at 2 rfl)
      by_cases d4 : x.kd = 4
      · have d4' : (x.kd = 4) = True := eq_true d4
        simp (disch := first | assumption | omega | (simp only [wkD, oneCell, Option.isSome_some, *]; done) | (simp only [wkE, ne_eq]; omega)) only [g1, d4', d0, d1, d2, d3, wkF, X_region, X_seq, X_block, X_loop, X_cond, Y_box, Y_un, Y_store, Y_append, Y_makeMap, Y_buildSlice, ibin_shl, ibin_shr, ibin_and, ↓reduceIte, reduceCtorEq, oneCell, setAt, readN, Nat.reduceAdd, Nat.reduceLeDiff, Nat.reduceMul, layAt, Nat.reduceLT, Nat.reduceEqDiff, setParams, Int.reduceLT, Int.reduceLE, Int.reduceGT, Int.reduceGE, Int.reduceEq, Int.reduceNe]
        refine Z_is (release_h (n := 4992) x.rb x.cell x.gen gi.w (by omega) O7) ?_
        rintro v h8 ⟨wv, pv, bv, e, S', o', rfl, hp, O8⟩
        simp only at O8
        simp (disch := first | assumption | omega | (simp only [wkD, oneCell, Option.isSome_some, *]; done) | (simp only [wkE, ne_eq]; omega)) only [wkF, X_region, X_seq, X_block, X_loop, X_cond, Y_box, Y_un, Y_store, Y_append, Y_makeMap, Y_buildSlice, ibin_shl, ibin_shr, ibin_and, ↓reduceIte, reduceCtorEq, oneCell, setAt, readN, Nat.reduceAdd, Nat.reduceLeDiff, Nat.reduceMul, layAt, Nat.reduceLT, Nat.reduceEqDiff, setParams, Int.reduceLT, Int.reduceLE, Int.reduceGT, Int.reduceGE, Int.reduceEq, Int.reduceNe]
        refine mid_in ⟨S', rfl, rfl, rfl, rfl, rfl, rfl, rfl, rfl, stp_rel gi hp, ?_⟩
        exact ((((O8.rid 2 rfl).rid 1 rfl).at 2 rfl).at 2 rfl)
      simp (disch := first | assumption | omega | (simp only [wkD, oneCell, Option.isSome_some, *]; done) | (simp only [wkE, ne_eq]; omega)) only [g1, d0, d1, d2, d3, d4, wkF, X_region, X_seq, X_block, X_loop, X_cond, Y_box, Y_un, Y_store, Y_append, Y_makeMap, Y_buildSlice, ibin_shl, ibin_shr, ibin_and, ↓reduceIte, reduceCtorEq, oneCell, setAt, readN, Nat.reduceAdd, Nat.reduceLeDiff, Nat.reduceMul, layAt, Nat.reduceLT, Nat.reduceEqDiff, setParams, Int.reduceLT, Int.reduceLE, Int.reduceGT, Int.reduceGE, Int.reduceEq, Int.reduceNe]
      refine mid_in ⟨S, rfl, rfl, rfl, rfl, rfl, rfl, rfl, rfl, Stp.refl gi, ?_⟩
      exact (((O7.rid 1 rfl).at 2 rfl).at 2 rfl)
    clear O7 O6 g1 g2 g5 g6 g8 g9 g10 g11 w
    rintro tm h8 ⟨S', hlen_, g1, g2, g5, g6, g8, g9, g10, hst, O8⟩
    simp only at g1 g2 g5 g6 g8 g9 g10 O8
    obtain ⟨w, hg_, rfl⟩ := explode hlen_
    simp only [hg_] at g1 g2 g5 g6 g8 g9 g10
    clear hlen_ hg_
    simp (disch := first | assumption | omega | (simp only [wkD, oneCell, Option.isSome_some, *]; done) | (simp only [wkE, ne_eq]; omega)) only [kont_code, wkF, X_region, X_seq, X_block, X_loop, X_cond, Y_box, Y_un, Y_store, Y_append, Y_makeMap, Y_buildSlice, ibin_shl, ibin_shr, ibin_and, ↓reduceIte, reduceCtorEq, oneCell, setAt, readN, Nat.reduceAdd, Nat.reduceLeDiff, Nat.reduceMul, layAt, Nat.reduceLT, Nat.reduceEqDiff, setParams, Int.reduceLT, Int.reduceLE, Int.reduceGT, Int.reduceGE, Int.reduceEq, Int.reduceNe]
    have gi' := hst.1
    refine L_is (fun q s => ∃ (m : Nat), q = k - m ∧ s.defers = [] ∧ s.tmps.length = 225 ∧ s.tmps.getD 1 undefV = .slice (some ⟨b1, off1, sp1⟩) l.length cl ∧ s.tmps.getD 2 undefV = .pointer (some ⟨0, 0, none⟩) ∧ s.tmps.getD 5 undefV = .bool true ∧ s.tmps.getD 6 undefV = .pointer (some ⟨lb, 0, none⟩) ∧ s.tmps.getD 8 undefV = .int .i64 (i : Int) ∧ s.tmps.getD 9 undefV = v9 ∧ s.tmps.getD 10 undefV = v10 ∧ s.tmps.getD 15 undefV = .int .i64 (m : Int) ∧ m ≤ k ∧ Has ro s.h [Sc 1 zc v9 (hs S k), Sc 1 g32 v10 (gs S k), Lg lb S', Ob 0 (.cells [.int .i64 a, .int .i64 b, .int .i64 (k : Int)] 1 false)]) k ?_ (by omega) ?_
    · exact ⟨0, rfl, rfl, rfl, g1, g2, g5, g6, g8, g9, g10, rfl, Nat.zero_le _, O8⟩
    clear O8 g1 g2 g5 g6 g8 g9 g10 w
    rintro q tm df h9 ⟨m, hk, hd, hlen_, g1, g2, g5, g6, g8, g9, g10, g15, hmk, O9⟩
    simp only at hd g1 g2 g5 g6 g8 g9 g10 g15 O9
    subst hd
    obtain ⟨w, hg_, rfl⟩ := explode hlen_
    simp only [hg_] at g1 g2 g5 g6 g8 g9 g10 g15
    clear hlen_ hg_
    have hkm := hk
    have gz := O9.get 3 rfl
    by_cases hm : m < k
    · have hm' : (m : Int) < (k : Int) := by omega
      have hm0 : (0 : Int) ≤ (m : Int) := by omega
      simp (disch := first | assumption | omega | (simp only [wkD, oneCell, Option.isSome_some, *]; done) | (simp only [wkE, ne_eq]; omega)) only [g1, g2, g5, g6, g8, g9, g10, g15, gz, hm', wkF, X_region, X_seq, X_block, X_loop, X_cond, Y_box, Y_un, Y_store, Y_append, Y_makeMap, Y_buildSlice, ibin_shl, ibin_shr, ibin_and, ↓reduceIte, reduceCtorEq, oneCell, setAt, readN, Nat.reduceAdd, Nat.reduceLeDiff, Nat.reduceMul, layAt, Nat.reduceLT, Nat.reduceEqDiff, setParams, Int.reduceLT, Int.reduceLE, Int.reduceGT, Int.reduceGE, Int.reduceEq, Int.reduceNe]
      refine Z_is (holder_H (n := 4996) (m : Int) (O9.at 2 rfl)) ?_
      rintro v10' h10 ⟨rfl, O10⟩
      simp only at O10
      replace O10 : Has ro h10 (Lg lb S' :: Sc 1 zc v9 (hs S k) :: Sc 1 g32 v10 (gs S k) :: Ob 0 (.cells [.int .i64 a, .int .i64 b, .int .i64 (k : Int)] 1 false) :: []) := O10
      obtain ⟨b2, off2, sp2, c2, hv2, _, rd2⟩ := (O10.vw 1 rfl).rd zc_len (hs_get S hm)
      obtain ⟨b3, off3, sp3, c3', hv3, _, rd3⟩ := (O10.vw 2 rfl).rd g32_len (gs_get S hm)
      rw [hs_len] at hv2
      rw [gs_len] at hv3
      subst hv2 hv3
      unfold zc at rd2
      unfold g32 at rd3
      rw [Nat.mul_one] at rd2 rd3
      have hge := H_ge hst (m : Int)
      have hvc := V_gc gi' (m : Int)
      have hvl := V_len gi' (m : Int)
      generalize S'.H (m : Int) = E2 at hge hvc ⊢
      generalize S.H (m : Int) = E1 at hge rd2 rd3
      simp (disch := first | assumption | omega | (simp only [wkD, oneCell, Option.isSome_some, *]; done) | (simp only [wkE, ne_eq]; omega)) only [wkF, X_region, X_block, X_loop, X_cond, Y_box, Y_un, Y_store, Y_append, Y_makeMap, Y_buildSlice, ibin_shl, ibin_shr, ibin_and, ↓reduceIte, reduceCtorEq, oneCell, setAt, readN, Nat.reduceAdd, Nat.reduceLeDiff, Nat.reduceMul, layAt, Nat.reduceLT, Nat.reduceEqDiff, setParams, Int.reduceLT, Int.reduceLE, Int.reduceGT, Int.reduceGE, Int.reduceEq, Int.reduceNe]
      rw [X_seq]
      refine X_cut0 (fun s => s.tmps.length = 225 ∧ s.tmps.getD 1 undefV = .slice (some ⟨b1, off1, sp1⟩) l.length cl ∧ s.tmps.getD 2 undefV = .pointer (some ⟨0, 0, none⟩) ∧ s.tmps.getD 5 undefV = .bool true ∧ s.tmps.getD 6 undefV = .pointer (some ⟨lb, 0, none⟩) ∧ s.tmps.getD 8 undefV = .int .i64 (i : Int) ∧ s.tmps.getD 9 undefV = .slice (some ⟨b2, off2, sp2⟩) k c2 ∧ s.tmps.getD 10 undefV = .slice (some ⟨b3, off3, sp3⟩) k c3' ∧ s.tmps.getD 15 undefV = .int .i64 (m : Int) ∧ s.tmps.getD 16 undefV = .int .i64 E2.o ∧ s.tmps.getD 17 undefV = .int .u32 E2.g ∧ s.h = h10) ?_ ?_
      · have n1 : ¬ E2.g < E1.g := by have := hge.up; omega
        by_cases e : E2.o = E1.o
        · have et := eq_true e
          by_cases e1 : E2.o = -1
          · have e1t := eq_true e1
            simp (maxSteps := 4000000) (disch := first | assumption | omega | (simp only [wkD, oneCell, Option.isSome_some, *]; done) | (simp only [wkE, ne_eq]; omega)) only [hm', hm0, rd2, rd3, n1, Nat.mul_one, Int.toNat_natCast, et, e1t, wkF, X_region, X_seq, X_block, X_loop, X_cond, Y_box, Y_un, Y_store, Y_append, Y_makeMap, Y_buildSlice, ibin_shl, ibin_shr, ibin_and, ↓reduceIte, reduceCtorEq, oneCell, setAt, readN, Nat.reduceAdd, Nat.reduceLeDiff, Nat.reduceMul, layAt, Nat.reduceLT, Nat.reduceEqDiff, setParams, Int.reduceLT, Int.reduceLE, Int.reduceGT, Int.reduceGE, Int.reduceEq, Int.reduceNe]
            exact mid_in ⟨rfl, rfl, rfl, rfl, rfl, rfl, rfl, rfl, rfl, rfl, rfl, rfl⟩
          · have e3 : ¬ E1.o = -1 := by omega
            have e2t := eq_true (hge.old e e1)
            simp (maxSteps := 4000000) (disch := first | assumption | omega | (simp only [wkD, oneCell, Option.isSome_some, *]; done) | (simp only [wkE, ne_eq]; omega)) only [hm', hm0, rd2, rd3, n1, Nat.mul_one, Int.toNat_natCast, et, e1, e3, e2t, wkF, X_region, X_seq, X_block, X_loop, X_cond, Y_box, Y_un, Y_store, Y_append, Y_makeMap, Y_buildSlice, ibin_shl, ibin_shr, ibin_and, ↓reduceIte, reduceCtorEq, oneCell, setAt, readN, Nat.reduceAdd, Nat.reduceLeDiff, Nat.reduceMul, layAt, Nat.reduceLT, Nat.reduceEqDiff, setParams, Int.reduceLT, Int.reduceLE, Int.reduceGT, Int.reduceGE, Int.reduceEq, Int.reduceNe]
            exact mid_in ⟨rfl, rfl, rfl, rfl, rfl, rfl, rfl, rfl, rfl, rfl, rfl, rfl⟩
        · by_cases e1 : E2.o = -1
          · have e1t := eq_true e1
            simp (maxSteps := 4000000) (disch := first | assumption | omega | (simp only [wkD, oneCell, Option.isSome_some, *]; done) | (simp only [wkE, ne_eq]; omega)) only [hm', hm0, rd2, rd3, n1, Nat.mul_one, Int.toNat_natCast, e, e1t, wkF, X_region, X_seq, X_block, X_loop, X_cond, Y_box, Y_un, Y_store, Y_append, Y_makeMap, Y_buildSlice, ibin_shl, ibin_shr, ibin_and, ↓reduceIte, reduceCtorEq, oneCell, setAt, readN, Nat.reduceAdd, Nat.reduceLeDiff, Nat.reduceMul, layAt, Nat.reduceLT, Nat.reduceEqDiff, setParams, Int.reduceLT, Int.reduceLE, Int.reduceGT, Int.reduceGE, Int.reduceEq, Int.reduceNe]
            exact mid_in ⟨rfl, rfl, rfl, rfl, rfl, rfl, rfl, rfl, rfl, rfl, rfl, rfl⟩
          · have e2 : ¬ E2.g ≤ E1.g := by have := hge.new e e1; omega
            simp (maxSteps := 4000000) (disch := first | assumption | omega | (simp only [wkD, oneCell, Option.isSome_some, *]; done) | (simp only [wkE, ne_eq]; omega)) only [hm', hm0, rd2, rd3, n1, Nat.mul_one, Int.toNat_natCast, e, e1, e2, wkF, X_region, X_seq, X_block, X_loop, X_cond, Y_box, Y_un, Y_store, Y_append, Y_makeMap, Y_buildSlice, ibin_shl, ibin_shr, ibin_and, ↓reduceIte, reduceCtorEq, oneCell, setAt, readN, Nat.reduceAdd, Nat.reduceLeDiff, Nat.reduceMul, layAt, Nat.reduceLT, Nat.reduceEqDiff, setParams, Int.reduceLT, Int.reduceLE, Int.reduceGT, Int.reduceGE, Int.reduceEq, Int.reduceNe]
            exact mid_in ⟨rfl, rfl, rfl, rfl, rfl, rfl, rfl, rfl, rfl, rfl, rfl, rfl⟩
      clear rd2 rd3 g1 g2 g5 g6 g8 g9 g10 g15 w
      rintro tm h11 ⟨hlen_, g1, g2, g5, g6, g8, g9, g10, g15, g16, g17, hh⟩
      simp only at g1 g2 g5 g6 g8 g9 g10 g15 g16 g17 hh
      obtain ⟨w, hg_, rfl⟩ := explode hlen_
      simp only [hg_] at g1 g2 g5 g6 g8 g9 g10 g15 g16 g17
      clear hlen_ hg_
      subst hh
      simp (disch := first | assumption | omega | (simp only [wkD, oneCell, Option.isSome_some, *]; done) | (simp only [wkE, ne_eq]; omega)) only [kont_code, wkF, X_region, X_seq, X_block, X_loop, X_cond, Y_box, Y_un, Y_store, Y_append, Y_makeMap, Y_buildSlice, ibin_shl, ibin_shr, ibin_and, ↓reduceIte, reduceCtorEq, oneCell, setAt, readN, Nat.reduceAdd, Nat.reduceLeDiff, Nat.reduceMul, layAt, Nat.reduceLT, Nat.reduceEqDiff, setParams, Int.reduceLT, Int.reduceLE, Int.reduceGT, Int.reduceGE, Int.reduceEq, Int.reduceNe]
      simp (disch := first | assumption | omega | (simp only [wkD, oneCell, Option.isSome_some, *]; done) | (simp only [wkE, ne_eq]; omega)) only [g1, g2, g5, g6, g8, g9, g10, g15, g16, g17, wkF, X_region, X_seq, X_block, X_loop, X_cond, Y_box, Y_un, Y_store, Y_append, Y_makeMap, Y_buildSlice, ibin_shl, ibin_shr, ibin_and, ↓reduceIte, reduceCtorEq, oneCell, setAt, readN, Nat.reduceAdd, Nat.reduceLeDiff, Nat.reduceMul, layAt, Nat.reduceLT, Nat.reduceEqDiff, setParams, Int.reduceLT, Int.reduceLE, Int.reduceGT, Int.reduceGE, Int.reduceEq, Int.reduceNe]
      refine Z_is (waiters_V (n := 4996) (m : Int) gi'.w O10) ?_
      rintro v12 h12 O12
      simp only at O12
      generalize S'.V (m : Int) = VL at hvc hvl O12
      obtain ⟨vp, vcap, hvv, _⟩ := O12.scVal 0 rfl
      subst hvv
      have m8 : ¬ (8 : Int) < (VL.length : Int) := by omega
      simp (disch := first | assumption | omega | (simp only [wkD, oneCell, Option.isSome_some, *]; done) | (simp only [wkE, ne_eq]; omega)) only [wkF, X_region, X_block, X_loop, X_cond, Y_box, Y_un, Y_store, Y_append, Y_makeMap, Y_buildSlice, ibin_shl, ibin_shr, ibin_and, ↓reduceIte, reduceCtorEq, oneCell, setAt, readN, Nat.reduceAdd, Nat.reduceLeDiff, Nat.reduceMul, layAt, Nat.reduceLT, Nat.reduceEqDiff, setParams, Int.reduceLT, Int.reduceLE, Int.reduceGT, Int.reduceGE, Int.reduceEq, Int.reduceNe]
      rw [X_seq]
      have ym : IntKind.i64.wrap ((m : Int) + 1) = ((m + 1 : Nat) : Int) := by rw [wrap_i64 (by omega) (by omega)]; omega
      refine X_cut0 (fun s => s.tmps.length = 225 ∧ s.tmps.getD 1 undefV = .slice (some ⟨b1, off1, sp1⟩) l.length cl ∧ s.tmps.getD 2 undefV = .pointer (some ⟨0, 0, none⟩) ∧ s.tmps.getD 5 undefV = .bool true ∧ s.tmps.getD 6 undefV = .pointer (some ⟨lb, 0, none⟩) ∧ s.tmps.getD 8 undefV = .int .i64 (i : Int) ∧ s.tmps.getD 9 undefV = .slice (some ⟨b2, off2, sp2⟩) k c2 ∧ s.tmps.getD 10 undefV = .slice (some ⟨b3, off3, sp3⟩) k c3' ∧ s.tmps.getD 15 undefV = .int .i64 (m : Int) ∧ s.tmps.getD 16 undefV = .int .i64 E2.o ∧ s.tmps.getD 17 undefV = .int .u32 E2.g ∧ s.tmps.getD 18 undefV = .slice vp VL.length vcap ∧ s.h = h12) ?_ ?_
      · by_cases z : 0 < VL.length
        · have z' : (0 : Int) < (VL.length : Int) := by omega
          by_cases e1 : E2.o = -1
          · have e1t := eq_true e1
            have e2 : ¬ E2.g < 4294967295 := by
              have := hvc.m (fun e => by rw [e] at z; simp at z) e1
              omega
            simp (maxSteps := 4000000) (disch := first | assumption | omega | (simp only [wkD, oneCell, Option.isSome_some, *]; done) | (simp only [wkE, ne_eq]; omega)) only [m8, z', e1t, e2, wkF, X_region, X_seq, X_block, X_loop, X_cond, Y_box, Y_un, Y_store, Y_append, Y_makeMap, Y_buildSlice, ibin_shl, ibin_shr, ibin_and, ↓reduceIte, reduceCtorEq, oneCell, setAt, readN, Nat.reduceAdd, Nat.reduceLeDiff, Nat.reduceMul, layAt, Nat.reduceLT, Nat.reduceEqDiff, setParams, Int.reduceLT, Int.reduceLE, Int.reduceGT, Int.reduceGE, Int.reduceEq, Int.reduceNe]
            exact mid_in ⟨rfl, rfl, rfl, rfl, rfl, rfl, rfl, rfl, rfl, rfl, rfl, rfl, rfl⟩
          · simp (maxSteps := 4000000) (disch := first | assumption | omega | (simp only [wkD, oneCell, Option.isSome_some, *]; done) | (simp only [wkE, ne_eq]; omega)) only [m8, z', e1, wkF, X_region, X_seq, X_block, X_loop, X_cond, Y_box, Y_un, Y_store, Y_append, Y_makeMap, Y_buildSlice, ibin_shl, ibin_shr, ibin_and, ↓reduceIte, reduceCtorEq, oneCell, setAt, readN, Nat.reduceAdd, Nat.reduceLeDiff, Nat.reduceMul, layAt, Nat.reduceLT, Nat.reduceEqDiff, setParams, Int.reduceLT, Int.reduceLE, Int.reduceGT, Int.reduceGE, Int.reduceEq, Int.reduceNe]
            exact mid_in ⟨rfl, rfl, rfl, rfl, rfl, rfl, rfl, rfl, rfl, rfl, rfl, rfl, rfl⟩
        · have z' : ¬ (0 : Int) < (VL.length : Int) := by omega
          simp (maxSteps := 4000000) (disch := first | assumption | omega | (simp only [wkD, oneCell, Option.isSome_some, *]; done) | (simp only [wkE, ne_eq]; omega)) only [m8, z', wkF, X_region, X_seq, X_block, X_loop, X_cond, Y_box, Y_un, Y_store, Y_append, Y_makeMap, Y_buildSlice, ibin_shl, ibin_shr, ibin_and, ↓reduceIte, reduceCtorEq, oneCell, setAt, readN, Nat.reduceAdd, Nat.reduceLeDiff, Nat.reduceMul, layAt, Nat.reduceLT, Nat.reduceEqDiff, setParams, Int.reduceLT, Int.reduceLE, Int.reduceGT, Int.reduceGE, Int.reduceEq, Int.reduceNe]
          exact mid_in ⟨rfl, rfl, rfl, rfl, rfl, rfl, rfl, rfl, rfl, rfl, rfl, rfl, rfl⟩
      clear g1 g2 g5 g6 g8 g9 g10 g15 g16 g17 w
      rintro tm h13 ⟨hlen_, g1, g2, g5, g6, g8, g9, g10, g15, g16, g17, g18, hh⟩
      simp only at g1 g2 g5 g6 g8 g9 g10 g15 g16 g17 g18 hh
      obtain ⟨w, hg_, rfl⟩ := explode hlen_
      simp only [hg_] at g1 g2 g5 g6 g8 g9 g10 g15 g16 g17 g18
      clear hlen_ hg_
      subst hh
      simp (disch := first | assumption | omega | (simp only [wkD, oneCell, Option.isSome_some, *]; done) | (simp only [wkE, ne_eq]; omega)) only [kont_code, wkF, X_region, X_seq, X_block, X_loop, X_cond, Y_box, Y_un, Y_store, Y_append, Y_makeMap, Y_buildSlice, ibin_shl, ibin_shr, ibin_and, ↓reduceIte, reduceCtorEq, oneCell, setAt, readN, Nat.reduceAdd, Nat.reduceLeDiff, Nat.reduceMul, layAt, Nat.reduceLT, Nat.reduceEqDiff, setParams, Int.reduceLT, Int.reduceLE, Int.reduceGT, Int.reduceGE, Int.reduceEq, Int.reduceNe]
      refine L_is (fun q s => ∃ j : Nat, q = VL.length - j ∧ s.defers = [] ∧ s.tmps.length = 225 ∧ s.tmps.getD 1 undefV = .slice (some ⟨b1, off1, sp1⟩) l.length cl ∧ s.tmps.getD 2 undefV = .pointer (some ⟨0, 0, none⟩) ∧ s.tmps.getD 5 undefV = .bool true ∧ s.tmps.getD 6 undefV = .pointer (some ⟨lb, 0, none⟩) ∧ s.tmps.getD 8 undefV = .int .i64 (i : Int) ∧ s.tmps.getD 9 undefV = .slice (some ⟨b2, off2, sp2⟩) k c2 ∧ s.tmps.getD 10 undefV = .slice (some ⟨b3, off3, sp3⟩) k c3' ∧ s.tmps.getD 15 undefV = .int .i64 (m : Int) ∧ s.tmps.getD 16 undefV = .int .i64 E2.o ∧ s.tmps.getD 17 undefV = .int .u32 E2.g ∧ s.tmps.getD 18 undefV = .slice vp VL.length vcap ∧ s.tmps.getD 19 undefV = .int .i64 (j : Int) ∧ j ≤ VL.length ∧ s.h = h13) VL.length ?_ (by omega) ?_
      · exact ⟨0, rfl, rfl, rfl, g1, g2, g5, g6, g8, g9, g10, g15, g16, g17, g18, rfl, Nat.zero_le _, rfl⟩
      clear g1 g2 g5 g6 g8 g9 g10 g15 g16 g17 g18 w
      rintro q tm df h14 ⟨j, hk, hd, hlen_, g1, g2, g5, g6, g8, g9, g10, g15, g16, g17, g18, g19, hjl, hh⟩
      simp only at hd g1 g2 g5 g6 g8 g9 g10 g15 g16 g17 g18 g19 hh
      subst hd
      obtain ⟨w, hg_, rfl⟩ := explode hlen_
      simp only [hg_] at g1 g2 g5 g6 g8 g9 g10 g15 g16 g17 g18 g19
      clear hlen_ hg_
      subst hh
      by_cases hj : j < VL.length
      · have hj' : (j : Int) < (VL.length : Int) := by omega
        have hj0 : (0 : Int) ≤ (j : Int) := by omega
        obtain ⟨b4, off4, sp4, c4, hv4, k4, _⟩ := (O12.vw 0 rfl).rd ic_len (nth_get hj)
        have e4 : vp = some ⟨b4, off4, sp4⟩ := by injection hv4
        subst e4
        have r4 := k4 0 1 (by decide)
        rw [Nat.add_zero] at r4
        have q4 : readN (ic (nth VL j)) 0 1 = some [.int .i64 (nth VL j).r] := rfl
        rw [q4] at r4
        have hne : ¬ (nth VL j).r = E2.o := (hvc.x _ (List.mem_of_getElem? (nth_get hj))).1
        have yj : IntKind.i64.wrap ((j : Int) + 1) = ((j + 1 : Nat) : Int) := by rw [wrap_i64 (by omega) (by omega)]; omega
        simp (disch := first | assumption | omega | (simp only [wkD, oneCell, Option.isSome_some, *]; done) | (simp only [wkE, ne_eq]; omega)) only [g1, g2, g5, g6, g8, g9, g10, g15, g16, g17, g18, g19, hj', hj0, Int.toNat_natCast, r4, hne, yj, wkF, X_region, X_seq, X_block, X_loop, X_cond, Y_box, Y_un, Y_store, Y_append, Y_makeMap, Y_buildSlice, ibin_shl, ibin_shr, ibin_and, ↓reduceIte, reduceCtorEq, oneCell, setAt, readN, Nat.reduceAdd, Nat.reduceLeDiff, Nat.reduceMul, layAt, Nat.reduceLT, Nat.reduceEqDiff, setParams, Int.reduceLT, Int.reduceLE, Int.reduceGT, Int.reduceGE, Int.reduceEq, Int.reduceNe]
        exact Is_in ⟨VL.length - (j + 1), sub_lt' hk hj, j + 1, rfl, rfl, rfl, rfl, rfl, rfl, rfl, rfl, rfl, rfl, rfl, rfl, rfl, rfl, rfl, hj, rfl⟩
      · have hj' : ¬ (j : Int) < (VL.length : Int) := by omega
        simp (disch := first | assumption | omega | (simp only [wkD, oneCell, Option.isSome_some, *]; done) | (simp only [wkE, ne_eq]; omega)) only [g1, g2, g5, g6, g8, g9, g10, g15, g16, g17, g18, g19, hj', wkF, X_region, X_seq, X_block, X_loop, X_cond, Y_box, Y_un, Y_store, Y_append, Y_makeMap, Y_buildSlice, ibin_shl, ibin_shr, ibin_and, ↓reduceIte, reduceCtorEq, oneCell, setAt, readN, Nat.reduceAdd, Nat.reduceLeDiff, Nat.reduceMul, layAt, Nat.reduceLT, Nat.reduceEqDiff, setParams, Int.reduceLT, Int.reduceLE, Int.reduceGT, Int.reduceGE, Int.reduceEq, Int.reduceNe]
        refine Is_in ?_
        simp (disch := first | assumption | omega | (simp only [wkD, oneCell, Option.isSome_some, *]; done) | (simp only [wkE, ne_eq]; omega)) only [g1, g2, g5, g6, g8, g9, g10, g15, g16, g17, g18, g19, ym, wkF, X_region, X_seq, X_block, X_loop, X_cond, Y_box, Y_un, Y_store, Y_append, Y_makeMap, Y_buildSlice, ibin_shl, ibin_shr, ibin_and, ↓reduceIte, reduceCtorEq, oneCell, setAt, readN, Nat.reduceAdd, Nat.reduceLeDiff, Nat.reduceMul, layAt, Nat.reduceLT, Nat.reduceEqDiff, setParams, Int.reduceLT, Int.reduceLE, Int.reduceGT, Int.reduceGE, Int.reduceEq, Int.reduceNe]
        refine Is_in ⟨k - (m + 1), sub_lt' hkm hm, m + 1, rfl, rfl, rfl, rfl, rfl, rfl, rfl, rfl, rfl, rfl, rfl, hm, (O12.drop.at 2 rfl).at 2 rfl⟩
    have hm' : ¬ (m : Int) < (k : Int) := by omega
    have yi : IntKind.i64.wrap ((i : Int) + 1) = ((i + 1 : Nat) : Int) := by rw [wrap_i64 (by omega) (by omega)]; omega
    simp (disch := first | assumption | omega | (simp only [wkD, oneCell, Option.isSome_some, *]; done) | (simp only [wkE, ne_eq]; omega)) only [g1, g2, g5, g6, g8, g9, g10, g15, gz, hm', wkF, X_region, X_seq, X_block, X_loop, X_cond, Y_box, Y_un, Y_store, Y_append, Y_makeMap, Y_buildSlice, ibin_shl, ibin_shr, ibin_and, ↓reduceIte, reduceCtorEq, oneCell, setAt, readN, Nat.reduceAdd, Nat.reduceLeDiff, Nat.reduceMul, layAt, Nat.reduceLT, Nat.reduceEqDiff, setParams, Int.reduceLT, Int.reduceLE, Int.reduceGT, Int.reduceGE, Int.reduceEq, Int.reduceNe]
    refine Is_in ?_
    simp (disch := first | assumption | omega | (simp only [wkD, oneCell, Option.isSome_some, *]; done) | (simp only [wkE, ne_eq]; omega)) only [g1, g2, g5, g6, g8, g9, g10, g15, yi, wkF, X_region, X_seq, X_block, X_loop, X_cond, Y_box, Y_un, Y_store, Y_append, Y_makeMap, Y_buildSlice, ibin_shl, ibin_shr, ibin_and, ↓reduceIte, reduceCtorEq, oneCell, setAt, readN, Nat.reduceAdd, Nat.reduceLeDiff, Nat.reduceMul, layAt, Nat.reduceLT, Nat.reduceEqDiff, setParams, Int.reduceLT, Int.reduceLE, Int.reduceGT, Int.reduceGE, Int.reduceEq, Int.reduceNe]
    refine Is_in ⟨l.length - (i + 1), sub_lt' hki h0, i + 1, S', rfl, rfl, rfl, rfl, rfl, rfl, rfl, rfl, h0, gi', (O9.rid 1 rfl).rid 0 rfl⟩
  have h0' : ¬ (i : Int) < (l.length : Int) := by omega
  simp (disch := first | assumption | omega | (simp only [wkD, oneCell, Option.isSome_some, *]; done) | (simp only [wkE, ne_eq]; omega)) only [g1, g2, g5, g6, g8, h0', wkF, X_region, X_seq, X_block, X_loop, X_cond, Y_box, Y_un, Y_store, Y_append, Y_makeMap, Y_buildSlice, ibin_shl, ibin_shr, ibin_and, ↓reduceIte, reduceCtorEq, oneCell, setAt, readN, Nat.reduceAdd, Nat.reduceLeDiff, Nat.reduceMul, layAt, Nat.reduceLT, Nat.reduceEqDiff, setParams, Int.reduceLT, Int.reduceLE, Int.reduceGT, Int.reduceGE, Int.reduceEq, Int.reduceNe]
  refine Is_in ?_
  simp (disch := first | assumption | omega | (simp only [wkD, oneCell, Option.isSome_some, *]; done) | (simp only [wkE, ne_eq]; omega)) only [g1, g2, g5, g6, g8, wkF, X_region, X_seq, X_block, X_loop, X_cond, Y_box, Y_un, Y_store, Y_append, Y_makeMap, Y_buildSlice, ibin_shl, ibin_shr, ibin_and, ↓reduceIte, reduceCtorEq, oneCell, setAt, readN, Nat.reduceAdd, Nat.reduceLeDiff, Nat.reduceMul, layAt, Nat.reduceLT, Nat.reduceEqDiff, setParams, Int.reduceLT, Int.reduceLE, Int.reduceGT, Int.reduceGE, Int.reduceEq, Int.reduceNe]
  exact leaf1 rfl
theorem sz_inv {d : Nat} {ro : Nat → Option (List Value × Nat)} {cs : Array Value} (h : Fits2 (DFit Try.prog ro d) [.flat (.int .i64), .flat (.int .i64), .flat (.int .i64)] cs.toList) : ∃ a b c : Int, Value.agg cs = .agg #[.int .i64 a, .int .i64 b, .int .i64 c] := by
  obtain ⟨v, w, e1, h1, h⟩ := f2_cons h
  obtain ⟨v2, w2, e2, h2, h⟩ := f2_cons h
  obtain ⟨v3, w3, e3, h3, h⟩ := f2_cons h
  have e4 := f2_nil h
  obtain ⟨x1, rfl, _⟩ := flat_i64 h1
  obtain ⟨x2, rfl, _⟩ := flat_i64 h2
  obtain ⟨x3, rfl, _⟩ := flat_i64 h3
  subst e4 e3 e2
  refine ⟨x1, x2, x3, ?_⟩
  congr 1
  exact Array.toList_inj.1 e1
theorem ledgerGens_all (ro : Nat → Option (List Value × Nat)) (vs : List Value) (ha : ArgsD Try.prog ro 2 [.agg [.flat (.int .i64), .flat (.int .i64), .flat (.int .i64)], .one (.slice 41)] vs) : (run env 5000 7 vs (fresh ro)).True := by
  match vs, ha with
  | [v0, v1], ha =>
    obtain ⟨⟨cs, rfl, h0⟩, h1, -⟩ := ha
    obtain ⟨a, b, c, e⟩ := sz_inv h0
    obtain ⟨p, l, cl, rfl, hok, h2, h3, hV⟩ := dslice h1 cq_kinds cq_size (by simp) cq (OkQ ro) cq_inv
    rw [e]
    exact run_true (ledgerGens_run hok h2 h3 hV).all
  | [], ha => exact ha.elim
  | [_], ha => exact ha.2.elim
  | _ :: _ :: _ :: _, ha => exact ha.2.2.elim
theorem own : ownKnob Try.prog.godebug = none := by kernel_rfl
theorem mixed : Try.prog.follows .mixedOrders = true := by kernel_rfl
theorem laid_out : laidOutB Try.prog = true := by kernel_rfl
theorem ledgerGens_kinds : Try.f7.params.toList.mapM (pdOf Try.prog) = some [.agg [.flat (.int .i64), .flat (.int .i64), .flat (.int .i64)], .one (.slice 41)] := by kernel_rfl
theorem ledgerGens_reads : Try.f7.params.toList.all (fun t => Try.prog.readableRec t && decide (t < Try.prog.types.size)) = true := by kernel_rfl
theorem ledgerGens_size : Try.f7.params.size = 2 := by kernel_rfl
theorem ledgerGens_lifted (os : Os) (started : os.Started) (H : Type) (enc : TypeId × Value → H) :
    ReturnsInHanded {} Try.checked os 7 .any (Rows.ledgerGensSpec.pre6 enc Try.prog Try.f7 [] false) (Rows.ledgerGensSpec.post enc Try.prog Try.f7 false true false false) :=
 deep_open_lifted (C := Try.checked) (n := 5000) 2 own started (by kernel_rfl) Try.func7 (ChangeSpec.witness6 false ⟨#[], #[.agg #[.int .i64 0, .int .i64 0, .int .i64 0], .slice none 0 0], []⟩ 8 (by kernel_rfl) (by kernel_rfl) (by kernel_rfl) (by kernel_rfl)) mixed env_ok laid_out ledgerGens_kinds ledgerGens_reads (by rfl) Try.underlying4 rfl
    (fun ds hds => by rw [ledgerGens_size] at hds; match ds, hds with | [_, _], _ => rfl) ledgerGens_all
theorem ledgerGens_holds : Rows.LedgerGensSaid :=
  OpenClaim.holds_of_wide 7 Try.f7 rfl rfl rfl rfl rfl rfl rfl ⟨rfl, rfl, rfl, rfl, rfl⟩ rfl rfl rfl rfl rfl (by kernel_rfl) Try.func7 (by kernel_rfl)
    (of_decide_eq_true (by kernel_rfl)) (by unfold Func.isWrapper; rw [if_neg (of_decide_eq_false (by kernel_rfl))]; exact ⟨rfl, rfl⟩)
    (fun os started H enc _ => by rw [OpenClaim.pre_of_none rfl]; exact ledgerGens_lifted os started H enc)

end Go.Proofs.Ytmpnldmdchchjaa
