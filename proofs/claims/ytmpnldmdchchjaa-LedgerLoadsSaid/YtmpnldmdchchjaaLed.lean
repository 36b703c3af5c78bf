import Derived.Test.YtmpnldmdchchjaaFk
import Derived.Test.YtmpnldmdchchjaaHs
namespace Go.Proofs.Ytmpnldmdchchjaa
open Go Go.Ideal Go.ChangeShapes Go.RowKit
set_option maxHeartbeats 0
set_option linter.unusedSimpArgs false
set_option linter.unusedVariables false
set_option maxRecDepth 100000
attribute [local irreducible] callV T.All T.Is run
structure En where
  o : Int
  g : Int
deriving DecidableEq
def ec (e : En) : List Value := [.int .i64 e.o, .int .u32 e.g]
def ev (e : En) : Value := .agg #[.int .i64 e.o, .int .u32 e.g]
def e0 : En := ⟨-1, 0⟩
theorem ev_cells (e : En) : cellsOf (ev e) = ec e := rfl
theorem ec_len (e : En) : (ec e).length = 2 := rfl
theorem ec_one (e : En) : (ec e).all oneCell = true := rfl
theorem agg_ec (e : En) : Value.agg (ec e).toArray = ev e := rfl
theorem rd_ec (e : En) : readN (ec e) 0 2 = some (ec e) := rfl
theorem tk_ec1 (e : En) : List.take 1 (ec e) = [.int .i64 e.o] := rfl
theorem dr_ec1 (e : En) : List.drop 1 (ec e) = [.int .u32 e.g] := rfl
theorem tk_ec (e : En) : List.take 2 (ec e) = ec e := rfl
theorem cells_e0 : cellsOf (.agg #[.int .i64 (-1), .int .u32 0]) = ec e0 := rfl
theorem z_cells : cellsOf (.agg #[.int .i64 0, .int .u32 0]) = [.int .i64 0, .int .u32 0] := rfl
theorem z_set : setAt [Value.int .i64 0, .int .u32 0] 0 [.int .i64 0, .int .u32 0] = [.int .i64 0, .int .u32 0] := rfl
theorem set_ec (a b : Value) (e : En) : setAt [a, b] 0 (ec e) = ec e := rfl
theorem eq_ev (neg : Bool) (x y : En) : vEqAgg neg [.int, .int] (ev x) (ev y) = some (.bool (decide (x = y) != neg)) := by
  obtain ⟨a, b⟩ := x
  obtain ⟨d, e⟩ := y
  have ha : ((a == d) = decide (a = d)) := rfl
  have hb : ((b == e) = decide (b = e)) := rfl
  unfold vEqAgg aggEq ev
  cases neg <;> by_cases h1 : a = d <;> by_cases h2 : b = e <;> simp [cellsEq, cellEq, ha, hb, h1, h2]
structure Ls where
  home : Int
  rob : Int
  cells : Int
  ents : List (Int × En)
  qs : List (Int × Nat)
  told : List (Int × Int)
  W : Int → List It
def K64 : KeyK Int := intKey .i64
def pq (b : Nat) : Value := .pointer (some ⟨b, 0, none⟩)
def tv (x : Int) : Value := .int .i64 x
def Qall (qs : List (Int × Nat)) (W : Int → List It) : Rs := Rs.all (qs.map fun p => Qr p.2 (W p.1))
def lc (S : Ls) (eb qb tb : Nat) : List Value := [.int .i64 S.home, .int .i64 S.rob, .int .i64 S.cells, .map (some eb), .map (some qb), .map (some tb)]
def Lg (lb : Nat) (S : Ls) : Rs := Rs.ex fun x : Nat × Nat × Nat => Rs.all [Ob lb (.cells (lc S x.1 x.2.1 x.2.2) 1 false), Mp K64 ev x.1 S.ents, Mp K64 pq x.2.1 S.qs, Mp K64 tv x.2.2 S.told, Qall S.qs S.W]
def Ls.E (S : Ls) (c : Int) : En := (lk S.ents c).getD e0
def Ls.Is (S : Ls) (c : Int) : Prop := S.rob ≠ 0 ∧ 0 ≤ c ∧ c < S.cells ∧ c.tmod S.rob = S.home
instance (S : Ls) (c : Int) : Decidable (S.Is c) := by unfold Ls.Is; infer_instance
def Ls.Rob (S : Ls) (r : Int) : Prop := S.rob ≠ 0 ∧ 0 ≤ r ∧ r < S.rob
instance (S : Ls) (c : Int) : Decidable (S.Rob c) := by unfold Ls.Rob; infer_instance
section
variable {ro : Nat → Option (List Value × Nat)} {h : Heap} {R : List Rs} {lb : Nat} {S : Ls}
theorem Has.lgOpen (O : Has ro h (Lg lb S :: R)) : ∃ eb qb tb, Has ro h (Ob lb (.cells (lc S eb qb tb) 1 false) :: Mp K64 ev eb S.ents :: Mp K64 pq qb S.qs :: Mp K64 tv tb S.told :: Qall S.qs S.W :: R) := by
  obtain ⟨⟨eb, qb, tb⟩, O⟩ := Has.ex.1 O
  exact ⟨eb, qb, tb, Has.all.1 O⟩
theorem Has.lgClose {eb qb tb : Nat} (O : Has ro h (Ob lb (.cells (lc S eb qb tb) 1 false) :: Mp K64 ev eb S.ents :: Mp K64 pq qb S.qs :: Mp K64 tv tb S.told :: Qall S.qs S.W :: R)) : Has ro h (Lg lb S :: R) :=
  Has.ex.2 ⟨(eb, qb, tb), Has.all.2 O⟩
theorem qs_perm {qs : List (Int × Nat)} {c : Int} {b : Nat} (hn : NoDup qs) (hk : lk qs c = some b) : qs.Perm ((c, b) :: del1 qs c) := by
  induction qs with
  | nil => cases hk
  | cons p qs ih =>
    obtain ⟨x, y⟩ := p
    rw [lk_cons] at hk
    unfold NoDup at hn
    rw [List.map_cons, List.nodup_cons] at hn
    unfold del1
    by_cases e : x = c
    · subst e
      rw [if_pos rfl] at hk
      cases hk
      rw [List.filter_cons, if_neg (by simp)]
      have : qs.filter (fun p => decide (p.1 ≠ x)) = qs := by
        rw [List.filter_eq_self]
        intro q hq
        simp only [ne_eq, decide_not, Bool.not_eq_true', decide_eq_false_iff_not]
        rintro rfl
        exact hn.1 (List.mem_map.2 ⟨q, hq, rfl⟩)
      rw [this]
    · rw [if_neg e] at hk
      rw [List.filter_cons, if_pos (by simpa using e)]
      exact ((ih hn.2 hk).cons _).trans (List.Perm.swap _ _ _)
def updW (W : Int → List It) (c : Int) (l : List It) : Int → List It := fun x => if x = c then l else W x
theorem rest_same {qs : List (Int × Nat)} {W : Int → List It} {c : Int} {l : List It} : (del1 qs c).map (fun p => Qr p.2 (updW W c l p.1)) = (del1 qs c).map fun p => Qr p.2 (W p.1) := by
  apply List.map_congr_left
  intro p hp
  unfold del1 at hp
  have : p.1 ≠ c := by simpa using (List.mem_filter.1 hp).2
  unfold updW
  rw [if_neg this]
theorem Has.qOpen {qs : List (Int × Nat)} {W : Int → List It} {c : Int} {b : Nat} (hn : NoDup qs) (hk : lk qs c = some b) (O : Has ro h (Qall qs W :: R)) :
    Has ro h (Qr b (W c) :: Rs.all ((del1 qs c).map fun p => Qr p.2 (W p.1)) :: R) := by
  have O1 := Has.all.1 O
  have pm := ((qs_perm hn hk).map fun p => Qr p.2 (W p.1)).append_right R
  have O2 := O1.perm pm
  rw [List.map_cons, List.cons_append] at O2
  have O3 : Has ro h (((del1 qs c).map fun p => Qr p.2 (W p.1)) ++ (Qr b (W c) :: R)) := O2.perm List.perm_middle.symm
  exact (Has.all.2 O3).swap2
theorem Has.qClose {qs : List (Int × Nat)} {W : Int → List It} {c : Int} {b : Nat} {l : List It} (hn : NoDup qs) (hk : lk qs c = some b) (O : Has ro h (Qr b l :: Rs.all ((del1 qs c).map fun p => Qr p.2 (W p.1)) :: R)) :
    Has ro h (Qall qs (updW W c l) :: R) := by
  have O1 := Has.all.1 O.swap2
  have O2 : Has ro h (Qr b l :: (((del1 qs c).map fun p => Qr p.2 (W p.1)) ++ R)) := O1.perm List.perm_middle
  refine Has.all.2 (O2.perm ?_)
  have pm := ((qs_perm hn hk).map fun p => Qr p.2 (updW W c l p.1)).append_right R
  refine List.Perm.trans ?_ pm.symm
  rw [List.map_cons, List.cons_append, rest_same]
  have : updW W c l c = l := by unfold updW; rw [if_pos rfl]
  rw [this]
end
theorem env30 : env 30 = some ir30 := rfl
theorem env31 : env 31 = some ir31 := rfl
theorem env26 : env 26 = some ir26 := rfl
theorem env33 : env 33 = some ir33 := rfl
theorem env32 : env 32 = some ir32 := rfl
theorem bin_rem (x y : Int) (hy : y ≠ 0) : ibin .rem (.int .i64 x) (.int .i64 y) = some (.int .i64 (x.tmod y)) := by
  simp only [ibin, if_neg hy, if_true]
section
variable {ro : Nat → Option (List Value × Nat)} {h : Heap} {R : List Rs} {lb : Nat} {S : Ls} {n : Nat}
theorem none_g {eb qb tb : Nat} (g : h.get lb = some (.cells (lc S eb qb tb) 1 false)) : (callV env (n + 1) (.func (.func 30) #[] #[]) [.pointer (some ⟨lb, 0, none⟩)] h).Is fun p => p = (.bool (decide (S.rob = 0)), h) := by
  refine call_is env30 ?_
  unfold lc at g
  simp (disch := first | assumption | omega | (simp only [wkD, oneCell, Option.isSome_some, *]; done) | (simp only [wkE, ne_eq]; omega)) only [ir30, List.append_nil, List.nil_append, List.cons_append, List.length_cons, List.length_nil, Nat.reduceAdd, Nat.reduceSub, List.replicate_succ, List.replicate_zero, g, wkF, X_region, X_seq, X_block, X_loop, X_cond, Y_box, Y_un, Y_store, Y_append, Y_makeMap, Y_buildSlice, ibin_shl, ibin_shr, ibin_and, ↓reduceIte, reduceCtorEq, oneCell, setAt, readN, Nat.reduceAdd, Nat.reduceLeDiff, Nat.reduceMul, layAt, Nat.reduceLT, Nat.reduceEqDiff, setParams, Int.reduceLT, Int.reduceLE, Int.reduceGT, Int.reduceGE, Int.reduceEq, Int.reduceNe]
  exact leaf1 rfl
theorem robot_g {eb qb tb : Nat} (r : Int) (g : h.get lb = some (.cells (lc S eb qb tb) 1 false)) : (callV env (n + 2) (.func (.func 31) #[] #[]) [.pointer (some ⟨lb, 0, none⟩), .int .i64 r] h).Is fun p => p = (.bool (decide (S.Rob r)), h) := by
  refine call_is env31 ?_
  simp (disch := first | assumption | omega | (simp only [wkD, oneCell, Option.isSome_some, *]; done) | (simp only [wkE, ne_eq]; omega)) only [ir31, List.append_nil, List.nil_append, List.cons_append, List.length_cons, List.length_nil, Nat.reduceAdd, Nat.reduceSub, List.replicate_succ, List.replicate_zero, wkF, X_region, X_seq, X_block, X_loop, X_cond, Y_box, Y_un, Y_store, Y_append, Y_makeMap, Y_buildSlice, ibin_shl, ibin_shr, ibin_and, ↓reduceIte, reduceCtorEq, oneCell, setAt, readN, Nat.reduceAdd, Nat.reduceLeDiff, Nat.reduceMul, layAt, Nat.reduceLT, Nat.reduceEqDiff, setParams, Int.reduceLT, Int.reduceLE, Int.reduceGT, Int.reduceGE, Int.reduceEq, Int.reduceNe]
  refine Z_is (none_g g) ?_
  rintro v h1 ⟨rfl, rfl⟩
  unfold lc at g
  unfold Ls.Rob
  by_cases h0 : S.rob = 0
  · simp (disch := first | assumption | omega | (simp only [wkD, oneCell, Option.isSome_some, *]; done) | (simp only [wkE, ne_eq]; omega)) only [h0, wkF, X_region, X_seq, X_block, X_loop, X_cond, Y_box, Y_un, Y_store, Y_append, Y_makeMap, Y_buildSlice, ibin_shl, ibin_shr, ibin_and, ↓reduceIte, reduceCtorEq, oneCell, setAt, readN, Nat.reduceAdd, Nat.reduceLeDiff, Nat.reduceMul, layAt, Nat.reduceLT, Nat.reduceEqDiff, setParams, Int.reduceLT, Int.reduceLE, Int.reduceGT, Int.reduceGE, Int.reduceEq, Int.reduceNe]
    exact leaf1 (by simp [h0])
  by_cases h1 : 0 ≤ r
  · simp (disch := first | assumption | omega | (simp only [wkD, oneCell, Option.isSome_some, *]; done) | (simp only [wkE, ne_eq]; omega)) only [h0, h1, g, wkF, X_region, X_seq, X_block, X_loop, X_cond, Y_box, Y_un, Y_store, Y_append, Y_makeMap, Y_buildSlice, ibin_shl, ibin_shr, ibin_and, ↓reduceIte, reduceCtorEq, oneCell, setAt, readN, Nat.reduceAdd, Nat.reduceLeDiff, Nat.reduceMul, layAt, Nat.reduceLT, Nat.reduceEqDiff, setParams, Int.reduceLT, Int.reduceLE, Int.reduceGT, Int.reduceGE, Int.reduceEq, Int.reduceNe]
    exact leaf1 (by simp [h0, h1])
  · simp (disch := first | assumption | omega | (simp only [wkD, oneCell, Option.isSome_some, *]; done) | (simp only [wkE, ne_eq]; omega)) only [h0, h1, wkF, X_region, X_seq, X_block, X_loop, X_cond, Y_box, Y_un, Y_store, Y_append, Y_makeMap, Y_buildSlice, ibin_shl, ibin_shr, ibin_and, ↓reduceIte, reduceCtorEq, oneCell, setAt, readN, Nat.reduceAdd, Nat.reduceLeDiff, Nat.reduceMul, layAt, Nat.reduceLT, Nat.reduceEqDiff, setParams, Int.reduceLT, Int.reduceLE, Int.reduceGT, Int.reduceGE, Int.reduceEq, Int.reduceNe]
    exact leaf1 (by simp [h0, h1])
theorem first_e (hf : h.Fine) : (callV env (n + 1) (.func (.func 33) #[] #[]) [] h).Is fun p => p.1 = ev e0 ∧ Ext h p.2 := by
  have O : Has h.ro h [] := Has.zero hf rfl
  refine call_is env33 ?_
  simp (disch := first | assumption | omega | (simp only [wkD, oneCell, Option.isSome_some, *]; done) | (simp only [wkE, ne_eq]; omega)) only [ir33, List.append_nil, List.nil_append, List.cons_append, List.length_cons, List.length_nil, Nat.reduceAdd, Nat.reduceSub, List.replicate_succ, List.replicate_zero, wkF, X_region, X_seq, X_block, X_loop, X_cond, Y_un, Y_store, Y_append, Y_makeMap, Y_buildSlice, ibin_shl, ibin_shr, ibin_and, ↓reduceIte, reduceCtorEq, oneCell, setAt, readN, Nat.reduceAdd, Nat.reduceLeDiff, Nat.reduceMul, layAt, Nat.reduceLT, Nat.reduceEqDiff, setParams, Int.reduceLT, Int.reduceLE, Int.reduceGT, Int.reduceGE, Int.reduceEq, Int.reduceNe]
  refine Y_boxE O ?_
  intro b h1 be nb O1 e1
  replace O1 : Has h.ro h1 [Ob b (.cells [.int .i64 0, .int .u32 0] 1 false)] := O1
  have g1 := O1.get 0 rfl
  have p1 := O1.can 0 rfl
  have g2 : (h1.setB b (.cells [.int .i64 (-1), .int .u32 0] 1 false)).get b = some (.cells (ec e0) 1 false) := get_setB_same be (by rw [g1]; rfl)
  simp (disch := first | assumption | omega | (simp only [wkD, oneCell, Option.isSome_some, *]; done) | (simp only [wkE, ne_eq]; omega)) only [g1, p1, cells_e0, set_ec, ec_one, ec_len, wkF, X_region, X_seq, X_block, X_loop, X_cond, Y_box, Y_un, Y_store, Y_append, Y_makeMap, Y_buildSlice, ibin_shl, ibin_shr, ibin_and, ↓reduceIte, reduceCtorEq, oneCell, setAt, readN, Nat.reduceAdd, Nat.reduceLeDiff, Nat.reduceMul, layAt, Nat.reduceLT, Nat.reduceEqDiff, setParams, Int.reduceLT, Int.reduceLE, Int.reduceGT, Int.reduceGE, Int.reduceEq, Int.reduceNe]
  exact leafC (cs := ec e0) rfl (by rw [g2]; rfl) ⟨rfl, e1.setB b _ be nb⟩
theorem entry_e {eb qb tb : Nat} (c : Int) (O : Has ro h (Ob lb (.cells (lc S eb qb tb) 1 false) :: Mp K64 ev eb S.ents :: R)) : (callV env (n + 2) (.func (.func 32) #[] #[]) [.pointer (some ⟨lb, 0, none⟩), .int .i64 c] h).Is fun p => p.1 = ev (S.E c) ∧ Ext h p.2 := by
  refine call_is env32 ?_
  simp (disch := first | assumption | omega | (simp only [wkD, oneCell, Option.isSome_some, *]; done) | (simp only [wkE, ne_eq]; omega)) only [ir32, List.append_nil, List.nil_append, List.cons_append, List.length_cons, List.length_nil, Nat.reduceAdd, Nat.reduceSub, List.replicate_succ, List.replicate_zero, wkF, X_region, X_seq, X_block, X_loop, X_cond, Y_un, Y_store, Y_append, Y_makeMap, Y_buildSlice, ibin_shl, ibin_shr, ibin_and, ↓reduceIte, reduceCtorEq, oneCell, setAt, readN, Nat.reduceAdd, Nat.reduceLeDiff, Nat.reduceMul, layAt, Nat.reduceLT, Nat.reduceEqDiff, setParams, Int.reduceLT, Int.reduceLE, Int.reduceGT, Int.reduceGE, Int.reduceEq, Int.reduceNe]
  refine Y_boxE O ?_
  intro b h1 be nb O1 e1
  replace O1 : Has ro h1 (Ob b (.cells [.int .i64 0, .int .u32 0] 1 false) :: Ob lb (.cells (lc S eb qb tb) 1 false) :: Mp K64 ev eb S.ents :: R) := O1
  have g1 := O1.get 1 rfl
  unfold lc at g1
  have m1 := O1.mpLook 2 rfl c (.agg #[.int .i64 0, .int .u32 0]) true
  simp only [if_true] at m1
  have m1' : vLookup h1 none (.agg #[.int .i64 0, .int .u32 0]) true (.map (some eb)) (.int .i64 c) = _ := m1
  simp (disch := first | assumption | omega | (simp only [wkD, oneCell, Option.isSome_some, *]; done) | (simp only [wkE, ne_eq]; omega)) only [g1, m1', wkF, X_region, X_seq, X_block, X_loop, X_cond, Y_un, Y_store, Y_append, Y_makeMap, Y_buildSlice, ibin_shl, ibin_shr, ibin_and, ↓reduceIte, reduceCtorEq, oneCell, setAt, readN, Nat.reduceAdd, Nat.reduceLeDiff, Nat.reduceMul, layAt, Nat.reduceLT, Nat.reduceEqDiff, setParams, Int.reduceLT, Int.reduceLE, Int.reduceGT, Int.reduceGE, Int.reduceEq, Int.reduceNe]
  refine Y_boxE O1 ?_
  intro b2 h2 be2 nb2 O2 e2
  replace O2 : Has ro h2 (Ob b2 (.cells [.int .i64 0, .int .u32 0] 1 false) :: Ob b (.cells [.int .i64 0, .int .u32 0] 1 false) :: Ob lb (.cells (lc S eb qb tb) 1 false) :: Mp K64 ev eb S.ents :: R) := O2
  have e12 := e1.trans e2
  have nb2' : 2 * h.next ≤ b2 := by have := e1.next; omega
  have g2 := O2.get 0 rfl
  have p2 := O2.can 0 rfl
  cases hk : lk S.ents c with
  | none =>
    have hE : S.E c = e0 := by unfold Ls.E; rw [hk]; rfl
    have O3 := O2.set 0 rfl (.cells [.int .i64 0, .int .u32 0] 1 false)
    simp only [List.set_cons_zero] at O3
    simp (disch := first | assumption | omega | (simp only [wkD, oneCell, Option.isSome_some, *]; done) | (simp only [wkE, ne_eq]; omega)) only [hk, g2, p2, z_cells, z_set, Option.getD_none, wkF, X_region, X_seq, X_block, X_loop, X_cond, Y_box, Y_un, Y_store, Y_append, Y_makeMap, Y_buildSlice, ibin_shl, ibin_shr, ibin_and, ↓reduceIte, reduceCtorEq, oneCell, setAt, readN, Nat.reduceAdd, Nat.reduceLeDiff, Nat.reduceMul, layAt, Nat.reduceLT, Nat.reduceEqDiff, setParams, Int.reduceLT, Int.reduceLE, Int.reduceGT, Int.reduceGE, Int.reduceEq, Int.reduceNe]
    have e3 := e12.setB b2 (.cells [.int .i64 0, .int .u32 0] 1 false) be2 nb2'
    refine Z_is (first_e O3.fine) ?_
    rintro v h4 ⟨rfl, e4⟩
    simp only at e4
    have O4 := O3.ext e4
    have g4 := O4.get 1 rfl
    have p4 := O4.can 1 rfl
    have g5 : (h4.setB b (.cells (ec e0) 1 false)).get b = some (.cells (ec e0) 1 false) := get_setB_same be (by rw [g4]; rfl)
    simp (disch := first | assumption | omega | (simp only [wkD, oneCell, Option.isSome_some, *]; done) | (simp only [wkE, ne_eq]; omega)) only [g4, p4, ev_cells, set_ec, ec_one, ec_len, wkF, X_region, X_seq, X_block, X_loop, X_cond, Y_box, Y_un, Y_store, Y_append, Y_makeMap, Y_buildSlice, ibin_shl, ibin_shr, ibin_and, ↓reduceIte, reduceCtorEq, oneCell, setAt, readN, Nat.reduceAdd, Nat.reduceLeDiff, Nat.reduceMul, layAt, Nat.reduceLT, Nat.reduceEqDiff, setParams, Int.reduceLT, Int.reduceLE, Int.reduceGT, Int.reduceGE, Int.reduceEq, Int.reduceNe]
    exact leafC (cs := ec e0) rfl (by rw [g5]; rfl) ⟨by rw [hE]; rfl, (e3.trans e4).setB b _ be nb⟩
  | some e =>
    have hE : S.E c = e := by unfold Ls.E; rw [hk]; rfl
    have O3 := O2.set 0 rfl (.cells (ec e) 1 false)
    simp only [List.set_cons_zero] at O3
    have e3 := e12.setB b2 (.cells (ec e) 1 false) be2 nb2'
    have g3 := O3.get 0 rfl
    have g4 := O3.get 1 rfl
    have p4 := O3.can 1 rfl
    simp (disch := first | assumption | omega | (simp only [wkD, oneCell, Option.isSome_some, *]; done) | (simp only [wkE, ne_eq]; omega)) only [hk, g2, p2, Option.getD_some, ev_cells, set_ec, ec_one, ec_len, g3, g4, p4, rd_ec, tk_ec, agg_ec, wkF, X_region, X_seq, X_block, X_loop, X_cond, Y_box, Y_un, Y_store, Y_append, Y_makeMap, Y_buildSlice, ibin_shl, ibin_shr, ibin_and, ↓reduceIte, reduceCtorEq, oneCell, setAt, readN, Nat.reduceAdd, Nat.reduceLeDiff, Nat.reduceMul, layAt, Nat.reduceLT, Nat.reduceEqDiff, setParams, Int.reduceLT, Int.reduceLE, Int.reduceGT, Int.reduceGE, Int.reduceEq, Int.reduceNe]
    have g5 : ((h2.setB b2 (.cells (ec e) 1 false)).setB b (.cells (ec e) 1 false)).get b = some (.cells (ec e) 1 false) := get_setB_same be (by rw [g4]; rfl)
    exact leafC (cs := ec e) rfl (by rw [g5]; rfl) ⟨by rw [hE]; rfl, e3.setB b _ be nb⟩
theorem is_g {eb qb tb : Nat} (c : Int) (g : h.get lb = some (.cells (lc S eb qb tb) 1 false)) : (callV env (n + 2) (.func (.func 26) #[] #[]) [.pointer (some ⟨lb, 0, none⟩), .int .i64 c] h).Is fun p => p = (.bool (decide (S.Is c)), h) := by
  refine call_is env26 ?_
  simp (disch := first | assumption | omega | (simp only [wkD, oneCell, Option.isSome_some, *]; done) | (simp only [wkE, ne_eq]; omega)) only [ir26, List.append_nil, List.nil_append, List.cons_append, List.length_cons, List.length_nil, Nat.reduceAdd, Nat.reduceSub, List.replicate_succ, List.replicate_zero, wkF, X_region, X_seq, X_block, X_loop, X_cond, Y_box, Y_un, Y_store, Y_append, Y_makeMap, Y_buildSlice, ibin_shl, ibin_shr, ibin_and, ↓reduceIte, reduceCtorEq, oneCell, setAt, readN, Nat.reduceAdd, Nat.reduceLeDiff, Nat.reduceMul, layAt, Nat.reduceLT, Nat.reduceEqDiff, setParams, Int.reduceLT, Int.reduceLE, Int.reduceGT, Int.reduceGE, Int.reduceEq, Int.reduceNe]
  refine X_drawn _ fun an => ?_
  simp (disch := first | assumption | omega | (simp only [wkD, oneCell, Option.isSome_some, *]; done) | (simp only [wkE, ne_eq]; omega)) only [wkF, X_region, X_seq, X_block, X_loop, X_cond, Y_box, Y_un, Y_store, Y_append, Y_makeMap, Y_buildSlice, ibin_shl, ibin_shr, ibin_and, ↓reduceIte, reduceCtorEq, oneCell, setAt, readN, Nat.reduceAdd, Nat.reduceLeDiff, Nat.reduceMul, layAt, Nat.reduceLT, Nat.reduceEqDiff, setParams, Int.reduceLT, Int.reduceLE, Int.reduceGT, Int.reduceGE, Int.reduceEq, Int.reduceNe]
  refine DB_is (none_g g) ?_
  rintro v h1 ⟨rfl, rfl⟩
  unfold lc at g
  unfold Ls.Is
  by_cases h0 : S.rob = 0
  · simp (disch := first | assumption | omega | (simp only [wkD, oneCell, Option.isSome_some, *]; done) | (simp only [wkE, ne_eq]; omega)) only [h0, wkF, X_region, X_seq, X_block, X_loop, X_cond, Y_box, Y_un, Y_store, Y_append, Y_makeMap, Y_buildSlice, ibin_shl, ibin_shr, ibin_and, ↓reduceIte, reduceCtorEq, oneCell, setAt, readN, Nat.reduceAdd, Nat.reduceLeDiff, Nat.reduceMul, layAt, Nat.reduceLT, Nat.reduceEqDiff, setParams, Int.reduceLT, Int.reduceLE, Int.reduceGT, Int.reduceGE, Int.reduceEq, Int.reduceNe]
    exact leaf1 (by simp [h0])
  by_cases h1 : 0 ≤ c
  · by_cases h2 : c < S.cells
    · simp (disch := first | assumption | omega | (simp only [wkD, oneCell, Option.isSome_some, *]; done) | (simp only [wkE, ne_eq]; omega)) only [h0, h1, h2, g, seen0_nil_get, bin_rem c S.rob h0, wkF, X_region, X_seq, X_block, X_loop, X_cond, Y_box, Y_un, Y_store, Y_append, Y_makeMap, Y_buildSlice, ibin_shl, ibin_shr, ibin_and, ↓reduceIte, reduceCtorEq, oneCell, setAt, readN, Nat.reduceAdd, Nat.reduceLeDiff, Nat.reduceMul, layAt, Nat.reduceLT, Nat.reduceEqDiff, setParams, Int.reduceLT, Int.reduceLE, Int.reduceGT, Int.reduceGE, Int.reduceEq, Int.reduceNe]
      exact leaf1 (by simp [h0, h1, h2])
    · simp (disch := first | assumption | omega | (simp only [wkD, oneCell, Option.isSome_some, *]; done) | (simp only [wkE, ne_eq]; omega)) only [h0, h1, h2, g, wkF, X_region, X_seq, X_block, X_loop, X_cond, Y_box, Y_un, Y_store, Y_append, Y_makeMap, Y_buildSlice, ibin_shl, ibin_shr, ibin_and, ↓reduceIte, reduceCtorEq, oneCell, setAt, readN, Nat.reduceAdd, Nat.reduceLeDiff, Nat.reduceMul, layAt, Nat.reduceLT, Nat.reduceEqDiff, setParams, Int.reduceLT, Int.reduceLE, Int.reduceGT, Int.reduceGE, Int.reduceEq, Int.reduceNe]
      exact leaf1 (by simp [h0, h1, h2])
  · simp (disch := first | assumption | omega | (simp only [wkD, oneCell, Option.isSome_some, *]; done) | (simp only [wkE, ne_eq]; omega)) only [h0, h1, wkF, X_region, X_seq, X_block, X_loop, X_cond, Y_box, Y_un, Y_store, Y_append, Y_makeMap, Y_buildSlice, ibin_shl, ibin_shr, ibin_and, ↓reduceIte, reduceCtorEq, oneCell, setAt, readN, Nat.reduceAdd, Nat.reduceLeDiff, Nat.reduceMul, layAt, Nat.reduceLT, Nat.reduceEqDiff, setParams, Int.reduceLT, Int.reduceLE, Int.reduceGT, Int.reduceGE, Int.reduceEq, Int.reduceNe]
    exact leaf1 (by simp [h0, h1])
end
end Go.Proofs.Ytmpnldmdchchjaa
