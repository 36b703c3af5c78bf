/-
  The law StampQueues holds: the call answers true whatever calls it is handed, whatever the machine chooses, and nothing that was there before it is changed; no condition.
-/
import Derived.Test.YtlhocgeppgdopaaFk
import Derived.Test.YtlhocgeppgdopaaRl
import Derived.Test.YtlhocgeppgdopaaRows
namespace Go.Proofs.Ytlhocgeppgdopaa
open Go Go.Ideal Go.ChangeShapes Go.RowKit
set_option maxHeartbeats 0
set_option linter.unusedSimpArgs false
set_option linter.unusedVariables false
set_option maxRecDepth 100000
attribute [local irreducible] callV T.All T.Is run
theorem env7 : env 7 = some ir7 := rfl

/-- A call. -/
structure Op where
  o : Int
  it : It
def oc (x : Op) : List Value := .int .i64 x.o :: ic x.it
theorem oc_len (x : Op) : (oc x).length = 4 := rfl
theorem op_inv (vs : List Value) (h : Fits [.int .i64, .int .i64, .int .u64, .int .i64] vs) : ∃ s : Op, vs = oc s ∧ True := by
  match vs, h with
  | [x, y, z, u], h =>
    obtain ⟨⟨o, rfl, _⟩, ⟨a, rfl, _⟩, ⟨b, rfl, _⟩, ⟨c, rfl, _⟩, _⟩ := h
    exact ⟨⟨o, ⟨a, b, c⟩⟩, rfl, trivial⟩
  | [], h => exact h.elim
  | [_], h => exact h.2.elim
  | [_, _], h => exact h.2.2.elim
  | [_, _, _], h => exact h.2.2.2.elim
  | _ :: _ :: _ :: _ :: _ :: _, h => exact h.2.2.2.2.elim
def nthO (l : List Op) (i : Nat) : Op := l.getD i ⟨0, it0⟩
theorem set_ic' (x y : It) : setAt (ic x) 0 (ic y) = ic y := rfl
theorem nthO_get {l : List Op} {i : Nat} (h : i < l.length) : l[i]? = some (nthO l i) := by
  unfold nthO
  rw [List.getD_eq_getElem?_getD, List.getElem?_eq_getElem h]
  rfl
theorem rdO {h : Heap} {bb i : Nat} {l : List Op} {t : Bool} {zz : Nat} (hb : h.get bb = some (.cells (l.flatMap oc) zz t)) (hi : i < l.length) : readC (h.get bb) (i * 4) 1 = some [.int .i64 (nthO l i).o] ∧ readC (h.get bb) (i * 4 + 1) 3 = some (ic (nthO l i).it) := by
  have e := readN_flatMap (z := 4) oc_len l i (nthO l i)
  constructor
  · rw [hb, readC_cells, ← Nat.add_zero (i * 4)]
    exact e 0 1 (nthO_get hi) (by omega)
  · rw [hb, readC_cells]
    exact e 1 3 (nthO_get hi) (by omega)
theorem eqW' (x y : It) : vEqAgg true [.int, .int, .int] (iv x) (iv y) = some (.bool (decide (x ≠ y))) := eqW x y

section
variable {ro : Nat → Option (List Value × Nat)} {h : Heap} {R : List Rs} {qa xb : Nat} {A : List It} {o : IObj}
/-- The blocks of a queue, and that another one is none of them. -/
theorem qr_plan (O : Has ro h (Ob xb o :: Qr qa A :: R)) : ∃ bs : List Nat, (∀ S, (Qr qa A).is h S → Gd h S → ∀ b, S b → b / 2 ∈ bs) ∧ xb / 2 ∉ bs := by
  obtain ⟨f, e, S0, g, S1, S2, e1, d, ⟨a1, a2⟩, S3, S4, e2, d2, ⟨v, hs⟩, o⟩ := O
  obtain ⟨T1, T2, t, td, ⟨u1, u2⟩, u3⟩ := star_is.1 hs
  have gx := g xb ((e1 xb).2 (Or.inl ((a1 xb).2 rfl)))
  have hq3 : S3 qa := (t qa).2 (Or.inl ((u1 qa).2 rfl))
  have hq2 : S2 qa := (e2 qa).2 (Or.inl hq3)
  have gq := g qa ((e1 qa).2 (Or.inr hq2))
  have nq : xb ≠ qa := fun h => d xb ((a1 xb).2 rfl) (by rw [h]; exact hq2)
  have uniq : ∀ S, (Qr qa A).is h S → ∃ T, (∀ b, S b → b = qa ∨ T b) ∧ (Slr 3 ic v A).is h T := by
    rintro S ⟨v', hs'⟩
    obtain ⟨T1', T2', t', td', ⟨u1', u2'⟩, u3'⟩ := star_is.1 hs'
    rw [u2] at u2'
    have ev : v = v' := by injection u2' with h1; injection h1 with h2; injection h2
    subst ev
    exact ⟨T2', fun b hb => ((t' b).1 hb).imp (u1' b).1 id, u3'⟩
  rcases u3 with ⟨hl, hv, n⟩ | ⟨b, c, rest, b1, b2, b3, b4, b5⟩
  · refine ⟨[qa / 2], fun S hS _ x hx => ?_, ?_⟩
    · obtain ⟨T, hT, hs2⟩ := uniq S hS
      rcases hT x hx with rfl | hx
      · simp
      · rcases hs2 with ⟨_, _, n2⟩ | ⟨b', c', rest', b1', _⟩
        · exact absurd hx (n2 x)
        · rw [hv] at b1'; cases b1'
    · simp only [List.mem_singleton]
      have := gx.1; have := gq.1; omega
  · have hb2 : S2 b := (e2 b).2 (Or.inl ((t b).2 (Or.inr ((b2 b).2 rfl))))
    have gb := g b ((e1 b).2 (Or.inr hb2))
    have nb : xb ≠ b := fun h => d xb ((a1 xb).2 rfl) (by rw [h]; exact hb2)
    refine ⟨[qa / 2, b / 2], fun S hS _ x hx => ?_, ?_⟩
    · obtain ⟨T, hT, hs2⟩ := uniq S hS
      rcases hT x hx with rfl | hx
      · simp
      · rcases hs2 with ⟨_, hv2, n2⟩ | ⟨b', c', rest', b1', b2', _⟩
        · exact absurd hx (n2 x)
        · rw [b1] at b1'
          have hbb : b = b' := by injection b1' with h1; injection h1 with h2; injection h2
          subst hbb
          rw [(b2' x).1 hx]; simp
    · simp only [List.mem_cons, List.not_mem_nil, or_false, not_or]
      have := gx.1; have := gq.1; have := gb.1
      constructor <;> omega
theorem unord_ne {an : List (List Nat)} {i k : Nat} (h : unord an i k = true) : k ≠ i := by
  unfold unord at h
  simp only [Bool.and_eq_true, bne_iff_ne, ne_eq] at h
  exact fun e => h.1.1 e.symm
theorem plan5 {bs : List Nat} : ∀ k, k ≠ 5 → ([[], [], [], [], [], bs] : List (List Nat)).getD k [] = []
  | 0, _ => rfl
  | 1, _ => rfl
  | 2, _ => rfl
  | 3, _ => rfl
  | 4, _ => rfl
  | 5, h => absurd rfl h
  | k + 6, _ => rfl
theorem plan3 {bs : List Nat} : ∀ k, k ≠ 3 → ([[], [], [], bs] : List (List Nat)).getD k [] = []
  | 0, _ => rfl
  | 1, _ => rfl
  | 2, _ => rfl
  | 3, h => absurd rfl h
  | k + 4, _ => rfl
theorem notin5 {bs : List Nat} {x : Nat} (h : x ∉ bs) (k : Nat) : x ∉ ([[], [], [], [], [], bs] : List (List Nat)).getD k [] := by
  by_cases e : k = 5
  · subst e; exact h
  · rw [plan5 k e]; simp
theorem notin3 {bs : List Nat} {x : Nat} (h : x ∉ bs) (k : Nat) : x ∉ ([[], [], [], bs] : List (List Nat)).getD k [] := by
  by_cases e : k = 3
  · subst e; exact h
  · rw [plan3 k e]; simp
theorem fr_ok {i n m xb : Nat} (hx : xb < 2 * n) : ∀ x ∈ (if n < m then (i, n, m) :: ([] : List (Nat × Nat × Nat)) else []), xb / 2 < x.2.1 ∨ x.2.2 ≤ xb / 2 := by
  intro x hx2
  split at hx2
  · simp at hx2; subst hx2; exact Or.inl (by show xb / 2 < n; omega)
  · cases hx2
end

theorem ext_back {an : List (List Nat)} {i : Nat} {h h' : Heap} (e : Ext (seen0 an i [] h) h') : Ext h { h' with floor := h.floor, may := h.may, hid := h.hid } := by
  refine ⟨by have := e.next; rw [seen0_next] at this; exact this, fun b hb => ?_, rfl, rfl, rfl, e.ro.trans (by unfold seen0; rfl)⟩
  have hh : h'.hid = h.hid := e.hid.trans seen0_hid
  have g : ({ h' with floor := h.floor, may := h.may, hid := h.hid } : Heap).get b = h'.get b := by
    unfold Heap.get Heap.own
    simp only [hh]
  exact g.trans ((e.old b (by rw [seen0_next]; exact hb)).trans (seen0_nil_get b))

theorem stampQueues_run {ro : Nat → Option (List Value × Nat)} {p : Option Addr} {bb len cap : Nat} {l : List Op} (hbb : bb % 2 = 1) (hl : l.length = len)
    (hg : 0 < len → p = some ⟨bb, 0, none⟩ ∧ (fresh ro).get bb = some (.cells (l.flatMap oc) 1 true)) :
    (callV env 1000 (.func (.func 7) #[] #[]) [.slice p len cap] (fresh ro)).Is fun p => p.1 = .bool true := by
  refine call_is (n := 999) env7 ?_
  have O : Has ro (fresh ro) [] := Has.start ro
  by_cases hlen : 200 < len
  · have c : (200 : Int) < (len : Int) := by omega
    simp (disch := first | assumption | omega | (simp only [wkD, oneCell, Option.isSome_some, *]; done) | (simp only [wkE, ne_eq]; omega)) only [ir7, List.append_nil, List.nil_append, List.cons_append, List.length_cons, List.length_nil, Nat.reduceAdd, Nat.reduceSub, List.replicate_succ, List.replicate_zero, c, wk0, wk1, wk2, wk3, wk4, wk5, X_region, X_seq, X_block, X_loop, X_cond, Y_box, Y_un, Y_store, Y_append, Y_makeMap, Y_buildSlice, ibin_shl, ibin_shr, ibin_and, List.set_cons_zero, List.set_cons_succ, List.getD_cons_zero, List.getD_cons_succ, List.map_cons, List.map_nil, ↓reduceIte, reduceCtorEq, oneCell, List.length_cons, List.length_nil, setAt, readN, bne_iff_ne, ne_eq, Nat.reduceAdd, Nat.reduceLeDiff, List.getElem?_cons_zero, List.getElem?_cons_succ, Nat.reduceMul, Option.isSome_some, layAt, Nat.reduceLT, Option.isNone_some, Option.isNone_none, beq_self_eq_true, Nat.reduceEqDiff, setParams, Int.reduceLT, Int.reduceLE, Int.reduceGT, Int.reduceGE, Int.reduceEq, Int.reduceNe, Option.map_some, Option.map_none, Option.isSome_none]
    exact leaf1 rfl
  have c : ¬ (200 : Int) < (len : Int) := by omega
  simp (disch := first | assumption | omega | (simp only [wkD, oneCell, Option.isSome_some, *]; done) | (simp only [wkE, ne_eq]; omega)) only [ir7, List.append_nil, List.nil_append, List.cons_append, List.length_cons, List.length_nil, Nat.reduceAdd, Nat.reduceSub, List.replicate_succ, List.replicate_zero, c, wk0, wk1, wk2, wk3, wk4, wk5, X_region, X_seq, X_block, X_loop, X_cond, Y_un, Y_store, Y_append, Y_makeMap, Y_buildSlice, ibin_shl, ibin_shr, ibin_and, List.set_cons_zero, List.set_cons_succ, List.getD_cons_zero, List.getD_cons_succ, List.map_cons, List.map_nil, ↓reduceIte, reduceCtorEq, oneCell, List.length_cons, List.length_nil, setAt, readN, bne_iff_ne, ne_eq, Nat.reduceAdd, Nat.reduceLeDiff, List.getElem?_cons_zero, List.getElem?_cons_succ, Nat.reduceMul, Option.isSome_some, layAt, Nat.reduceLT, Option.isNone_some, Option.isNone_none, beq_self_eq_true, Nat.reduceEqDiff, setParams, Int.reduceLT, Int.reduceLE, Int.reduceGT, Int.reduceGE, Int.reduceEq, Int.reduceNe, Option.map_some, Option.map_none, Option.isSome_none]
  refine Y_boxO O ?_
  intro qa h1 O1 e1
  replace O1 : Has ro h1 [Qr qa []] := Has.ex.2 ⟨_, Has.star.2 (Has.slrNil (g := ic) (z := 3) O1).swap2⟩
  simp (disch := first | assumption | omega | (simp only [wkD, oneCell, Option.isSome_some, *]; done) | (simp only [wkE, ne_eq]; omega)) only [wk0, wk1, wk2, wk3, wk4, wk5, X_region, X_seq, X_block, X_loop, X_cond, Y_un, Y_store, Y_append, Y_makeMap, Y_buildSlice, ibin_shl, ibin_shr, ibin_and, List.set_cons_zero, List.set_cons_succ, List.getD_cons_zero, List.getD_cons_succ, List.map_cons, List.map_nil, ↓reduceIte, reduceCtorEq, oneCell, List.length_cons, List.length_nil, setAt, readN, bne_iff_ne, ne_eq, Nat.reduceAdd, Nat.reduceLeDiff, List.getElem?_cons_zero, List.getElem?_cons_succ, Nat.reduceMul, Option.isSome_some, layAt, Nat.reduceLT, Option.isNone_some, Option.isNone_none, beq_self_eq_true, Nat.reduceEqDiff, setParams, Int.reduceLT, Int.reduceLE, Int.reduceGT, Int.reduceGE, Int.reduceEq, Int.reduceNe, Option.map_some, Option.map_none, Option.isSome_none]
  refine Y_boxO O1 ?_
  intro qb h2 O2 e2
  replace O2 := (Has.newQs O2).swap2
  clear O O1 e1 e2
  simp (disch := first | assumption | omega | (simp only [wkD, oneCell, Option.isSome_some, *]; done) | (simp only [wkE, ne_eq]; omega)) only [wk0, wk1, wk2, wk3, wk4, wk5, X_region, X_seq, X_block, X_loop, X_cond, Y_box, Y_un, Y_store, Y_append, Y_makeMap, Y_buildSlice, ibin_shl, ibin_shr, ibin_and, List.set_cons_zero, List.set_cons_succ, List.getD_cons_zero, List.getD_cons_succ, List.map_cons, List.map_nil, ↓reduceIte, reduceCtorEq, oneCell, List.length_cons, List.length_nil, setAt, readN, bne_iff_ne, ne_eq, Nat.reduceAdd, Nat.reduceLeDiff, List.getElem?_cons_zero, List.getElem?_cons_succ, Nat.reduceMul, Option.isSome_some, layAt, Nat.reduceLT, Option.isNone_some, Option.isNone_none, beq_self_eq_true, Nat.reduceEqDiff, setParams, Int.reduceLT, Int.reduceLE, Int.reduceGT, Int.reduceGE, Int.reduceEq, Int.reduceNe, Option.map_some, Option.map_none, Option.isSome_none]
  refine L_is (fun q s => ∃ (i : Nat) (A B : List It), s.defers = [] ∧ s.tmps.length = 187 ∧ s.tmps.getD 0 undefV = .slice p len cap ∧ s.tmps.getD 3 undefV = .pointer (some ⟨qa, 0, none⟩) ∧ s.tmps.getD 4 undefV = .pointer (some ⟨qb, 0, none⟩) ∧ s.tmps.getD 30 undefV = .int .i64 (len : Int) ∧ s.tmps.getD 31 undefV = .int .i64 (i : Int) ∧ q = len - i ∧ i ≤ len ∧ Rel A B ∧ Has ro s.h [Qr qa A, Qs qb B]) len ?_ (by omega) ?_
  · exact ⟨0, [], [], rfl, rfl, rfl, rfl, rfl, rfl, rfl, rfl, by omega, ⟨List.Pairwise.nil, List.Pairwise.nil, List.Perm.refl _, by simp⟩, O2⟩
  clear O2
  rintro q_ tm df h2 ⟨i, A, B, hd, hlen_, g0, g3, g4, g30, g31, hq, hi, RL, O⟩
  simp only at hd g0 g3 g4 g30 g31 O
  subst hd
  obtain ⟨w, hg_, rfl⟩ := explode hlen_
  simp only [hg_] at g0 g3 g4 g30 g31
  clear hlen_ hg_
  by_cases hlt : i < len
  · have hlt' : (i : Int) < (len : Int) := by omega
    have c0 : (0 : Int) ≤ (i : Int) := by omega
    have hfa := RL.few
    have hfb : B.length ≤ 8 := by rw [← RL.perm.length_eq]; exact hfa
    obtain ⟨rfl, hgb⟩ := hg (by omega)
    obtain ⟨r1, r2⟩ := rdO (O.odd hbb hgb) (i := i) (by omega)
    obtain ⟨o, x, ho⟩ : ∃ o x, nthO l i = ⟨o, x⟩ := ⟨_, _, rfl⟩
    rw [ho] at r1 r2
    have y1 : IntKind.i64.wrap ((i : Int) + 1) = ((i + 1 : Nat) : Int) := by rw [wrap_i64 (by omega) (by omega)]; omega
    simp (disch := first | assumption | omega | (simp only [wkD, oneCell, Option.isSome_some, *]; done) | (simp only [wkE, ne_eq]; omega)) only [g0, g3, g4, g30, g31, hlt', c0, r1, r2, Int.toNat_natCast, agg_ic, wk0, wk1, wk2, wk3, wk4, wk5, X_region, X_seq, X_block, X_loop, X_cond, Y_un, Y_store, Y_append, Y_makeMap, Y_buildSlice, ibin_shl, ibin_shr, ibin_and, List.set_cons_zero, List.set_cons_succ, List.getD_cons_zero, List.getD_cons_succ, List.map_cons, List.map_nil, ↓reduceIte, reduceCtorEq, oneCell, List.length_cons, List.length_nil, setAt, readN, bne_iff_ne, ne_eq, Nat.reduceAdd, Nat.reduceLeDiff, List.getElem?_cons_zero, List.getElem?_cons_succ, Nat.reduceMul, Option.isSome_some, layAt, Nat.reduceLT, Option.isNone_some, Option.isNone_none, beq_self_eq_true, Nat.reduceEqDiff, setParams, Int.reduceLT, Int.reduceLE, Int.reduceGT, Int.reduceGE, Int.reduceEq, Int.reduceNe, Option.map_some, Option.map_none, Option.isSome_none]
    refine Y_boxO O ?_
    intro xb h3 O3 e3
    have g3' := O3.get 0 rfl
    have p3' := O3.can 0 rfl
    have O4 := O3.set 0 rfl (.cells (ic x) 1 false)
    simp only [List.set_cons_zero] at O4
    obtain ⟨s1, s2⟩ := rdO (O4.odd hbb hgb) (i := i) (by omega)
    rw [ho] at s1 s2
    simp (disch := first | assumption | omega | (simp only [wkD, oneCell, Option.isSome_some, *]; done) | (simp only [wkE, ne_eq]; omega)) only [g3', p3', set_ic, iv_cells, ic_len, ic_one, wk0, wk1, wk2, wk3, wk4, wk5, X_region, X_block, X_loop, X_cond, Y_box, Y_un, Y_store, Y_append, Y_makeMap, Y_buildSlice, ibin_shl, ibin_shr, ibin_and, List.set_cons_zero, List.set_cons_succ, List.getD_cons_zero, List.getD_cons_succ, List.map_cons, List.map_nil, ↓reduceIte, reduceCtorEq, oneCell, List.length_cons, List.length_nil, setAt, readN, bne_iff_ne, ne_eq, Nat.reduceAdd, Nat.reduceLeDiff, List.getElem?_cons_zero, List.getElem?_cons_succ, Nat.reduceMul, Option.isSome_some, layAt, Nat.reduceLT, Option.isNone_some, Option.isNone_none, beq_self_eq_true, Nat.reduceEqDiff, setParams, Int.reduceLT, Int.reduceLE, Int.reduceGT, Int.reduceGE, Int.reduceEq, Int.reduceNe, Option.map_some, Option.map_none, Option.isSome_none]
    rw [X_seq]
    simp (disch := first | assumption | omega | (simp only [wkD, oneCell, Option.isSome_some, *]; done) | (simp only [wkE, ne_eq]; omega)) only [wk0, wk1, wk2, wk3, wk4, wk5, X_region, X_block, X_loop, X_cond, Y_box, Y_un, Y_store, Y_append, Y_makeMap, Y_buildSlice, ibin_shl, ibin_shr, ibin_and, List.set_cons_zero, List.set_cons_succ, List.getD_cons_zero, List.getD_cons_succ, List.map_cons, List.map_nil, ↓reduceIte, reduceCtorEq, oneCell, List.length_cons, List.length_nil, setAt, readN, bne_iff_ne, ne_eq, Nat.reduceAdd, Nat.reduceLeDiff, List.getElem?_cons_zero, List.getElem?_cons_succ, Nat.reduceMul, Option.isSome_some, layAt, Nat.reduceLT, Option.isNone_some, Option.isNone_none, beq_self_eq_true, Nat.reduceEqDiff, setParams, Int.reduceLT, Int.reduceLE, Int.reduceGT, Int.reduceGE, Int.reduceEq, Int.reduceNe, Option.map_some, Option.map_none, Option.isSome_none]
    rw [X_seq]
    refine X_cut0 (fun s => ∃ A' B' : List It, s.tmps.length = 187 ∧ s.tmps.getD 0 undefV = .slice (some ⟨bb, 0, none⟩) len cap ∧ s.tmps.getD 3 undefV = .pointer (some ⟨qa, 0, none⟩) ∧ s.tmps.getD 4 undefV = .pointer (some ⟨qb, 0, none⟩) ∧ s.tmps.getD 6 undefV = .pointer (some ⟨xb, 0, none⟩) ∧ s.tmps.getD 7 undefV = .bool true ∧ s.tmps.getD 30 undefV = .int .i64 (len : Int) ∧ s.tmps.getD 31 undefV = .int .i64 (i : Int) ∧ Has ro s.h [Ob xb (.cells (ic x) 1 false), Qr qa A', Qs qb B'] ∧ Rel A' B') ?_ ?_
    · have gx := O4.get 0 rfl
      generalize hh4 : (h3.setB xb (.cells (ic x) 1 false)) = h4 at O4 gx s1 s2 ⊢
      have lx : xb < 2 * h4.next := (O4.info (i := 0) rfl).2.2.2.1
      obtain ⟨bs, hbs, hnx⟩ := qr_plan O4
      have x0 : ∀ h : Heap, h.get xb = some (.cells (ic x) 1 false) → readC (h.get xb) 0 1 = some [.int .i64 x.r] := fun h e => by rw [e]; rfl
      have x2 : ∀ h : Heap, h.get xb = some (.cells (ic x) 1 false) → readC (h.get xb) 2 1 = some [.int .i64 x.p] := fun h e => by rw [e]; rfl
      by_cases h0 : o = 0
      · subst h0
        simp (disch := first | assumption | omega | (simp only [wkD, oneCell, Option.isSome_some, *]; done) | (simp only [wkE, ne_eq]; omega)) only [g0, g3, g4, g30, g31, c0, hlt', s1, gx, ic_len, tk_ic, rd_full, agg_ic, Int.toNat_natCast, wk0, wk1, wk2, wk3, wk4, wk5, X_region, X_seq, X_block, X_loop, X_cond, Y_box, Y_un, Y_store, Y_append, Y_makeMap, Y_buildSlice, ibin_shl, ibin_shr, ibin_and, List.set_cons_zero, List.set_cons_succ, List.getD_cons_zero, List.getD_cons_succ, List.map_cons, List.map_nil, ↓reduceIte, reduceCtorEq, oneCell, List.length_cons, List.length_nil, setAt, readN, bne_iff_ne, ne_eq, Nat.reduceAdd, Nat.reduceLeDiff, List.getElem?_cons_zero, List.getElem?_cons_succ, Nat.reduceMul, Option.isSome_some, layAt, Nat.reduceLT, Option.isNone_some, Option.isNone_none, beq_self_eq_true, Nat.reduceEqDiff, setParams, Int.reduceLT, Int.reduceLE, Int.reduceGT, Int.reduceGE, Int.reduceEq, Int.reduceNe, Option.map_some, Option.map_none, Option.isSome_none]
        refine Z_is (put_h (n := 990) (by omega) hfa (O4.at 1 rfl) x) ?_
        rintro v5 h5 ⟨a, e, A', hv, hp, O5⟩
        simp only [List.eraseIdx_cons_succ, List.eraseIdx_cons_zero] at O5 hv
        subst hv
        have gx5 := O5.get 1 rfl
        simp (disch := first | assumption | omega | (simp only [wkD, oneCell, Option.isSome_some, *]; done) | (simp only [wkE, ne_eq]; omega)) only [gx5, ic_len, tk_ic, rd_full, agg_ic, wk0, wk1, wk2, wk3, wk4, wk5, X_region, X_seq, X_block, X_loop, X_cond, Y_box, Y_un, Y_store, Y_append, Y_makeMap, Y_buildSlice, ibin_shl, ibin_shr, ibin_and, List.set_cons_zero, List.set_cons_succ, List.getD_cons_zero, List.getD_cons_succ, List.map_cons, List.map_nil, ↓reduceIte, reduceCtorEq, oneCell, List.length_cons, List.length_nil, setAt, readN, bne_iff_ne, ne_eq, Nat.reduceAdd, Nat.reduceLeDiff, List.getElem?_cons_zero, List.getElem?_cons_succ, Nat.reduceMul, Option.isSome_some, layAt, Nat.reduceLT, Option.isNone_some, Option.isNone_none, beq_self_eq_true, Nat.reduceEqDiff, setParams, Int.reduceLT, Int.reduceLE, Int.reduceGT, Int.reduceGE, Int.reduceEq, Int.reduceNe, Option.map_some, Option.map_none, Option.isSome_none]
        refine Z_is (rput_h (n := 997) (by omega) (by omega) (O5.at 2 rfl) x) ?_
        rintro v6 h6 ⟨a2, e2, B', hv, hq, O6⟩
        simp only [List.eraseIdx_cons_succ, List.eraseIdx_cons_zero] at O6 hv
        subst hv
        obtain ⟨rfl, rfl, R'⟩ := put_rel RL hp hq
        simp (disch := first | assumption | omega | (simp only [wkD, oneCell, Option.isSome_some, *]; done) | (simp only [wkE, ne_eq]; omega)) only [wk0, wk1, wk2, wk3, wk4, wk5, X_region, X_seq, X_block, X_loop, X_cond, Y_box, Y_un, Y_store, Y_append, Y_makeMap, Y_buildSlice, ibin_shl, ibin_shr, ibin_and, List.set_cons_zero, List.set_cons_succ, List.getD_cons_zero, List.getD_cons_succ, List.map_cons, List.map_nil, ↓reduceIte, reduceCtorEq, oneCell, List.length_cons, List.length_nil, setAt, readN, bne_iff_ne, ne_eq, Nat.reduceAdd, Nat.reduceLeDiff, List.getElem?_cons_zero, List.getElem?_cons_succ, Nat.reduceMul, Option.isSome_some, layAt, Nat.reduceLT, Option.isNone_some, Option.isNone_none, beq_self_eq_true, Nat.reduceEqDiff, setParams, Int.reduceLT, Int.reduceLE, Int.reduceGT, Int.reduceGE, Int.reduceEq, Int.reduceNe, Option.map_some, Option.map_none, Option.isSome_none]
        exact mid_in ⟨A', B', rfl, rfl, rfl, rfl, rfl, rfl, rfl, rfl, (O6.at 2 rfl |>.at 2 rfl |>.at 1 rfl), R'⟩
      by_cases h1 : o = 1
      · subst h1
        simp (disch := first | assumption | omega | (simp only [wkD, oneCell, Option.isSome_some, *]; done) | (simp only [wkE, ne_eq]; omega)) only [g0, g3, g4, g30, g31, c0, hlt', s1, Int.toNat_natCast, wk0, wk1, wk2, wk3, wk4, wk5, X_region, X_seq, X_block, X_loop, X_cond, Y_box, Y_un, Y_store, Y_append, Y_makeMap, Y_buildSlice, ibin_shl, ibin_shr, ibin_and, List.set_cons_zero, List.set_cons_succ, List.getD_cons_zero, List.getD_cons_succ, List.map_cons, List.map_nil, ↓reduceIte, reduceCtorEq, oneCell, List.length_cons, List.length_nil, setAt, readN, bne_iff_ne, ne_eq, Nat.reduceAdd, Nat.reduceLeDiff, List.getElem?_cons_zero, List.getElem?_cons_succ, Nat.reduceMul, Option.isSome_some, layAt, Nat.reduceLT, Option.isNone_some, Option.isNone_none, beq_self_eq_true, Nat.reduceEqDiff, setParams, Int.reduceLT, Int.reduceLE, Int.reduceGT, Int.reduceGE, Int.reduceEq, Int.reduceNe, Option.map_some, Option.map_none, Option.isSome_none]
        refine X_plan [[], [], [], [], [], bs] O4.fine ?_
        refine Dp.move ?_
        refine Dp.fieldAddr rfl ?_
        refine Dp.load1 rfl (x0 _ gx) (fun k _ => notin5 hnx k) (fun x hx => by cases hx) ?_
        refine Dp.fieldAddr rfl ?_
        refine Dp.load1 rfl (x2 _ gx) (fun k _ => notin5 hnx k) (fun x hx => by cases hx) ?_
        refine Dp.callFree O4.fine (T.Is.mono (fun _ _ => trivial) (raise_h (n := 990) (r := x.r) (p := x.p) (by omega) hfa (Has.seen (O4.at 1 rfl) hbs (fun k hk => plan5 k (unord_ne hk))))) (raise_h (n := 990) (r := x.r) (p := x.p) (by omega) hfa (O4.at 1 rfl)) ?_
        rintro v5 h5 ⟨a, A', hv, hr, O5⟩
        simp only [List.eraseIdx_cons_succ, List.eraseIdx_cons_zero] at O5 hv
        subst hv
        have gx5 := O5.get 1 rfl
        refine Dp.move ?_
        refine Dp.fieldAddr rfl ?_
        refine Dp.load1 rfl (x0 _ gx5) (fun k _ => notin5 hnx k) (fr_ok lx) ?_
        refine Dp.fieldAddr rfl ?_
        refine Dp.load1 rfl (x2 _ gx5) (fun k _ => notin5 hnx k) (fr_ok lx) ?_
        refine Dp.callFixed (rraise_h (n := 997) (r := x.r) (p := x.p) (by omega) (by omega) (O5.at 2 rfl)) ?_
        rintro v6 h6 ⟨a2, B', hv, hq, O6⟩
        simp only [List.eraseIdx_cons_succ, List.eraseIdx_cons_zero] at O6 hv
        subst hv
        obtain ⟨rfl, R'⟩ := raise_rel RL hr hq
        refine Dp.eqBool rfl rfl ?_
        refine Dp.move ?_
        refine Dp.nil ?_
        simp (disch := first | assumption | omega | (simp only [wkD, oneCell, Option.isSome_some, *]; done) | (simp only [wkE, ne_eq]; omega)) only [wk0, wk1, wk2, wk3, wk4, wk5, X_region, X_seq, X_block, X_loop, X_cond, Y_box, Y_un, Y_store, Y_append, Y_makeMap, Y_buildSlice, ibin_shl, ibin_shr, ibin_and, List.set_cons_zero, List.set_cons_succ, List.getD_cons_zero, List.getD_cons_succ, List.map_cons, List.map_nil, ↓reduceIte, reduceCtorEq, oneCell, List.length_cons, List.length_nil, setAt, readN, bne_iff_ne, ne_eq, Nat.reduceAdd, Nat.reduceLeDiff, List.getElem?_cons_zero, List.getElem?_cons_succ, Nat.reduceMul, Option.isSome_some, layAt, Nat.reduceLT, Option.isNone_some, Option.isNone_none, beq_self_eq_true, Nat.reduceEqDiff, setParams, Int.reduceLT, Int.reduceLE, Int.reduceGT, Int.reduceGE, Int.reduceEq, Int.reduceNe, Option.map_some, Option.map_none, Option.isSome_none]
        exact mid_in ⟨A', B', rfl, rfl, rfl, rfl, rfl, rfl, rfl, rfl, (O6.at 2 rfl |>.at 2 rfl |>.at 1 rfl), R'⟩
      by_cases h2 : o = 2
      · subst h2
        simp (disch := first | assumption | omega | (simp only [wkD, oneCell, Option.isSome_some, *]; done) | (simp only [wkE, ne_eq]; omega)) only [g0, g3, g4, g30, g31, c0, hlt', s1, Int.toNat_natCast, wk0, wk1, wk2, wk3, wk4, wk5, X_region, X_seq, X_block, X_loop, X_cond, Y_box, Y_un, Y_store, Y_append, Y_makeMap, Y_buildSlice, ibin_shl, ibin_shr, ibin_and, List.set_cons_zero, List.set_cons_succ, List.getD_cons_zero, List.getD_cons_succ, List.map_cons, List.map_nil, ↓reduceIte, reduceCtorEq, oneCell, List.length_cons, List.length_nil, setAt, readN, bne_iff_ne, ne_eq, Nat.reduceAdd, Nat.reduceLeDiff, List.getElem?_cons_zero, List.getElem?_cons_succ, Nat.reduceMul, Option.isSome_some, layAt, Nat.reduceLT, Option.isNone_some, Option.isNone_none, beq_self_eq_true, Nat.reduceEqDiff, setParams, Int.reduceLT, Int.reduceLE, Int.reduceGT, Int.reduceGE, Int.reduceEq, Int.reduceNe, Option.map_some, Option.map_none, Option.isSome_none]
        refine X_plan [[], [], [], bs] O4.fine ?_
        refine Dp.move ?_
        refine Dp.fieldAddr rfl ?_
        refine Dp.load1 rfl (x0 _ gx) (fun k _ => notin3 hnx k) (fun x hx => by cases hx) ?_
        refine Dp.callFree O4.fine (T.Is.mono (fun _ _ => trivial) (cut_h (n := 995) (r := x.r) (by omega) hfa (Has.seen (O4.at 1 rfl) hbs (fun k hk => plan3 k (unord_ne hk))))) (cut_h (n := 995) (r := x.r) (by omega) hfa (O4.at 1 rfl)) ?_
        rintro v5 h5 ⟨a, A', hv, hr, O5⟩
        simp only [List.eraseIdx_cons_succ, List.eraseIdx_cons_zero] at O5 hv
        subst hv
        have gx5 := O5.get 1 rfl
        refine Dp.move ?_
        refine Dp.fieldAddr rfl ?_
        refine Dp.load1 rfl (x0 _ gx5) (fun k _ => notin3 hnx k) (fr_ok lx) ?_
        refine Dp.callFixed (rcut_h (n := 997) (r := x.r) (by omega) (by omega) (O5.at 2 rfl)) ?_
        rintro v6 h6 ⟨a2, B', hv, hq, O6⟩
        simp only [List.eraseIdx_cons_succ, List.eraseIdx_cons_zero] at O6 hv
        subst hv
        obtain ⟨rfl, R'⟩ := cut_rel RL hr hq
        refine Dp.eqBool rfl rfl ?_
        refine Dp.move ?_
        refine Dp.nil ?_
        simp (disch := first | assumption | omega | (simp only [wkD, oneCell, Option.isSome_some, *]; done) | (simp only [wkE, ne_eq]; omega)) only [wk0, wk1, wk2, wk3, wk4, wk5, X_region, X_seq, X_block, X_loop, X_cond, Y_box, Y_un, Y_store, Y_append, Y_makeMap, Y_buildSlice, ibin_shl, ibin_shr, ibin_and, List.set_cons_zero, List.set_cons_succ, List.getD_cons_zero, List.getD_cons_succ, List.map_cons, List.map_nil, ↓reduceIte, reduceCtorEq, oneCell, List.length_cons, List.length_nil, setAt, readN, bne_iff_ne, ne_eq, Nat.reduceAdd, Nat.reduceLeDiff, List.getElem?_cons_zero, List.getElem?_cons_succ, Nat.reduceMul, Option.isSome_some, layAt, Nat.reduceLT, Option.isNone_some, Option.isNone_none, beq_self_eq_true, Nat.reduceEqDiff, setParams, Int.reduceLT, Int.reduceLE, Int.reduceGT, Int.reduceGE, Int.reduceEq, Int.reduceNe, Option.map_some, Option.map_none, Option.isSome_none]
        exact mid_in ⟨A', B', rfl, rfl, rfl, rfl, rfl, rfl, rfl, rfl, (O6.at 2 rfl |>.at 2 rfl |>.at 1 rfl), R'⟩
      · simp (disch := first | assumption | omega | (simp only [wkD, oneCell, Option.isSome_some, *]; done) | (simp only [wkE, ne_eq]; omega)) only [g0, g3, g4, g30, g31, c0, hlt', s1, Int.toNat_natCast, h0, h1, h2, wk0, wk1, wk2, wk3, wk4, wk5, X_region, X_seq, X_block, X_loop, X_cond, Y_box, Y_un, Y_store, Y_append, Y_makeMap, Y_buildSlice, ibin_shl, ibin_shr, ibin_and, List.set_cons_zero, List.set_cons_succ, List.getD_cons_zero, List.getD_cons_succ, List.map_cons, List.map_nil, ↓reduceIte, reduceCtorEq, oneCell, List.length_cons, List.length_nil, setAt, readN, bne_iff_ne, ne_eq, Nat.reduceAdd, Nat.reduceLeDiff, List.getElem?_cons_zero, List.getElem?_cons_succ, Nat.reduceMul, Option.isSome_some, layAt, Nat.reduceLT, Option.isNone_some, Option.isNone_none, beq_self_eq_true, Nat.reduceEqDiff, setParams, Int.reduceLT, Int.reduceLE, Int.reduceGT, Int.reduceGE, Int.reduceEq, Int.reduceNe, Option.map_some, Option.map_none, Option.isSome_none]
        exact mid_in ⟨A, B, rfl, rfl, rfl, rfl, rfl, rfl, rfl, rfl, O4, RL⟩
    clear O O3 O4 s1 s2 g3' p3' r1 r2 g0 g3 g4 g30 g31 e3 RL hfa hfb
    clear A B
    rintro tm h5 ⟨A, B, hlen_, g0, g3, g4, g6, g7, g30, g31, O, RL⟩
    simp only at g0 g3 g4 g6 g7 g30 g31 O
    obtain ⟨w, hg_, rfl⟩ := explode hlen_
    simp only [hg_] at g0 g3 g4 g6 g7 g30 g31
    clear hlen_ hg_
    have hfa := RL.few
    have hlen := RL.perm.length_eq
    have hfb : B.length ≤ 8 := by omega
    simp (disch := first | assumption | omega | (simp only [wkD, oneCell, Option.isSome_some, *]; done) | (simp only [wkE, ne_eq]; omega)) only [g0, g3, g4, g6, g7, g30, g31, wk0, wk1, wk2, wk3, wk4, wk5, X_region, X_seq, X_block, X_loop, X_cond, Y_box, Y_un, Y_store, Y_append, Y_makeMap, Y_buildSlice, ibin_shl, ibin_shr, ibin_and, List.set_cons_zero, List.set_cons_succ, List.getD_cons_zero, List.getD_cons_succ, List.map_cons, List.map_nil, ↓reduceIte, reduceCtorEq, oneCell, List.length_cons, List.length_nil, setAt, readN, bne_iff_ne, ne_eq, Nat.reduceAdd, Nat.reduceLeDiff, List.getElem?_cons_zero, List.getElem?_cons_succ, Nat.reduceMul, Option.isSome_some, layAt, Nat.reduceLT, Option.isNone_some, Option.isNone_none, beq_self_eq_true, Nat.reduceEqDiff, setParams, Int.reduceLT, Int.reduceLE, Int.reduceGT, Int.reduceGE, Int.reduceEq, Int.reduceNe, Option.map_some, Option.map_none, Option.isSome_none]
    refine Z_is (rall_h (n := 997) (sorted_order.2 RL.order) (dist_apart.2 RL.apart) (fun y => RL.perm.count_eq y) (by omega) (by omega) (O.at 2 rfl)) ?_
    rintro v6 h6 O6
    simp only [List.eraseIdx_cons_succ, List.eraseIdx_cons_zero] at O6
    obtain ⟨pw, cw, rfl, z1⟩ := O6.scVal 0 rfl
    simp (disch := first | assumption | omega | (simp only [wkD, oneCell, Option.isSome_some, *]; done) | (simp only [wkE, ne_eq]; omega)) only [g0, g3, g4, g6, g7, g30, g31, wk0, wk1, wk2, wk3, wk4, wk5, X_region, X_seq, X_block, X_loop, X_cond, Y_box, Y_un, Y_store, Y_append, Y_makeMap, Y_buildSlice, ibin_shl, ibin_shr, ibin_and, List.set_cons_zero, List.set_cons_succ, List.getD_cons_zero, List.getD_cons_succ, List.map_cons, List.map_nil, ↓reduceIte, reduceCtorEq, oneCell, List.length_cons, List.length_nil, setAt, readN, bne_iff_ne, ne_eq, Nat.reduceAdd, Nat.reduceLeDiff, List.getElem?_cons_zero, List.getElem?_cons_succ, Nat.reduceMul, Option.isSome_some, layAt, Nat.reduceLT, Option.isNone_some, Option.isNone_none, beq_self_eq_true, Nat.reduceEqDiff, setParams, Int.reduceLT, Int.reduceLE, Int.reduceGT, Int.reduceGE, Int.reduceEq, Int.reduceNe, Option.map_some, Option.map_none, Option.isSome_none]
    refine Z_is (list_h (n := 997) (by omega) (O6.at 3 rfl)) ?_
    rintro v7 h7 O7
    simp only [List.eraseIdx_cons_succ, List.eraseIdx_cons_zero] at O7
    obtain ⟨pg, cg, rfl, z2⟩ := O7.scVal 0 rfl
    clear z1 z2
    simp (disch := first | assumption | omega | (simp only [wkD, oneCell, Option.isSome_some, *]; done) | (simp only [wkE, ne_eq]; omega)) only [g0, g3, g4, g6, g7, g30, g31, wk0, wk1, wk2, wk3, wk4, wk5, X_region, X_seq, X_block, X_loop, X_cond, Y_box, Y_un, Y_store, Y_append, Y_makeMap, Y_buildSlice, ibin_shl, ibin_shr, ibin_and, List.set_cons_zero, List.set_cons_succ, List.getD_cons_zero, List.getD_cons_succ, List.map_cons, List.map_nil, ↓reduceIte, reduceCtorEq, oneCell, List.length_cons, List.length_nil, setAt, readN, bne_iff_ne, ne_eq, Nat.reduceAdd, Nat.reduceLeDiff, List.getElem?_cons_zero, List.getElem?_cons_succ, Nat.reduceMul, Option.isSome_some, layAt, Nat.reduceLT, Option.isNone_some, Option.isNone_none, beq_self_eq_true, Nat.reduceEqDiff, setParams, Int.reduceLT, Int.reduceLE, Int.reduceGT, Int.reduceGE, Int.reduceEq, Int.reduceNe, Option.map_some, Option.map_none, Option.isSome_none]
    refine Z_is (first_h (n := 996) (by omega) hfa (O7.at 1 rfl)) ?_
    rintro v8 h8 ⟨rfl, O8⟩
    simp only [List.eraseIdx_cons_succ, List.eraseIdx_cons_zero] at O8
    simp (disch := first | assumption | omega | (simp only [wkD, oneCell, Option.isSome_some, *]; done) | (simp only [wkE, ne_eq]; omega)) only [g0, g3, g4, g6, g7, g30, g31, wk0, wk1, wk2, wk3, wk4, wk5, X_region, X_seq, X_block, X_loop, X_cond, Y_un, Y_store, Y_append, Y_makeMap, Y_buildSlice, ibin_shl, ibin_shr, ibin_and, List.set_cons_zero, List.set_cons_succ, List.getD_cons_zero, List.getD_cons_succ, List.map_cons, List.map_nil, ↓reduceIte, reduceCtorEq, oneCell, List.length_cons, List.length_nil, setAt, readN, bne_iff_ne, ne_eq, Nat.reduceAdd, Nat.reduceLeDiff, List.getElem?_cons_zero, List.getElem?_cons_succ, Nat.reduceMul, Option.isSome_some, layAt, Nat.reduceLT, Option.isNone_some, Option.isNone_none, beq_self_eq_true, Nat.reduceEqDiff, setParams, Int.reduceLT, Int.reduceLE, Int.reduceGT, Int.reduceGE, Int.reduceEq, Int.reduceNe, Option.map_some, Option.map_none, Option.isSome_none]
    refine Y_boxO O8 ?_
    intro b9 h9 O9 e9
    have g9 := O9.get 0 rfl
    have p9 := O9.can 0 rfl
    have O10 := O9.set 0 rfl (.cells (ic (nth A 0)) 1 false)
    simp only [List.set_cons_zero] at O10
    have gx10 := O10.get 5 rfl
    have x0 : readC (some (.cells (ic x) 1 false)) 0 1 = some [.int .i64 x.r] := rfl
    simp (disch := first | assumption | omega | (simp only [wkD, oneCell, Option.isSome_some, *]; done) | (simp only [wkE, ne_eq]; omega)) only [g0, g3, g4, g6, g7, g30, g31, g9, p9, set_ic, iv_cells, ic_len, ic_one, gx10, x0, wk0, wk1, wk2, wk3, wk4, wk5, X_region, X_seq, X_block, X_loop, X_cond, Y_box, Y_un, Y_store, Y_append, Y_makeMap, Y_buildSlice, ibin_shl, ibin_shr, ibin_and, List.set_cons_zero, List.set_cons_succ, List.getD_cons_zero, List.getD_cons_succ, List.map_cons, List.map_nil, ↓reduceIte, reduceCtorEq, oneCell, List.length_cons, List.length_nil, setAt, readN, bne_iff_ne, ne_eq, Nat.reduceAdd, Nat.reduceLeDiff, List.getElem?_cons_zero, List.getElem?_cons_succ, Nat.reduceMul, Option.isSome_some, layAt, Nat.reduceLT, Option.isNone_some, Option.isNone_none, beq_self_eq_true, Nat.reduceEqDiff, setParams, Int.reduceLT, Int.reduceLE, Int.reduceGT, Int.reduceGE, Int.reduceEq, Int.reduceNe, Option.map_some, Option.map_none, Option.isSome_none]
    refine Z_is (R := fun q => ∃ (y : It) (f : Bool), q.1 = .tuple #[iv y, .bool f] ∧ ((f = false ∧ y = it0 ∧ IsPlace A x.r (-1)) ∨ (f = true ∧ ∃ i : Nat, IsPlace A x.r (i : Int) ∧ y = nth A i)) ∧ Has ro q.2 [Qr qa A, Ob b9 (.cells (ic (nth A 0)) 1 false), Sc 3 ic (.slice pg A.length cg) A, Sc 3 ic (.slice pw A.length cw) A, Qs qb B, Ob xb (.cells (ic x) 1 false)]) (T.Is.mono ?_ (find_h (n := 995) (r := x.r) (by omega) hfa (O10.at 1 rfl))) ?_
    · rintro ⟨v, hh⟩ ⟨⟨pl, rfl⟩ | ⟨i, pl, hi, rfl⟩, O11⟩
      · exact ⟨it0, false, rfl, Or.inl ⟨rfl, rfl, pl⟩, O11⟩
      · exact ⟨nth A i, true, rfl, Or.inr ⟨rfl, i, pl, rfl⟩, O11⟩
    rintro v11 h11 ⟨y, f, rfl, hyf, O11⟩
    simp only at O11
    simp (disch := first | assumption | omega | (simp only [wkD, oneCell, Option.isSome_some, *]; done) | (simp only [wkE, ne_eq]; omega)) only [g0, g3, g4, g6, g7, g30, g31, wk0, wk1, wk2, wk3, wk4, wk5, X_region, X_seq, X_block, X_loop, X_cond, Y_un, Y_store, Y_append, Y_makeMap, Y_buildSlice, ibin_shl, ibin_shr, ibin_and, List.set_cons_zero, List.set_cons_succ, List.getD_cons_zero, List.getD_cons_succ, List.map_cons, List.map_nil, ↓reduceIte, reduceCtorEq, oneCell, List.length_cons, List.length_nil, setAt, readN, bne_iff_ne, ne_eq, Nat.reduceAdd, Nat.reduceLeDiff, List.getElem?_cons_zero, List.getElem?_cons_succ, Nat.reduceMul, Option.isSome_some, layAt, Nat.reduceLT, Option.isNone_some, Option.isNone_none, beq_self_eq_true, Nat.reduceEqDiff, setParams, Int.reduceLT, Int.reduceLE, Int.reduceGT, Int.reduceGE, Int.reduceEq, Int.reduceNe, Option.map_some, Option.map_none, Option.isSome_none]
    refine Y_boxO O11 ?_
    intro b12 h12 O12 e12
    have g12 := O12.get 0 rfl
    have p12 := O12.can 0 rfl
    have O13 := O12.set 0 rfl (.cells (ic y) 1 false)
    simp only [List.set_cons_zero] at O13
    have gx13 := O13.get 6 rfl
    simp (disch := first | assumption | omega | (simp only [wkD, oneCell, Option.isSome_some, *]; done) | (simp only [wkE, ne_eq]; omega)) only [g0, g3, g4, g6, g7, g30, g31, g12, p12, set_ic, iv_cells, ic_len, ic_one, gx13, x0, wk0, wk1, wk2, wk3, wk4, wk5, X_region, X_seq, X_block, X_loop, X_cond, Y_box, Y_un, Y_store, Y_append, Y_makeMap, Y_buildSlice, ibin_shl, ibin_shr, ibin_and, List.set_cons_zero, List.set_cons_succ, List.getD_cons_zero, List.getD_cons_succ, List.map_cons, List.map_nil, ↓reduceIte, reduceCtorEq, oneCell, List.length_cons, List.length_nil, setAt, readN, bne_iff_ne, ne_eq, Nat.reduceAdd, Nat.reduceLeDiff, List.getElem?_cons_zero, List.getElem?_cons_succ, Nat.reduceMul, Option.isSome_some, layAt, Nat.reduceLT, Option.isNone_some, Option.isNone_none, beq_self_eq_true, Nat.reduceEqDiff, setParams, Int.reduceLT, Int.reduceLE, Int.reduceGT, Int.reduceGE, Int.reduceEq, Int.reduceNe, Option.map_some, Option.map_none, Option.isSome_none]
    refine Z_is (rfind_h (n := 998) (r := x.r) (by omega) (by omega) (O13.at 5 rfl)) ?_
    rintro v14 h14 ⟨k, ⟨rfl⟩, hk⟩
    have hkf : (f = false ∧ y = it0 ∧ k = -1) ∨ (f = true ∧ ∃ j : Nat, k = (j : Int) ∧ j < B.length ∧ y = nth B j) := by
      rcases hyf with ⟨rfl, rfl, pl⟩ | ⟨rfl, i, pl, rfl⟩
      · rcases place_rel RL.apart RL.perm pl hk with ⟨_, h⟩ | ⟨_, _, h, _⟩
        · exact Or.inl ⟨rfl, rfl, h⟩
        · omega
      · rcases place_rel RL.apart RL.perm pl hk with ⟨h, _⟩ | ⟨i', j, h1, h2, _, hj, en, _⟩
        · omega
        · have : i' = i := by omega
          subst this
          exact Or.inr ⟨rfl, j, h2, hj, en⟩
    simp (disch := first | assumption | omega | (simp only [wkD, oneCell, Option.isSome_some, *]; done) | (simp only [wkE, ne_eq]; omega)) only [g0, g3, g4, g6, g7, g30, g31, wk0, wk1, wk2, wk3, wk4, wk5, X_region, X_seq, X_block, X_loop, X_cond, Y_un, Y_store, Y_append, Y_makeMap, Y_buildSlice, ibin_shl, ibin_shr, ibin_and, List.set_cons_zero, List.set_cons_succ, List.getD_cons_zero, List.getD_cons_succ, List.map_cons, List.map_nil, ↓reduceIte, reduceCtorEq, oneCell, List.length_cons, List.length_nil, setAt, readN, bne_iff_ne, ne_eq, Nat.reduceAdd, Nat.reduceLeDiff, List.getElem?_cons_zero, List.getElem?_cons_succ, Nat.reduceMul, Option.isSome_some, layAt, Nat.reduceLT, Option.isNone_some, Option.isNone_none, beq_self_eq_true, Nat.reduceEqDiff, setParams, Int.reduceLT, Int.reduceLE, Int.reduceGT, Int.reduceGE, Int.reduceEq, Int.reduceNe, Option.map_some, Option.map_none, Option.isSome_none]
    refine Y_boxO O13 ?_
    intro b19 h19 O19 e19
    have g19 := O19.get 0 rfl
    have p19 := O19.can 0 rfl
    have O20 := O19.set 0 rfl (.cells (ic it0) 1 false)
    simp only [List.set_cons_zero] at O20
    have cz : [Value.int .i64 0, .int .u64 0, .int .i64 0] = ic it0 := rfl
    simp (disch := first | assumption | omega | (simp only [wkD, oneCell, Option.isSome_some, *]; done) | (simp only [wkE, ne_eq]; omega)) only [g0, g3, g4, g6, g7, g30, g31, g19, p19, cz, set_ic, ic_len, ic_one, wk0, wk1, wk2, wk3, wk4, wk5, X_region, X_block, X_loop, X_cond, Y_box, Y_un, Y_store, Y_append, Y_makeMap, Y_buildSlice, ibin_shl, ibin_shr, ibin_and, List.set_cons_zero, List.set_cons_succ, List.getD_cons_zero, List.getD_cons_succ, List.map_cons, List.map_nil, ↓reduceIte, reduceCtorEq, oneCell, List.length_cons, List.length_nil, setAt, readN, bne_iff_ne, ne_eq, Nat.reduceAdd, Nat.reduceLeDiff, List.getElem?_cons_zero, List.getElem?_cons_succ, Nat.reduceMul, Option.isSome_some, layAt, Nat.reduceLT, Option.isNone_some, Option.isNone_none, beq_self_eq_true, Nat.reduceEqDiff, setParams, Int.reduceLT, Int.reduceLE, Int.reduceGT, Int.reduceGE, Int.reduceEq, Int.reduceNe, Option.map_some, Option.map_none, Option.isSome_none]
    rw [X_seq]
    refine X_cut0 (fun s => s.tmps.length = 187 ∧ s.tmps.getD 0 undefV = .slice (some ⟨bb, 0, none⟩) len cap ∧ s.tmps.getD 3 undefV = .pointer (some ⟨qa, 0, none⟩) ∧ s.tmps.getD 4 undefV = .pointer (some ⟨qb, 0, none⟩) ∧ s.tmps.getD 6 undefV = .pointer (some ⟨xb, 0, none⟩) ∧ s.tmps.getD 7 undefV = .bool true ∧ s.tmps.getD 12 undefV = .slice pw A.length cw ∧ s.tmps.getD 13 undefV = .slice pg A.length cg ∧ s.tmps.getD 14 undefV = .pointer (some ⟨b9, 0, none⟩) ∧ s.tmps.getD 15 undefV = .bool (decide (0 < A.length)) ∧ s.tmps.getD 16 undefV = .pointer (some ⟨b12, 0, none⟩) ∧ s.tmps.getD 17 undefV = .bool f ∧ s.tmps.getD 18 undefV = .int .i64 k ∧ s.tmps.getD 19 undefV = .pointer (some ⟨b19, 0, none⟩) ∧ s.tmps.getD 30 undefV = .int .i64 (len : Int) ∧ s.tmps.getD 31 undefV = .int .i64 (i : Int) ∧ Has ro s.h [Ob b19 (.cells (ic y) 1 false), Ob b12 (.cells (ic y) 1 false), Qr qa A, Ob b9 (.cells (ic (nth A 0)) 1 false), Sc 3 ic (.slice pg A.length cg) A, Sc 3 ic (.slice pw A.length cw) A, Qs qb B, Ob xb (.cells (ic x) 1 false)]) ?_ ?_
    · rcases hkf with ⟨rfl, rfl, rfl⟩ | ⟨rfl, j, rfl, hj, rfl⟩
      · have m1 : ¬ (0 : Int) ≤ -1 := by omega
        simp (disch := first | assumption | omega | (simp only [wkD, oneCell, Option.isSome_some, *]; done) | (simp only [wkE, ne_eq]; omega)) only [g0, g3, g4, g6, g7, g30, g31, m1, wk0, wk1, wk2, wk3, wk4, wk5, X_region, X_seq, X_block, X_loop, X_cond, Y_box, Y_un, Y_store, Y_append, Y_makeMap, Y_buildSlice, ibin_shl, ibin_shr, ibin_and, List.set_cons_zero, List.set_cons_succ, List.getD_cons_zero, List.getD_cons_succ, List.map_cons, List.map_nil, ↓reduceIte, reduceCtorEq, oneCell, List.length_cons, List.length_nil, setAt, readN, bne_iff_ne, ne_eq, Nat.reduceAdd, Nat.reduceLeDiff, List.getElem?_cons_zero, List.getElem?_cons_succ, Nat.reduceMul, Option.isSome_some, layAt, Nat.reduceLT, Option.isNone_some, Option.isNone_none, beq_self_eq_true, Nat.reduceEqDiff, setParams, Int.reduceLT, Int.reduceLE, Int.reduceGT, Int.reduceGE, Int.reduceEq, Int.reduceNe, Option.map_some, Option.map_none, Option.isSome_none]
        exact mid_in ⟨rfl, rfl, rfl, rfl, rfl, rfl, rfl, rfl, rfl, rfl, rfl, rfl, rfl, rfl, rfl, rfl, O20⟩
      · have m1 : (0 : Int) ≤ (j : Int) := by omega
        have m2 : (j : Int) < (B.length : Int) := by omega
        obtain ⟨p1, c1, hc1, hs1, V1, OB⟩ := Has.qs (O20.at 6 rfl)
        have gq := OB.get 0 rfl
        obtain ⟨b1, o1, sp1, rfl, r1, _, _⟩ := rdW V1 hj
        have g21 := O20.get 0 rfl
        have p21 := O20.can 0 rfl
        have O21 := O20.set 0 rfl (.cells (ic (nth B j)) 1 false)
        simp only [List.set_cons_zero] at O21
        simp (disch := first | assumption | omega | (simp only [wkD, oneCell, Option.isSome_some, *]; done) | (simp only [wkE, ne_eq]; omega)) only [g0, g3, g4, g6, g7, g30, g31, m1, m2, gq, r1, Int.toNat_natCast, agg_ic, g21, p21, set_ic', iv_cells, ic_len, ic_one, wk0, wk1, wk2, wk3, wk4, wk5, X_region, X_seq, X_block, X_loop, X_cond, Y_box, Y_un, Y_store, Y_append, Y_makeMap, Y_buildSlice, ibin_shl, ibin_shr, ibin_and, List.set_cons_zero, List.set_cons_succ, List.getD_cons_zero, List.getD_cons_succ, List.map_cons, List.map_nil, ↓reduceIte, reduceCtorEq, oneCell, List.length_cons, List.length_nil, setAt, readN, bne_iff_ne, ne_eq, Nat.reduceAdd, Nat.reduceLeDiff, List.getElem?_cons_zero, List.getElem?_cons_succ, Nat.reduceMul, Option.isSome_some, layAt, Nat.reduceLT, Option.isNone_some, Option.isNone_none, beq_self_eq_true, Nat.reduceEqDiff, setParams, Int.reduceLT, Int.reduceLE, Int.reduceGT, Int.reduceGE, Int.reduceEq, Int.reduceNe, Option.map_some, Option.map_none, Option.isSome_none]
        exact mid_in ⟨rfl, rfl, rfl, rfl, rfl, rfl, rfl, rfl, rfl, rfl, rfl, rfl, rfl, rfl, rfl, rfl, O21⟩
    clear O O6 O7 O8 O9 O10 O11 O12 O13 O19 O20 g9 p9 gx10 g12 p12 gx13 g19 p19 e9 e12 e19 g0 g3 g4 g6 g7 g30 g31
    rintro tm h20 ⟨hlen_, g0, g3, g4, g6, g7, g12, g13, g14, g15, g16, g17, g18, g19, g30, g31, O⟩
    simp only at g0 g3 g4 g6 g7 g12 g13 g14 g15 g16 g17 g18 g19 g30 g31 O
    obtain ⟨w, hg_, rfl⟩ := explode hlen_
    simp only [hg_] at g0 g3 g4 g6 g7 g12 g13 g14 g15 g16 g17 g18 g19 g30 g31
    clear hlen_ hg_
    simp (disch := first | assumption | omega | (simp only [wkD, oneCell, Option.isSome_some, *]; done) | (simp only [wkE, ne_eq]; omega)) only [g0, g3, g4, g6, g7, g12, g13, g14, g15, g16, g17, g18, g19, g30, g31, wk0, wk1, wk2, wk3, wk4, wk5, X_region, X_seq, X_block, X_loop, X_cond, Y_un, Y_store, Y_append, Y_makeMap, Y_buildSlice, ibin_shl, ibin_shr, ibin_and, List.set_cons_zero, List.set_cons_succ, List.getD_cons_zero, List.getD_cons_succ, List.map_cons, List.map_nil, ↓reduceIte, reduceCtorEq, oneCell, List.length_cons, List.length_nil, setAt, readN, bne_iff_ne, ne_eq, Nat.reduceAdd, Nat.reduceLeDiff, List.getElem?_cons_zero, List.getElem?_cons_succ, Nat.reduceMul, Option.isSome_some, layAt, Nat.reduceLT, Option.isNone_some, Option.isNone_none, beq_self_eq_true, Nat.reduceEqDiff, setParams, Int.reduceLT, Int.reduceLE, Int.reduceGT, Int.reduceGE, Int.reduceEq, Int.reduceNe, Option.map_some, Option.map_none, Option.isSome_none]
    refine Y_boxO O ?_
    intro b20 h21 O21 e21
    have g20 := O21.get 0 rfl
    have p20 := O21.can 0 rfl
    have O22 := O21.set 0 rfl (.cells (ic it0) 1 false)
    simp only [List.set_cons_zero] at O22
    simp (disch := first | assumption | omega | (simp only [wkD, oneCell, Option.isSome_some, *]; done) | (simp only [wkE, ne_eq]; omega)) only [g0, g3, g4, g6, g7, g12, g13, g14, g15, g16, g17, g18, g19, g30, g31, g20, p20, cz, set_ic, ic_len, ic_one, wk0, wk1, wk2, wk3, wk4, wk5, X_region, X_block, X_loop, X_cond, Y_box, Y_un, Y_store, Y_append, Y_makeMap, Y_buildSlice, ibin_shl, ibin_shr, ibin_and, List.set_cons_zero, List.set_cons_succ, List.getD_cons_zero, List.getD_cons_succ, List.map_cons, List.map_nil, ↓reduceIte, reduceCtorEq, oneCell, List.length_cons, List.length_nil, setAt, readN, bne_iff_ne, ne_eq, Nat.reduceAdd, Nat.reduceLeDiff, List.getElem?_cons_zero, List.getElem?_cons_succ, Nat.reduceMul, Option.isSome_some, layAt, Nat.reduceLT, Option.isNone_some, Option.isNone_none, beq_self_eq_true, Nat.reduceEqDiff, setParams, Int.reduceLT, Int.reduceLE, Int.reduceGT, Int.reduceGE, Int.reduceEq, Int.reduceNe, Option.map_some, Option.map_none, Option.isSome_none]
    rw [X_seq]
    refine X_cut0 (fun s => s.tmps.length = 187 ∧ s.tmps.getD 0 undefV = .slice (some ⟨bb, 0, none⟩) len cap ∧ s.tmps.getD 3 undefV = .pointer (some ⟨qa, 0, none⟩) ∧ s.tmps.getD 4 undefV = .pointer (some ⟨qb, 0, none⟩) ∧ s.tmps.getD 6 undefV = .pointer (some ⟨xb, 0, none⟩) ∧ s.tmps.getD 7 undefV = .bool true ∧ s.tmps.getD 12 undefV = .slice pw A.length cw ∧ s.tmps.getD 13 undefV = .slice pg A.length cg ∧ s.tmps.getD 14 undefV = .pointer (some ⟨b9, 0, none⟩) ∧ s.tmps.getD 15 undefV = .bool (decide (0 < A.length)) ∧ s.tmps.getD 16 undefV = .pointer (some ⟨b12, 0, none⟩) ∧ s.tmps.getD 17 undefV = .bool f ∧ s.tmps.getD 18 undefV = .int .i64 k ∧ s.tmps.getD 19 undefV = .pointer (some ⟨b19, 0, none⟩) ∧ s.tmps.getD 20 undefV = .pointer (some ⟨b20, 0, none⟩) ∧ s.tmps.getD 30 undefV = .int .i64 (len : Int) ∧ s.tmps.getD 31 undefV = .int .i64 (i : Int) ∧ Has ro s.h [Ob b20 (.cells (ic (nth A 0)) 1 false), Ob b19 (.cells (ic y) 1 false), Ob b12 (.cells (ic y) 1 false), Qr qa A, Ob b9 (.cells (ic (nth A 0)) 1 false), Sc 3 ic (.slice pg A.length cg) A, Sc 3 ic (.slice pw A.length cw) A, Qs qb B, Ob xb (.cells (ic x) 1 false)]) ?_ ?_
    · by_cases hA : 0 < A.length
      · have m1 : (0 : Int) < (A.length : Int) := by omega
        obtain ⟨b1, o1, sp1, rfl, r1, _, _⟩ := rdW (O22.vw 6 rfl) hA
        rw [Nat.zero_mul, Nat.add_zero] at r1
        have g23 := O22.get 0 rfl
        have p23 := O22.can 0 rfl
        have O23 := O22.set 0 rfl (.cells (ic (nth A 0)) 1 false)
        simp only [List.set_cons_zero] at O23
        simp (disch := first | assumption | omega | (simp only [wkD, oneCell, Option.isSome_some, *]; done) | (simp only [wkE, ne_eq]; omega)) only [g0, g3, g4, g6, g7, g12, g13, g14, g15, g16, g17, g18, g19, g30, g31, m1, r1, agg_ic, g23, p23, set_ic', iv_cells, ic_len, ic_one, wk0, wk1, wk2, wk3, wk4, wk5, X_region, X_seq, X_block, X_loop, X_cond, Y_box, Y_un, Y_store, Y_append, Y_makeMap, Y_buildSlice, ibin_shl, ibin_shr, ibin_and, List.set_cons_zero, List.set_cons_succ, List.getD_cons_zero, List.getD_cons_succ, List.map_cons, List.map_nil, ↓reduceIte, reduceCtorEq, oneCell, List.length_cons, List.length_nil, setAt, readN, bne_iff_ne, ne_eq, Nat.reduceAdd, Nat.reduceLeDiff, List.getElem?_cons_zero, List.getElem?_cons_succ, Nat.reduceMul, Option.isSome_some, layAt, Nat.reduceLT, Option.isNone_some, Option.isNone_none, beq_self_eq_true, Nat.reduceEqDiff, setParams, Int.reduceLT, Int.reduceLE, Int.reduceGT, Int.reduceGE, Int.reduceEq, Int.reduceNe, Option.map_some, Option.map_none, Option.isSome_none]
        exact mid_in ⟨rfl, rfl, rfl, rfl, rfl, rfl, rfl, rfl, rfl, rfl, rfl, rfl, rfl, rfl, rfl, rfl, rfl, O23⟩
      · have m1 : ¬ (0 : Int) < (A.length : Int) := by omega
        have hA0 : A = [] := List.eq_nil_of_length_eq_zero (by omega)
        have en : nth A 0 = it0 := by rw [hA0]; rfl
        simp (disch := first | assumption | omega | (simp only [wkD, oneCell, Option.isSome_some, *]; done) | (simp only [wkE, ne_eq]; omega)) only [g0, g3, g4, g6, g7, g12, g13, g14, g15, g16, g17, g18, g19, g30, g31, m1, wk0, wk1, wk2, wk3, wk4, wk5, X_region, X_seq, X_block, X_loop, X_cond, Y_box, Y_un, Y_store, Y_append, Y_makeMap, Y_buildSlice, ibin_shl, ibin_shr, ibin_and, List.set_cons_zero, List.set_cons_succ, List.getD_cons_zero, List.getD_cons_succ, List.map_cons, List.map_nil, ↓reduceIte, reduceCtorEq, oneCell, List.length_cons, List.length_nil, setAt, readN, bne_iff_ne, ne_eq, Nat.reduceAdd, Nat.reduceLeDiff, List.getElem?_cons_zero, List.getElem?_cons_succ, Nat.reduceMul, Option.isSome_some, layAt, Nat.reduceLT, Option.isNone_some, Option.isNone_none, beq_self_eq_true, Nat.reduceEqDiff, setParams, Int.reduceLT, Int.reduceLE, Int.reduceGT, Int.reduceGE, Int.reduceEq, Int.reduceNe, Option.map_some, Option.map_none, Option.isSome_none]
        rw [en] at O22 ⊢
        exact mid_in ⟨rfl, rfl, rfl, rfl, rfl, rfl, rfl, rfl, rfl, rfl, rfl, rfl, rfl, rfl, rfl, rfl, rfl, O22⟩
    clear O O21 O22 g20 p20 e21 g0 g3 g4 g6 g7 g12 g13 g14 g15 g16 g17 g18 g19 g30 g31
    rintro tm h24 ⟨hlen_, g0, g3, g4, g6, g7, g12, g13, g14, g15, g16, g17, g18, g19, g20, g30, g31, O⟩
    simp only at g0 g3 g4 g6 g7 g12 g13 g14 g15 g16 g17 g18 g19 g20 g30 g31 O
    obtain ⟨w, hg_, rfl⟩ := explode hlen_
    simp only [hg_] at g0 g3 g4 g6 g7 g12 g13 g14 g15 g16 g17 g18 g19 g20 g30 g31
    clear hlen_ hg_
    have q14 := O.get 4 rfl
    have q20 := O.get 0 rfl
    have q19 := O.get 1 rfl
    have q16 := O.get 2 rfl
    have qx := O.get 8 rfl
    have dl : decide ((0 : Int) < (A.length : Int)) = decide (0 < A.length) := by rw [decide_eq_decide]; omega
    have ebl : (decide (0 < A.length) == decide (0 < A.length)) = true := by simp
    have dk : decide ((0 : Int) ≤ k) = f := by
      rcases hkf with ⟨rfl, _, rfl⟩ | ⟨rfl, j, rfl, _⟩
      · rfl
      · exact decide_eq_true (by omega)
    have ebf : (f == f) = true := by simp
    simp (disch := first | assumption | omega | (simp only [wkD, oneCell, Option.isSome_some, *]; done) | (simp only [wkE, ne_eq]; omega)) only [g0, g3, g4, g6, g7, g12, g13, g14, g15, g16, g17, g18, g19, g20, g30, g31, wk0, wk1, wk2, wk3, wk4, wk5, X_region, X_seq, X_block, X_loop, X_cond, Y_box, Y_un, Y_store, Y_append, Y_makeMap, Y_buildSlice, ibin_shl, ibin_shr, ibin_and, List.set_cons_zero, List.set_cons_succ, List.getD_cons_zero, List.getD_cons_succ, List.map_cons, List.map_nil, ↓reduceIte, reduceCtorEq, oneCell, List.length_cons, List.length_nil, setAt, readN, bne_iff_ne, ne_eq, Nat.reduceAdd, Nat.reduceLeDiff, List.getElem?_cons_zero, List.getElem?_cons_succ, Nat.reduceMul, Option.isSome_some, layAt, Nat.reduceLT, Option.isNone_some, Option.isNone_none, beq_self_eq_true, Nat.reduceEqDiff, setParams, Int.reduceLT, Int.reduceLE, Int.reduceGT, Int.reduceGE, Int.reduceEq, Int.reduceNe, Option.map_some, Option.map_none, Option.isSome_none]
    refine X_drawn _ fun an => ?_
    simp (disch := first | assumption | omega | (simp only [wkD, oneCell, Option.isSome_some, *]; done) | (simp only [wkE, ne_eq]; omega)) only [g0, g3, g4, g6, g7, g12, g13, g14, g15, g16, g17, g18, g19, g20, g30, g31, wk0, wk1, wk2, wk3, wk4, wk5, X_region, X_seq, X_block, X_loop, X_cond, Y_box, Y_un, Y_store, Y_append, Y_makeMap, Y_buildSlice, ibin_shl, ibin_shr, ibin_and, List.set_cons_zero, List.set_cons_succ, List.getD_cons_zero, List.getD_cons_succ, List.map_cons, List.map_nil, ↓reduceIte, reduceCtorEq, oneCell, List.length_cons, List.length_nil, setAt, readN, bne_iff_ne, ne_eq, Nat.reduceAdd, Nat.reduceLeDiff, List.getElem?_cons_zero, List.getElem?_cons_succ, Nat.reduceMul, Option.isSome_some, layAt, Nat.reduceLT, Option.isNone_some, Option.isNone_none, beq_self_eq_true, Nat.reduceEqDiff, setParams, Int.reduceLT, Int.reduceLE, Int.reduceGT, Int.reduceGE, Int.reduceEq, Int.reduceNe, Option.map_some, Option.map_none, Option.isSome_none]
    refine DB_is (same_h (n := 998) (by omega) (by omega) (View.of O 5 rfl) (View.of O 6 rfl)) ?_
    rintro v25 h25 ⟨rfl⟩
    simp (maxSteps := 4000000) (disch := first | assumption | omega | (simp only [wkD, oneCell, Option.isSome_some, *]; done) | (simp only [wkE, ne_eq]; omega)) only [g0, g3, g4, g6, g7, g12, g13, g14, g15, g16, g17, g18, g19, g20, g30, g31, q14, q20, q19, q16, qx, ic_len, tk_ic, rd_full, agg_ic, eqW, dl, ebl, dk, ebf, wk0, wk1, wk2, wk3, wk4, wk5, X_region, X_seq, X_block, X_loop, X_cond, Y_box, Y_un, Y_store, Y_append, Y_makeMap, Y_buildSlice, ibin_shl, ibin_shr, ibin_and, List.set_cons_zero, List.set_cons_succ, List.getD_cons_zero, List.getD_cons_succ, List.map_cons, List.map_nil, ↓reduceIte, reduceCtorEq, oneCell, List.length_cons, List.length_nil, setAt, readN, bne_iff_ne, ne_eq, Nat.reduceAdd, Nat.reduceLeDiff, List.getElem?_cons_zero, List.getElem?_cons_succ, Nat.reduceMul, Option.isSome_some, layAt, Nat.reduceLT, Option.isNone_some, Option.isNone_none, beq_self_eq_true, Nat.reduceEqDiff, setParams, Int.reduceLT, Int.reduceLE, Int.reduceGT, Int.reduceGE, Int.reduceEq, Int.reduceNe, Option.map_some, Option.map_none, Option.isSome_none]
    refine DB_is (len_h (n := 998) (O.at 3 rfl)) ?_
    rintro v26 h26 ⟨rfl⟩
    simp (maxSteps := 4000000) (disch := first | assumption | omega | (simp only [wkD, oneCell, Option.isSome_some, *]; done) | (simp only [wkE, ne_eq]; omega)) only [g0, g3, g4, g6, g7, g12, g13, g14, g15, g16, g17, g18, g19, g20, g30, g31, q14, q20, q19, q16, qx, ic_len, tk_ic, rd_full, agg_ic, wk0, wk1, wk2, wk3, wk4, wk5, X_region, X_seq, X_block, X_loop, X_cond, Y_box, Y_un, Y_store, Y_append, Y_makeMap, Y_buildSlice, ibin_shl, ibin_shr, ibin_and, List.set_cons_zero, List.set_cons_succ, List.getD_cons_zero, List.getD_cons_succ, List.map_cons, List.map_nil, ↓reduceIte, reduceCtorEq, oneCell, List.length_cons, List.length_nil, setAt, readN, bne_iff_ne, ne_eq, Nat.reduceAdd, Nat.reduceLeDiff, List.getElem?_cons_zero, List.getElem?_cons_succ, Nat.reduceMul, Option.isSome_some, layAt, Nat.reduceLT, Option.isNone_some, Option.isNone_none, beq_self_eq_true, Nat.reduceEqDiff, setParams, Int.reduceLT, Int.reduceLE, Int.reduceGT, Int.reduceGE, Int.reduceEq, Int.reduceNe, Option.map_some, Option.map_none, Option.isSome_none]
    refine DF_is (ahead_h (n := 995) (by omega) (seen0_fine O.fine (by simp)) x (nth A 0)) ?_
    rintro v27 h27 ⟨rfl, e27⟩
    simp only at e27
    have e28 := ext_back e27
    have O28 := O.ext e28
    have hxN : xb < 2 * h24.next := (O.info (i := 8) rfl).2.2.2.1
    have h20N : b20 < 2 * h24.next := (O.info (i := 0) rfl).2.2.2.1
    have sx : ∀ j F, (∀ x ∈ F, xb / 2 < x.2.1 ∨ x.2.2 ≤ xb / 2) → (seen0 an j F { h27 with floor := h24.floor, may := h24.may, hid := h24.hid }).get xb = some (.cells (ic x) 1 false) := fun j F hF => (seen0_get (Or.inr hF)).trans (O28.get 8 rfl)
    have s20 : ∀ j F, (∀ x ∈ F, b20 / 2 < x.2.1 ∨ x.2.2 ≤ b20 / 2) → (seen0 an j F { h27 with floor := h24.floor, may := h24.may, hid := h24.hid }).get b20 = some (.cells (ic (nth A 0)) 1 false) := fun j F hF => (seen0_get (Or.inr hF)).trans (O28.get 0 rfl)
    have tx := fun j k => sx j _ (fr_ok (i := k) (n := h24.next) (m := h27.next) hxN)
    have t20 := fun j k => s20 j _ (fr_ok (i := k) (n := h24.next) (m := h27.next) h20N)
    simp (maxSteps := 4000000) (disch := first | assumption | omega | (simp only [wkD, oneCell, Option.isSome_some, *]; done) | (simp only [wkE, ne_eq]; omega)) only [g0, g3, g4, g6, g7, g12, g13, g14, g15, g16, g17, g18, g19, g20, g30, g31, tx, t20, ic_len, tk_ic, rd_full, agg_ic, wk0, wk1, wk2, wk3, wk4, wk5, X_region, X_seq, X_block, X_loop, X_cond, Y_box, Y_un, Y_store, Y_append, Y_makeMap, Y_buildSlice, ibin_shl, ibin_shr, ibin_and, List.set_cons_zero, List.set_cons_succ, List.getD_cons_zero, List.getD_cons_succ, List.map_cons, List.map_nil, ↓reduceIte, reduceCtorEq, oneCell, List.length_cons, List.length_nil, setAt, readN, bne_iff_ne, ne_eq, Nat.reduceAdd, Nat.reduceLeDiff, List.getElem?_cons_zero, List.getElem?_cons_succ, Nat.reduceMul, Option.isSome_some, layAt, Nat.reduceLT, Option.isNone_some, Option.isNone_none, beq_self_eq_true, Nat.reduceEqDiff, setParams, Int.reduceLT, Int.reduceLE, Int.reduceGT, Int.reduceGE, Int.reduceEq, Int.reduceNe, Option.map_some, Option.map_none, Option.isSome_none]
    refine DB_is (rahead_h (n := 998) O28.fine x (nth A 0)) ?_
    rintro v29 h29 ⟨rfl, e29⟩
    simp only at e29
    have O29 := O28.ext e29
    have eba : (decide (¬ le (nth A 0) x) == decide (¬ le (nth A 0) x)) = true := by simp
    simp (maxSteps := 4000000) (disch := first | assumption | omega | (simp only [wkD, oneCell, Option.isSome_some, *]; done) | (simp only [wkE, ne_eq]; omega)) only [g0, g3, g4, g6, g7, g12, g13, g14, g15, g16, g17, g18, g19, g20, g30, g31, eba, wk0, wk1, wk2, wk3, wk4, wk5, X_region, X_seq, X_block, X_loop, X_cond, Y_box, Y_un, Y_store, Y_append, Y_makeMap, Y_buildSlice, ibin_shl, ibin_shr, ibin_and, List.set_cons_zero, List.set_cons_succ, List.getD_cons_zero, List.getD_cons_succ, List.map_cons, List.map_nil, ↓reduceIte, reduceCtorEq, oneCell, List.length_cons, List.length_nil, setAt, readN, bne_iff_ne, ne_eq, Nat.reduceAdd, Nat.reduceLeDiff, List.getElem?_cons_zero, List.getElem?_cons_succ, Nat.reduceMul, Option.isSome_some, layAt, Nat.reduceLT, Option.isNone_some, Option.isNone_none, beq_self_eq_true, Nat.reduceEqDiff, setParams, Int.reduceLT, Int.reduceLE, Int.reduceGT, Int.reduceGE, Int.reduceEq, Int.reduceNe, Option.map_some, Option.map_none, Option.isSome_none]
    have OA : Has ro h29 [Sc 3 ic (.slice pg A.length cg) A, Qr qa A, Qs qb B] := ((((((O29.at 5 rfl).rid 1 rfl).rid 1 rfl).rid 1 rfl).rid 2 rfl).rid 2 rfl).rid 3 rfl
    clear O O28 O29 e27 e28 e29 q14 q20 q19 q16 qx tx t20 sx s20 hkf hyf dl ebl dk ebf eba
    refine L_cut1 (fun s => s.tmps.length = 187 ∧ s.tmps.getD 0 undefV = .slice (some ⟨bb, 0, none⟩) len cap ∧ s.tmps.getD 3 undefV = .pointer (some ⟨qa, 0, none⟩) ∧ s.tmps.getD 4 undefV = .pointer (some ⟨qb, 0, none⟩) ∧ s.tmps.getD 30 undefV = .int .i64 (len : Int) ∧ s.tmps.getD 31 undefV = .int .i64 (i : Int) ∧ Has ro s.h [Qr qa A, Qs qb B]) ?_ ?_
    · refine L_is (fun q s => ∃ (j : Nat) (D : List It), s.defers = [] ∧ s.tmps.length = 187 ∧ s.tmps.getD 0 undefV = .slice (some ⟨bb, 0, none⟩) len cap ∧ s.tmps.getD 3 undefV = .pointer (some ⟨qa, 0, none⟩) ∧ s.tmps.getD 4 undefV = .pointer (some ⟨qb, 0, none⟩) ∧ s.tmps.getD 13 undefV = .slice pg A.length cg ∧ s.tmps.getD 30 undefV = .int .i64 (len : Int) ∧ s.tmps.getD 31 undefV = .int .i64 (i : Int) ∧ s.tmps.getD 177 undefV = .int .i64 (A.length : Int) ∧ s.tmps.getD 178 undefV = .int .i64 (j : Int) ∧ q = A.length - j ∧ j ≤ A.length ∧ D.length = A.length ∧ Has ro s.h [Sc 3 ic (.slice pg A.length cg) D, Qr qa A, Qs qb B]) A.length ?_ (by omega) ?_
      · exact ⟨0, A, rfl, rfl, rfl, rfl, rfl, rfl, rfl, rfl, rfl, rfl, rfl, by omega, rfl, OA⟩
      clear OA g0 g3 g4 g6 g7 g12 g13 g14 g15 g16 g17 g18 g19 g20 g30 g31 hq
      rintro q_ tm df h30 ⟨j, D, hd, hlen_, g0, g3, g4, g13, g30, g31, g177, g178, hq, hj, hD, OA⟩
      simp only at hd g0 g3 g4 g13 g30 g31 g177 g178 OA
      subst hd
      obtain ⟨w, hg_, rfl⟩ := explode hlen_
      simp only [hg_] at g0 g3 g4 g13 g30 g31 g177 g178
      clear hlen_ hg_
      by_cases hlj : j < A.length
      · have hlj' : (j : Int) < (A.length : Int) := by omega
        have c1 : (0 : Int) ≤ (j : Int) := by omega
        have y2 : IntKind.i64.wrap ((j : Int) + 1) = ((j + 1 : Nat) : Int) := by rw [wrap_i64 (by omega) (by omega)]; omega
        have OB : Has ro h30 [Sc 3 ic (.slice pg D.length cg) D, Qr qa A, Qs qb B] := by rw [hD]; exact OA
        obtain ⟨b, sp, rfl, hw, _⟩ := Has.scWr OB (i := j) (by omega)
        obtain ⟨h31, w1, OC⟩ := hw it0
        rw [hD] at OC
        simp (disch := first | assumption | omega | (simp only [wkD, oneCell, Option.isSome_some, *]; done) | (simp only [wkE, ne_eq]; omega)) only [g0, g3, g4, g13, g30, g31, g177, g178, hlj', c1, Int.toNat_natCast, cz, ic_len, w1, y2, wk0, wk1, wk2, wk3, wk4, wk5, X_region, X_seq, X_block, X_loop, X_cond, Y_box, Y_un, Y_store, Y_append, Y_makeMap, Y_buildSlice, ibin_shl, ibin_shr, ibin_and, List.set_cons_zero, List.set_cons_succ, List.getD_cons_zero, List.getD_cons_succ, List.map_cons, List.map_nil, ↓reduceIte, reduceCtorEq, oneCell, List.length_cons, List.length_nil, setAt, readN, bne_iff_ne, ne_eq, Nat.reduceAdd, Nat.reduceLeDiff, List.getElem?_cons_zero, List.getElem?_cons_succ, Nat.reduceMul, Option.isSome_some, layAt, Nat.reduceLT, Option.isNone_some, Option.isNone_none, beq_self_eq_true, Nat.reduceEqDiff, setParams, Int.reduceLT, Int.reduceLE, Int.reduceGT, Int.reduceGE, Int.reduceEq, Int.reduceNe, Option.map_some, Option.map_none, Option.isSome_none]
        exact Is_in ⟨A.length - (j + 1), by omega, j + 1, _, rfl, rfl, rfl, rfl, rfl, rfl, rfl, rfl, rfl, rfl, rfl, by omega, by rw [List.length_set]; exact hD, OC⟩
      · have hlj' : ¬ (j : Int) < (A.length : Int) := by omega
        simp (disch := first | assumption | omega | (simp only [wkD, oneCell, Option.isSome_some, *]; done) | (simp only [wkE, ne_eq]; omega)) only [g0, g3, g4, g13, g30, g31, g177, g178, hlj', wk0, wk1, wk2, wk3, wk4, wk5, X_region, X_seq, X_block, X_loop, X_cond, Y_box, Y_un, Y_store, Y_append, Y_makeMap, Y_buildSlice, ibin_shl, ibin_shr, ibin_and, List.set_cons_zero, List.set_cons_succ, List.getD_cons_zero, List.getD_cons_succ, List.map_cons, List.map_nil, ↓reduceIte, reduceCtorEq, oneCell, List.length_cons, List.length_nil, setAt, readN, bne_iff_ne, ne_eq, Nat.reduceAdd, Nat.reduceLeDiff, List.getElem?_cons_zero, List.getElem?_cons_succ, Nat.reduceMul, Option.isSome_some, layAt, Nat.reduceLT, Option.isNone_some, Option.isNone_none, beq_self_eq_true, Nat.reduceEqDiff, setParams, Int.reduceLT, Int.reduceLE, Int.reduceGT, Int.reduceGE, Int.reduceEq, Int.reduceNe, Option.map_some, Option.map_none, Option.isSome_none]
        refine Is_in ?_
        simp (disch := first | assumption | omega | (simp only [wkD, oneCell, Option.isSome_some, *]; done) | (simp only [wkE, ne_eq]; omega)) only [g0, g3, g4, g13, g30, g31, g177, g178, wk0, wk1, wk2, wk3, wk4, wk5, X_region, X_seq, X_block, X_loop, X_cond, Y_box, Y_un, Y_store, Y_append, Y_makeMap, Y_buildSlice, ibin_shl, ibin_shr, ibin_and, List.set_cons_zero, List.set_cons_succ, List.getD_cons_zero, List.getD_cons_succ, List.map_cons, List.map_nil, ↓reduceIte, reduceCtorEq, oneCell, List.length_cons, List.length_nil, setAt, readN, bne_iff_ne, ne_eq, Nat.reduceAdd, Nat.reduceLeDiff, List.getElem?_cons_zero, List.getElem?_cons_succ, Nat.reduceMul, Option.isSome_some, layAt, Nat.reduceLT, Option.isNone_some, Option.isNone_none, beq_self_eq_true, Nat.reduceEqDiff, setParams, Int.reduceLT, Int.reduceLE, Int.reduceGT, Int.reduceGE, Int.reduceEq, Int.reduceNe, Option.map_some, Option.map_none, Option.isSome_none]
        exact mid_in ⟨rfl, rfl, rfl, rfl, rfl, rfl, OA.drop⟩
    clear OA g0 g3 g4 g6 g7 g12 g13 g14 g15 g16 g17 g18 g19 g20 g30 g31
    rintro tm h32 ⟨hlen_, g0, g3, g4, g30, g31, O⟩
    simp only at g0 g3 g4 g30 g31 O
    obtain ⟨w, hg_, rfl⟩ := explode hlen_
    simp only [hg_] at g0 g3 g4 g30 g31
    clear hlen_ hg_
    simp (disch := first | assumption | omega | (simp only [wkD, oneCell, Option.isSome_some, *]; done) | (simp only [wkE, ne_eq]; omega)) only [g0, g3, g4, g30, g31, y1, wk0, wk1, wk2, wk3, wk4, wk5, X_region, X_seq, X_block, X_loop, X_cond, Y_box, Y_un, Y_store, Y_append, Y_makeMap, Y_buildSlice, ibin_shl, ibin_shr, ibin_and, List.set_cons_zero, List.set_cons_succ, List.getD_cons_zero, List.getD_cons_succ, List.map_cons, List.map_nil, ↓reduceIte, reduceCtorEq, oneCell, List.length_cons, List.length_nil, setAt, readN, bne_iff_ne, ne_eq, Nat.reduceAdd, Nat.reduceLeDiff, List.getElem?_cons_zero, List.getElem?_cons_succ, Nat.reduceMul, Option.isSome_some, layAt, Nat.reduceLT, Option.isNone_some, Option.isNone_none, beq_self_eq_true, Nat.reduceEqDiff, setParams, Int.reduceLT, Int.reduceLE, Int.reduceGT, Int.reduceGE, Int.reduceEq, Int.reduceNe, Option.map_some, Option.map_none, Option.isSome_none]
    exact Is_in ⟨len - (i + 1), by omega, i + 1, A, B, rfl, rfl, rfl, rfl, rfl, rfl, rfl, rfl, by omega, RL, O⟩
  · have hlt' : ¬ (i : Int) < (len : Int) := by omega
    simp (disch := first | assumption | omega | (simp only [wkD, oneCell, Option.isSome_some, *]; done) | (simp only [wkE, ne_eq]; omega)) only [g0, g3, g4, g30, g31, hlt', wk0, wk1, wk2, wk3, wk4, wk5, X_region, X_seq, X_block, X_loop, X_cond, Y_box, Y_un, Y_store, Y_append, Y_makeMap, Y_buildSlice, ibin_shl, ibin_shr, ibin_and, List.set_cons_zero, List.set_cons_succ, List.getD_cons_zero, List.getD_cons_succ, List.map_cons, List.map_nil, ↓reduceIte, reduceCtorEq, oneCell, List.length_cons, List.length_nil, setAt, readN, bne_iff_ne, ne_eq, Nat.reduceAdd, Nat.reduceLeDiff, List.getElem?_cons_zero, List.getElem?_cons_succ, Nat.reduceMul, Option.isSome_some, layAt, Nat.reduceLT, Option.isNone_some, Option.isNone_none, beq_self_eq_true, Nat.reduceEqDiff, setParams, Int.reduceLT, Int.reduceLE, Int.reduceGT, Int.reduceGE, Int.reduceEq, Int.reduceNe, Option.map_some, Option.map_none, Option.isSome_none]
    refine Is_in ?_
    simp (disch := first | assumption | omega | (simp only [wkD, oneCell, Option.isSome_some, *]; done) | (simp only [wkE, ne_eq]; omega)) only [g0, g3, g4, g30, g31, wk0, wk1, wk2, wk3, wk4, wk5, X_region, X_seq, X_block, X_loop, X_cond, Y_box, Y_un, Y_store, Y_append, Y_makeMap, Y_buildSlice, ibin_shl, ibin_shr, ibin_and, List.set_cons_zero, List.set_cons_succ, List.getD_cons_zero, List.getD_cons_succ, List.map_cons, List.map_nil, ↓reduceIte, reduceCtorEq, oneCell, List.length_cons, List.length_nil, setAt, readN, bne_iff_ne, ne_eq, Nat.reduceAdd, Nat.reduceLeDiff, List.getElem?_cons_zero, List.getElem?_cons_succ, Nat.reduceMul, Option.isSome_some, layAt, Nat.reduceLT, Option.isNone_some, Option.isNone_none, beq_self_eq_true, Nat.reduceEqDiff, setParams, Int.reduceLT, Int.reduceLE, Int.reduceGT, Int.reduceGE, Int.reduceEq, Int.reduceNe, Option.map_some, Option.map_none, Option.isSome_none]
    exact leaf1 rfl

theorem stampQueues_all (N : Nat) (ro : Nat → Option (List Value × Nat)) (vs : List Value) (ha : ArgsAre N ro 0 [.slice [.int .i64, .int .i64, .int .u64, .int .i64]] vs) : (run env 1000 7 vs (fresh ro)).True := by
  match vs, ha with
  | [v0], ha =>
    obtain ⟨p, len, cap, cells, bb, rfl, hbb, hg, hl, hm, hf⟩ := argIs_slice ha.1
    obtain ⟨l, hl1, rfl, hok⟩ := fits_list oc _ _ op_inv _ _ hf
    exact run_true (stampQueues_run hbb hl1 hg).all
  | [], ha => exact ha.elim
  | _ :: _ :: _, ha => exact ha.2.elim
theorem own : ownKnob Try.prog.godebug = none := by kernel_rfl
theorem mixed : Try.prog.follows .mixedOrders = true := by kernel_rfl
theorem laid_out : laidOutB Try.prog = true := by kernel_rfl
theorem stampQueues_kinds : Try.f7.params.toList.mapM (pkOf Try.prog) = some [.slice [.int .i64, .int .i64, .int .u64, .int .i64]] := by kernel_rfl
theorem stampQueues_reads : Try.f7.params.toList.all (fun t => Try.prog.readableRec t && decide (t < Try.prog.types.size)) = true := by kernel_rfl
theorem stampQueues_size : Try.f7.params.size = 1 := by kernel_rfl
theorem stampQueues_lifted (os : Os) (started : os.Started) (H : Type) (enc : TypeId × Value → H) :
    ReturnsInHanded {} Try.checked os 7 .any (Rows.stampQueuesSpec.pre6 enc Try.prog Try.f7 [] false) (Rows.stampQueuesSpec.post enc Try.prog Try.f7 false true false false) :=
  open_lifted (C := Try.checked) (n := 1000) own started (by kernel_rfl) Try.func7 (ChangeSpec.witness6 false ⟨#[], #[.slice none 0 0], []⟩ 8 (by kernel_rfl) (by kernel_rfl) (by kernel_rfl) (by kernel_rfl)) mixed env_ok laid_out stampQueues_kinds stampQueues_reads (by rfl) Try.underlying4 rfl
    (fun ds hds => by rw [stampQueues_size] at hds; match ds, hds with | [_], _ => rfl) stampQueues_all
theorem stampQueues_holds : Rows.StampQueuesSaid :=
  OpenClaim.holds_of_wide 7 Try.f7 rfl rfl rfl rfl rfl rfl rfl ⟨rfl, rfl, rfl, rfl, rfl⟩ rfl rfl rfl rfl rfl (by kernel_rfl) Try.func7 (by kernel_rfl)
    (of_decide_eq_true (by kernel_rfl)) (by unfold Func.isWrapper; rw [if_neg (of_decide_eq_false (by kernel_rfl))]; exact ⟨rfl, rfl⟩)
    (fun os started H enc _ => by rw [OpenClaim.pre_of_none rfl]; exact stampQueues_lifted os started H enc)

end Go.Proofs.Ytlhocgeppgdopaa
