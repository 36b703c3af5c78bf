import Derived.Test.YtmpnldmdchchjaaFk
import Derived.Test.YtmpnldmdchchjaaAli
namespace Go.Proofs.Ytmpnldmdchchjaa
open Go Go.Ideal Go.ChangeShapes Go.RowKit
set_option maxHeartbeats 0
set_option linter.unusedSimpArgs false
set_option linter.unusedVariables false
set_option maxRecDepth 100000
noncomputable def aliveY (ro : Nat → Option (List Value × Nat)) (a b c : Int) : T (Value × Heap) := callV env 4999 (.func (.func 9) #[] #[]) [] ((fresh ro).alloc (.cells [.int .i64 a, .int .i64 b, .int .i64 c] 1 false))
noncomputable def aliveQ (x : T (Value × Heap)) : Option (Value × Nat × List (Nat × Nat) × (Nat → Option (List Value × Nat)) × Option IObj × Bool) := match x with
  | .ret p => some (p.1, p.2.floor, p.2.hid, p.2.ro, p.2.get 0, decide (0 < p.2.next))
  | _ => none
theorem alive2_eq (ro) (a b c : Int) : aliveQ (aliveY ro a b c) = some (.bool true, 0, [], ro, some (.cells [.int .i64 a, .int .i64 b, .int .i64 c] 1 false), true) := by kernel_rfl
attribute [local irreducible] callV T.All T.Is run
theorem alive2_h (ro) (a b c : Int) : (callV env 4999 (.func (.func 9) #[] #[]) [] ((fresh ro).alloc (.cells [.int .i64 a, .int .i64 b, .int .i64 c] 1 false))).Is fun p => p.1 = .bool true ∧ Has ro p.2 [Ob 0 (.cells [.int .i64 a, .int .i64 b, .int .i64 c] 1 false)] := by
  have hA := alive2_eq ro a b c
  show (aliveY ro a b c).Is _
  generalize aliveY ro a b c = x at hA ⊢
  cases x with
  | fail => cases hA
  | ask n k => cases hA
  | ret p =>
    obtain ⟨v, h⟩ := p
    simp only [aliveQ, Option.some.injEq, Prod.mk.injEq] at hA
    obtain ⟨h1, h2, h3, h4, h5, h6⟩ := hA
    have h7 := of_decide_eq_true h6
    have O : Has ro h [] := Has.zero ⟨by rw [h2]; omega, fun p hp => by rw [h3] at hp; cases hp⟩ h4
    refine Is_in ⟨h1, ⟨O.fine, O.ro, fun x => x = 0, ?_, ?_⟩⟩
    · intro y hy
      subst hy
      exact ⟨rfl, Or.inl (by show h.floor ≤ 0 / 2; rw [h2]; omega), by show 0 < 2 * h.next; omega⟩
    · exact ⟨fun x => x = 0, fun _ => False, fun y => ⟨fun e => Or.inl e, fun e => e.elim id (fun f => f.elim)⟩, fun y _ f => f, ⟨fun y => Iff.rfl, h5⟩, fun y f => f⟩
theorem env10 : env 10 = some ir10 := rfl
structure Cq where
  kd : Int
  rb : Int
  cell : Int
  gen : Int
  st : Int
  pr : Int
  cv : Value
  L : List En
def cq (a : Cq) : List Value := [.int .i64 a.kd, .int .i64 a.rb, .int .i64 a.cell, .int .u32 a.gen, .int .u64 a.st, .int .i64 a.pr, a.cv]
theorem cq_len (a : Cq) : (cq a).length = 7 := rfl
structure OkQ (ro : Nat → Option (List Value × Nat)) (a : Cq) : Prop where
  s : ∃ p c, a.cv = .slice p a.L.length c
  v : ∀ (M : List Rs) (h : Heap), Has ro h M → Vw 2 ec h a.cv a.L
  g : 0 ≤ a.gen ∧ a.gen ≤ 4294967295
  t : 0 ≤ a.st ∧ a.st ≤ 18446744073709551615
  k : -9223372036854775808 ≤ a.kd ∧ a.kd ≤ 9223372036854775807
  r : -9223372036854775808 ≤ a.rb ∧ a.rb ≤ 9223372036854775807
  c : -9223372036854775808 ≤ a.cell ∧ a.cell ≤ 9223372036854775807
  p : -9223372036854775808 ≤ a.pr ∧ a.pr ≤ 9223372036854775807
theorem flat_i64 {P : Program} {d : Nat} {ro : Nat → Option (List Value × Nat)} {v : Value} (h : DFit P ro d (.flat (.int .i64)) v) : ∃ x : Int, v = .int .i64 x ∧ -9223372036854775808 ≤ x ∧ x ≤ 9223372036854775807 := by cases d <;> exact h
theorem flat_u32 {P : Program} {d : Nat} {ro : Nat → Option (List Value × Nat)} {v : Value} (h : DFit P ro d (.flat (.int .u32)) v) : ∃ x : Int, v = .int .u32 x ∧ 0 ≤ x ∧ x ≤ 4294967295 := by cases d <;> exact h
theorem flat_u64 {P : Program} {d : Nat} {ro : Nat → Option (List Value × Nat)} {v : Value} (h : DFit P ro d (.flat (.int .u64)) v) : ∃ x : Int, v = .int .u64 x ∧ 0 ≤ x ∧ x ≤ 18446744073709551615 := by cases d <;> exact h
theorem f2_cons {p : DK → Value → Prop} {k : DK} {ks : List DK} {vs : List Value} (h : Fits2 p (k :: ks) vs) : ∃ v vs', vs = v :: vs' ∧ p k v ∧ Fits2 p ks vs' := by
  cases vs with
  | nil => exact h.elim
  | cons v vs => exact ⟨v, vs, rfl, h.1, h.2⟩
theorem f2_nil {p : DK → Value → Prop} {vs : List Value} (h : Fits2 p [] vs) : vs = [] := by
  cases vs with
  | nil => rfl
  | cons v vs => exact h.elim
theorem cl_kinds : dkOf Try.prog 8 97 = some [.flat (.int .i64), .flat (.int .u32)] := by kernel_rfl
theorem cl_size : Try.prog.cellsOf 97 = 2 := by kernel_rfl
theorem cq_kinds : dkOf Try.prog 8 41 = some [.flat (.int .i64), .flat (.int .i64), .flat (.int .i64), .flat (.int .u32), .flat (.int .u64), .flat (.int .i64), .slice 97] := by kernel_rfl
theorem cq_size : Try.prog.cellsOf 41 = 7 := by kernel_rfl
theorem cl_inv {ro : Nat → Option (List Value × Nat)} (vs : List Value) (h : Fits2 (DFit Try.prog ro 0) [.flat (.int .i64), .flat (.int .u32)] vs) : ∃ a : En, vs = ec a ∧ True := by
  obtain ⟨v, w, rfl, h1, h2⟩ := f2_cons h
  obtain ⟨v2, w2, rfl, h3, h4⟩ := f2_cons h2
  have := f2_nil h4
  subst this
  obtain ⟨x, rfl, _⟩ := flat_i64 h1
  obtain ⟨y, rfl, _⟩ := flat_u32 h3
  exact ⟨⟨x, y⟩, rfl, trivial⟩
theorem cq_inv {ro : Nat → Option (List Value × Nat)} (vs : List Value) (h : Fits2 (DFit Try.prog ro 1) [.flat (.int .i64), .flat (.int .i64), .flat (.int .i64), .flat (.int .u32), .flat (.int .u64), .flat (.int .i64), .slice 97] vs) : ∃ a : Cq, vs = cq a ∧ OkQ ro a := by
  obtain ⟨v, w, rfl, h1, h⟩ := f2_cons h
  obtain ⟨v2, w2, rfl, h2, h⟩ := f2_cons h
  obtain ⟨v3, w3, rfl, h3, h⟩ := f2_cons h
  obtain ⟨v4, w4, rfl, h4, h⟩ := f2_cons h
  obtain ⟨v5, w5, rfl, h5, h⟩ := f2_cons h
  obtain ⟨v6, w6, rfl, h6, h⟩ := f2_cons h
  obtain ⟨v7, w7, rfl, h7, h⟩ := f2_cons h
  have := f2_nil h
  subst this
  obtain ⟨x1, rfl, k1⟩ := flat_i64 h1
  obtain ⟨x2, rfl, k2⟩ := flat_i64 h2
  obtain ⟨x3, rfl, k3⟩ := flat_i64 h3
  obtain ⟨x4, rfl, k4⟩ := flat_u32 h4
  obtain ⟨x5, rfl, k5⟩ := flat_u64 h5
  obtain ⟨x6, rfl, k6⟩ := flat_i64 h6
  obtain ⟨p, L, c, rfl, _, _, _, hV⟩ := dslice h7 cl_kinds cl_size (by simp) ec (fun _ => True) cl_inv
  exact ⟨⟨x1, x2, x3, x4, x5, x6, .slice p L.length c, L⟩, rfl, ⟨⟨p, c, rfl⟩, hV, k4, k5, k1, k2, k3, k6⟩⟩
section
variable {ro : Nat → Option (List Value × Nat)} {h : Heap} {R : List Rs} {n : Nat}
theorem great_h {v : Value} {l : List Cq} (hn : 400 < n) (ok : ∀ a ∈ l, OkQ ro a) (V : Vw 7 cq h v l) : (callV env (n + 1) (.func (.func 10) #[] #[]) [v] h).Is fun p => (p = (.int .i64 1, h)) ∨ (p = (.int .i64 0, h) ∧ l.length ≤ 120 ∧ ∀ a ∈ l, a.L.length ≤ 40) := by
  obtain ⟨pv, cv, rfl, _⟩ := V.len
  refine call_is env10 ?_
  by_cases h1 : 120 < l.length
  · have h1' : (120 : Int) < (l.length : Int) := by omega
    simp (disch := first | assumption | omega | (simp only [wkD, oneCell, Option.isSome_some, *]; done) | (simp only [wkE, ne_eq]; omega)) only [ir10, List.append_nil, List.nil_append, List.cons_append, List.length_cons, List.length_nil, Nat.reduceAdd, Nat.reduceSub, List.replicate_succ, List.replicate_zero, h1', wkF, X_region, X_seq, X_block, X_loop, X_cond, Y_box, Y_un, Y_store, Y_append, Y_makeMap, Y_buildSlice, ibin_shl, ibin_shr, ibin_and, ↓reduceIte, reduceCtorEq, oneCell, setAt, readN, Nat.reduceAdd, Nat.reduceLeDiff, Nat.reduceMul, layAt, Nat.reduceLT, Nat.reduceEqDiff, setParams, Int.reduceLT, Int.reduceLE, Int.reduceGT, Int.reduceGE, Int.reduceEq, Int.reduceNe]
    exact leaf1 (Or.inl rfl)
  have h1' : ¬ (120 : Int) < (l.length : Int) := by omega
  simp (disch := first | assumption | omega | (simp only [wkD, oneCell, Option.isSome_some, *]; done) | (simp only [wkE, ne_eq]; omega)) only [ir10, List.append_nil, List.nil_append, List.cons_append, List.length_cons, List.length_nil, Nat.reduceAdd, Nat.reduceSub, List.replicate_succ, List.replicate_zero, h1', wkF, X_region, X_seq, X_block, X_loop, X_cond, Y_box, Y_un, Y_store, Y_append, Y_makeMap, Y_buildSlice, ibin_shl, ibin_shr, ibin_and, ↓reduceIte, reduceCtorEq, oneCell, setAt, readN, Nat.reduceAdd, Nat.reduceLeDiff, Nat.reduceMul, layAt, Nat.reduceLT, Nat.reduceEqDiff, setParams, Int.reduceLT, Int.reduceLE, Int.reduceGT, Int.reduceGE, Int.reduceEq, Int.reduceNe]
  refine L_is (fun q s => ∃ i : Nat, q = l.length - i ∧ i ≤ l.length ∧ s.defers = [] ∧ s.tmps.length = 20 ∧ s.tmps.getD 0 undefV = .slice pv l.length cv ∧ s.tmps.getD 3 undefV = .int .i64 (i : Int) ∧ s.h = h ∧ ∀ j a, j < i → l[j]? = some a → a.L.length ≤ 40) l.length ?_ (by omega) ?_
  · exact ⟨0, rfl, Nat.zero_le _, rfl, rfl, rfl, rfl, rfl, fun j a hj => by omega⟩
  rintro q tm df h2 ⟨i, hk, hi, hd, hlen_, g0, g3, hh, hno⟩
  simp only at hd g0 g3 hh
  subst hd hh
  obtain ⟨w, hg_, rfl⟩ := explode hlen_
  simp only [hg_] at g0 g3
  clear hlen_ hg_
  by_cases h0 : i < l.length
  · have h0' : (i : Int) < (l.length : Int) := by omega
    have hi0 : (0 : Int) ≤ (i : Int) := by omega
    obtain ⟨b, off, sp, c2, hv, k, _⟩ := V.rd cq_len (List.getElem?_eq_getElem h0)
    have e1 : pv = some ⟨b, off, sp⟩ := by injection hv
    subst e1
    obtain ⟨cp, cc, hcv⟩ := (ok _ (List.getElem_mem h0)).s
    have r := k 6 1 (by decide)
    have r2 : readN (cq l[i]) 6 1 = some [l[i].cv] := rfl
    rw [r2, hcv] at r
    have y1 : IntKind.i64.wrap ((i : Int) + 1) = ((i + 1 : Nat) : Int) := by rw [wrap_i64 (by omega) (by omega)]; omega
    by_cases h4 : 40 < l[i].L.length
    · have h4' : (40 : Int) < (l[i].L.length : Int) := by omega
      simp (disch := first | assumption | omega | (simp only [wkD, oneCell, Option.isSome_some, *]; done) | (simp only [wkE, ne_eq]; omega)) only [g0, g3, h0', hi0, r, h4', Int.toNat_natCast, wkF, X_region, X_seq, X_block, X_loop, X_cond, Y_box, Y_un, Y_store, Y_append, Y_makeMap, Y_buildSlice, ibin_shl, ibin_shr, ibin_and, ↓reduceIte, reduceCtorEq, oneCell, setAt, readN, Nat.reduceAdd, Nat.reduceLeDiff, Nat.reduceMul, layAt, Nat.reduceLT, Nat.reduceEqDiff, setParams, Int.reduceLT, Int.reduceLE, Int.reduceGT, Int.reduceGE, Int.reduceEq, Int.reduceNe]
      refine Is_in ?_
      simp (disch := first | assumption | omega | (simp only [wkD, oneCell, Option.isSome_some, *]; done) | (simp only [wkE, ne_eq]; omega)) only [wkF, X_region, X_seq, X_block, X_loop, X_cond, Y_box, Y_un, Y_store, Y_append, Y_makeMap, Y_buildSlice, ibin_shl, ibin_shr, ibin_and, ↓reduceIte, reduceCtorEq, oneCell, setAt, readN, Nat.reduceAdd, Nat.reduceLeDiff, Nat.reduceMul, layAt, Nat.reduceLT, Nat.reduceEqDiff, setParams, Int.reduceLT, Int.reduceLE, Int.reduceGT, Int.reduceGE, Int.reduceEq, Int.reduceNe]
      exact leaf1 (Or.inl rfl)
    · have h4' : ¬ (40 : Int) < (l[i].L.length : Int) := by omega
      simp (disch := first | assumption | omega | (simp only [wkD, oneCell, Option.isSome_some, *]; done) | (simp only [wkE, ne_eq]; omega)) only [g0, g3, h0', hi0, r, h4', Int.toNat_natCast, y1, wkF, X_region, X_seq, X_block, X_loop, X_cond, Y_box, Y_un, Y_store, Y_append, Y_makeMap, Y_buildSlice, ibin_shl, ibin_shr, ibin_and, ↓reduceIte, reduceCtorEq, oneCell, setAt, readN, Nat.reduceAdd, Nat.reduceLeDiff, Nat.reduceMul, layAt, Nat.reduceLT, Nat.reduceEqDiff, setParams, Int.reduceLT, Int.reduceLE, Int.reduceGT, Int.reduceGE, Int.reduceEq, Int.reduceNe]
      refine Is_in ⟨l.length - (i + 1), by omega, i + 1, rfl, h0, rfl, rfl, rfl, rfl, rfl, fun j a hj ha => ?_⟩
      by_cases e : j = i
      · subst e
        rw [List.getElem?_eq_getElem h0] at ha
        cases ha
        omega
      · exact hno j a (by omega) ha
  · have h0' : ¬ (i : Int) < (l.length : Int) := by omega
    simp (disch := first | assumption | omega | (simp only [wkD, oneCell, Option.isSome_some, *]; done) | (simp only [wkE, ne_eq]; omega)) only [g0, g3, h0', wkF, X_region, X_seq, X_block, X_loop, X_cond, Y_box, Y_un, Y_store, Y_append, Y_makeMap, Y_buildSlice, ibin_shl, ibin_shr, ibin_and, ↓reduceIte, reduceCtorEq, oneCell, setAt, readN, Nat.reduceAdd, Nat.reduceLeDiff, Nat.reduceMul, layAt, Nat.reduceLT, Nat.reduceEqDiff, setParams, Int.reduceLT, Int.reduceLE, Int.reduceGT, Int.reduceGE, Int.reduceEq, Int.reduceNe]
    refine Is_in ?_
    simp (disch := first | assumption | omega | (simp only [wkD, oneCell, Option.isSome_some, *]; done) | (simp only [wkE, ne_eq]; omega)) only [wkF, X_region, X_seq, X_block, X_loop, X_cond, Y_box, Y_un, Y_store, Y_append, Y_makeMap, Y_buildSlice, ibin_shl, ibin_shr, ibin_and, ↓reduceIte, reduceCtorEq, oneCell, setAt, readN, Nat.reduceAdd, Nat.reduceLeDiff, Nat.reduceMul, layAt, Nat.reduceLT, Nat.reduceEqDiff, setParams, Int.reduceLT, Int.reduceLE, Int.reduceGT, Int.reduceGE, Int.reduceEq, Int.reduceNe]
    refine leaf1 (Or.inr ⟨rfl, by omega, fun a ha => ?_⟩)
    obtain ⟨j, hj, rfl⟩ := List.getElem_of_mem ha
    exact hno j _ (by omega) (List.getElem?_eq_getElem hj)
end
end Go.Proofs.Ytmpnldmdchchjaa
