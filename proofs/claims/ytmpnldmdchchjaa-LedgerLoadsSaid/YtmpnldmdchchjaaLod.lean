import Derived.Test.YtmpnldmdchchjaaFk
import Derived.Test.YtmpnldmdchchjaaRd
namespace Go.Proofs.Ytmpnldmdchchjaa
open Go Go.Ideal Go.ChangeShapes Go.RowKit
set_option maxHeartbeats 0
set_option linter.unusedSimpArgs false
set_option linter.unusedVariables false
set_option maxRecDepth 100000
attribute [local irreducible] callV T.All T.Is run
theorem env18 : env 18 = some ir18 := rfl
structure Rq where
  kd : Int
  nn : Int
  dv : Value
  B : List Nat
def rq (x : Rq) : List Value := [.int .i64 x.kd, .int .i64 x.nn, x.dv]
theorem rq_len (x : Rq) : (rq x).length = 3 := rfl
structure OkR (ro : Nat → Option (List Value × Nat)) (R : List Rs) (x : Rq) : Prop where
  s : ∃ p c, x.dv = .slice p x.B.length c
  v : ∀ (M : List Rs) (h : Heap), Has ro h (M ++ R) → Vw 1 bx h x.dv x.B
  b : ∀ i, at8 x.B i < 256
def Ls.May (S : Ls) (x : Rq) : Prop := (rdE x.B).2 = true ∧ lk S.ents x.nn = none ∧ S.Is x.nn ∧ (rdE x.B).1.o < S.rob
instance (S : Ls) (x : Rq) : Decidable (S.May x) := by unfold Ls.May; infer_instance
def Ls.ld (S : Ls) (x : Rq) : Ls := { S with ents := upd1 S.ents x.nn (rdE x.B).1 }
def lds (S : Ls) : List Rq → Option Ls
  | [] => some S
  | x :: l => if x.kd = 3 then (if S.May x then lds (S.ld x) l else none) else lds S l
section
variable {ro : Nat → Option (List Value × Nat)} {h : Heap} {R : List Rs} {n : Nat}
theorem load_h {a b c : Int} {v : Value} {L : List Rq} (hn : L.length + 100 < n) (hL : L.length < 1000000) (V : ∀ (M : List Rs) (h : Heap), Has ro h (M ++ R) → Vw 3 rq h v L) (ok : ∀ x ∈ L, OkR ro R x) (O : Has ro h R) :
    (callV env (n + 9) (.func (.func 18) #[] #[]) [.int .i64 a, .int .i64 b, .int .i64 c, v] h).Is fun p =>
      (¬ Szs a b c ∧ p.1 = .tuple #[.pointer none, .int .i64 2] ∧ Has ro p.2 R) ∨ (Szs a b c ∧ lds (lz a b c) L = none ∧ p.1 = .tuple #[.pointer none, .int .i64 140] ∧ Has ro p.2 R) ∨
        (Szs a b c ∧ ∃ S lb, lds (lz a b c) L = some S ∧ p.1 = .tuple #[.pointer (some ⟨lb, 0, none⟩), .int .i64 0] ∧ Has ro p.2 (Lg lb S :: R)) := by
  obtain ⟨pv, cv, rfl, _⟩ := (V [] _ O).len
  refine call_is env18 ?_
  simp (disch := first | assumption | omega | (simp only [wkD, oneCell, Option.isSome_some, *]; done) | (simp only [wkE, ne_eq]; omega)) only [ir18, List.append_nil, List.nil_append, List.cons_append, List.length_cons, List.length_nil, Nat.reduceAdd, Nat.reduceSub, List.replicate_succ, List.replicate_zero, wkF, X_region, X_seq, X_block, X_loop, X_cond, Y_box, Y_un, Y_store, Y_append, Y_makeMap, Y_buildSlice, ibin_shl, ibin_shr, ibin_and, ↓reduceIte, reduceCtorEq, oneCell, setAt, readN, Nat.reduceAdd, Nat.reduceLeDiff, Nat.reduceMul, layAt, Nat.reduceLT, Nat.reduceEqDiff, setParams, Int.reduceLT, Int.reduceLE, Int.reduceGT, Int.reduceGE, Int.reduceEq, Int.reduceNe]
  refine Z_is (new_h (n := n + 7) a b c O) ?_
  rintro v1 h1 hv
  rcases hv with ⟨hz, rfl, O1⟩ | ⟨hz, lb, rfl, O1⟩
  · simp (disch := first | assumption | omega | (simp only [wkD, oneCell, Option.isSome_some, *]; done) | (simp only [wkE, ne_eq]; omega)) only [wkF, X_region, X_seq, X_block, X_loop, X_cond, Y_box, Y_un, Y_store, Y_append, Y_makeMap, Y_buildSlice, ibin_shl, ibin_shr, ibin_and, ↓reduceIte, reduceCtorEq, oneCell, setAt, readN, Nat.reduceAdd, Nat.reduceLeDiff, Nat.reduceMul, layAt, Nat.reduceLT, Nat.reduceEqDiff, setParams, Int.reduceLT, Int.reduceLE, Int.reduceGT, Int.reduceGE, Int.reduceEq, Int.reduceNe]
    exact leaf2 (Or.inl ⟨hz, rfl, O1⟩)
  simp only at O1
  simp (disch := first | assumption | omega | (simp only [wkD, oneCell, Option.isSome_some, *]; done) | (simp only [wkE, ne_eq]; omega)) only [wkF, X_region, X_seq, X_block, X_loop, X_cond, Y_box, Y_un, Y_store, Y_append, Y_makeMap, Y_buildSlice, ibin_shl, ibin_shr, ibin_and, ↓reduceIte, reduceCtorEq, oneCell, setAt, readN, Nat.reduceAdd, Nat.reduceLeDiff, Nat.reduceMul, layAt, Nat.reduceLT, Nat.reduceEqDiff, setParams, Int.reduceLT, Int.reduceLE, Int.reduceGT, Int.reduceGE, Int.reduceEq, Int.reduceNe]
  have Z0 : (lz a b c).rob = b := rfl
  refine L_is (fun q s => ∃ (i : Nat) (S : Ls), q = L.length - i ∧ i ≤ L.length ∧ s.defers = [] ∧ s.tmps.length = 79 ∧ s.tmps.getD 1 undefV = .int .i64 b ∧ s.tmps.getD 10 undefV = .pointer (some ⟨lb, 0, none⟩) ∧ s.tmps.getD 28 undefV = .slice pv L.length cv ∧ s.tmps.getD 29 undefV = .int .i64 (L.length : Int) ∧ s.tmps.getD 30 undefV = .int .i64 (i : Int) ∧ lds (lz a b c) L = lds S (L.drop i) ∧ S.rob = b ∧ Has ro s.h (Lg lb S :: R)) L.length ?_ (by omega) ?_
  · exact ⟨0, _, rfl, Nat.zero_le _, rfl, rfl, rfl, rfl, rfl, rfl, rfl, rfl, Z0, O1⟩
  clear O1
  rintro q tm df h2 ⟨i, S, hk, hi, hd, hlen_, g1, g10, g28, g29, g30, hf, hb, O2⟩
  simp only at hd g1 g10 g28 g29 g30 O2
  subst hd
  obtain ⟨w, hg_, rfl⟩ := explode hlen_
  simp only [hg_] at g1 g10 g28 g29 g30
  clear hlen_ hg_
  by_cases h0 : i < L.length
  · have h0' : (i : Int) < (L.length : Int) := by omega
    have hi0 : (0 : Int) ≤ (i : Int) := by omega
    have hget : L[i]? = some L[i] := List.getElem?_eq_getElem h0
    have hdr : L.drop i = L[i] :: L.drop (i + 1) := List.drop_eq_getElem_cons h0
    have okx := ok _ (List.getElem_mem h0)
    generalize L[i] = x at hget hdr okx
    rw [hdr] at hf
    obtain ⟨b1, off1, sp1, c1, hv1, _, rd1⟩ := (V [_] _ O2).rd rq_len hget
    have e1 : pv = some ⟨b1, off1, sp1⟩ := by injection hv1
    subst e1
    obtain ⟨xp, xc, hxv⟩ := okx.s
    have xone : (rq x).all oneCell = true := by unfold rq; rw [hxv]; rfl
    have xcell : cellsOf (.agg (rq x).toArray) = rq x := rfl
    have xset : setAt [Value.int .i64 0, .int .i64 0, .slice none 0 0] 0 (rq x) = rq x := rfl
    have yi : IntKind.i64.wrap ((i : Int) + 1) = ((i + 1 : Nat) : Int) := by rw [wrap_i64 (by omega) (by omega)]; omega
    simp (disch := first | assumption | omega | (simp only [wkD, oneCell, Option.isSome_some, *]; done) | (simp only [wkE, ne_eq]; omega)) only [g1, g10, g28, g29, g30, h0', hi0, Int.toNat_natCast, rd1, wkF, X_region, X_seq, X_block, X_loop, X_cond, Y_un, Y_store, Y_append, Y_makeMap, Y_buildSlice, ibin_shl, ibin_shr, ibin_and, ↓reduceIte, reduceCtorEq, oneCell, setAt, readN, Nat.reduceAdd, Nat.reduceLeDiff, Nat.reduceMul, layAt, Nat.reduceLT, Nat.reduceEqDiff, setParams, Int.reduceLT, Int.reduceLE, Int.reduceGT, Int.reduceGE, Int.reduceEq, Int.reduceNe]
    refine Y_boxO O2 ?_
    intro b13 h3 O3 _
    replace O3 : Has ro h3 (Ob b13 (.cells [.int .i64 0, .int .i64 0, .slice none 0 0] 1 false) :: Lg lb S :: R) := O3
    have m3 := O3.get 0 rfl
    have pm3 := O3.can 0 rfl
    have O4 := O3.set 0 rfl (.cells (rq x) 1 false)
    simp only [List.set_cons_zero] at O4
    have m4 := O4.get 0 rfl
    have tk3 : List.take 3 (rq x) = rq x := rfl
    have tk1 : List.take 1 (rq x) = [.int .i64 x.kd] := rfl
    have dr1 : List.drop 1 (rq x) = [.int .i64 x.nn, x.dv] := rfl
    by_cases hkd : x.kd = 3
    · have hkd' := eq_true hkd
      simp (disch := first | assumption | omega | (simp only [wkD, oneCell, Option.isSome_some, *]; done) | (simp only [wkE, ne_eq]; omega)) only [m3, pm3, xcell, xset, xone, rq_len, m4, hkd', tk3, tk1, wkF, X_region, X_seq, X_block, X_loop, X_cond, Y_un, Y_store, Y_append, Y_makeMap, Y_buildSlice, ibin_shl, ibin_shr, ibin_and, ↓reduceIte, reduceCtorEq, oneCell, setAt, readN, Nat.reduceAdd, Nat.reduceLeDiff, Nat.reduceMul, layAt, Nat.reduceLT, Nat.reduceEqDiff, setParams, Int.reduceLT, Int.reduceLE, Int.reduceGT, Int.reduceGE, Int.reduceEq, Int.reduceNe]
      have hnone : ¬ S.May x → lds (lz a b c) L = none := fun hm => hf.trans (by rw [lds, if_pos hkd, if_neg hm])
      have hc := rdx_h (n := n + 2) (kd := x.kd) (nn := x.nn) (p := xp) (B := x.B) (c := xc) (by omega) okx.b (fun M h O => by
        have := okx.v (M ++ [_, _]) h (by rw [List.append_assoc]; exact O)
        rw [hxv] at this
        exact this) O4
      have hag : Value.agg (rq x).toArray = .agg #[.int .i64 x.kd, .int .i64 x.nn, .slice xp x.B.length xc] := by unfold rq; rw [hxv]
      rw [← hag] at hc
      refine Z_is hc ?_
      rintro v5 h5 ⟨rfl, O5⟩
      simp only at O5
      clear hc m3 pm3 m4 O3 O2 rd1
      simp (disch := first | assumption | omega | (simp only [wkD, oneCell, Option.isSome_some, *]; done) | (simp only [wkE, ne_eq]; omega)) only [wkF, X_region, X_seq, X_block, X_loop, X_cond, Y_un, Y_store, Y_append, Y_makeMap, Y_buildSlice, ibin_shl, ibin_shr, ibin_and, ↓reduceIte, reduceCtorEq, oneCell, setAt, readN, Nat.reduceAdd, Nat.reduceLeDiff, Nat.reduceMul, layAt, Nat.reduceLT, Nat.reduceEqDiff, setParams, Int.reduceLT, Int.reduceLE, Int.reduceGT, Int.reduceGE, Int.reduceEq, Int.reduceNe]
      refine Y_boxO O5 ?_
      intro b14 h6 O6 _
      replace O6 : Has ro h6 (Ob b14 (.cells [.int .i64 0, .int .u32 0] 1 false) :: Ob b13 (.cells (rq x) 1 false) :: Lg lb S :: R) := O6
      have m6 := O6.get 0 rfl
      have pm6 := O6.can 0 rfl
      have O7 := O6.set 0 rfl (.cells (ec (rdE x.B).1) 1 false)
      simp only [List.set_cons_zero] at O7
      simp (disch := first | assumption | omega | (simp only [wkD, oneCell, Option.isSome_some, *]; done) | (simp only [wkE, ne_eq]; omega)) only [m6, pm6, ec_len, tk_ec, tk_ec1, dr_ec1, agg_ec, ev_cells, set_ec, ec_one, wkF, X_region, X_seq, X_block, X_loop, X_cond, Y_box, Y_un, Y_store, Y_append, Y_makeMap, Y_buildSlice, ibin_shl, ibin_shr, ibin_and, ↓reduceIte, reduceCtorEq, oneCell, setAt, readN, Nat.reduceAdd, Nat.reduceLeDiff, Nat.reduceMul, layAt, Nat.reduceLT, Nat.reduceEqDiff, setParams, Int.reduceLT, Int.reduceLE, Int.reduceGT, Int.reduceGE, Int.reduceEq, Int.reduceNe]
      clear m6 pm6 O6 O5 O4
      generalize h6.setB b14 _ = h7 at O7 ⊢
      refine X_drawn _ fun an => ?_
      obtain ⟨eb, qb, tb, O8⟩ := Has.lgOpen (O7.at 2 rfl)
      have ml := O8.get 0 rfl
      unfold lc at ml
      have mb := O7.get 1 rfl
      have m1 := O8.mpLook 1 rfl x.nn (.agg #[.int .i64 0, .int .u32 0]) true
      simp only [if_true] at m1
      have m1' : vLookup h7 none (.agg #[.int .i64 0, .int .u32 0]) true (.map (some eb)) (.int .i64 x.nn) = _ := m1
      have O9 := O7.alloc (.cells [.int .i64 0, .int .u32 0] 1 false)
      have m9 := O9.get 0 rfl
      have pm9 := O9.can 0 rfl
      generalize hlk : lk S.ents x.nn = lo at m1'
      cases lo with
      | none =>
        have O10 := O9.set 0 rfl (.cells [.int .i64 0, .int .u32 0] 1 false)
        simp only [List.set_cons_zero] at O10
        have mA := O10.get 2 rfl
        have mB := O10.get 1 rfl
        by_cases hfi : (rdE x.B).2 = true
        · simp (maxSteps := 4000000) (disch := first | assumption | omega | (simp only [wkD, oneCell, Option.isSome_some, *]; done) | (simp only [wkE, ne_eq]; omega)) only [ml, mb, rq_len, dr1, vLookup_seen, m1', m9, pm9, z_cells, z_set, Option.getD_none, hfi, mA, wkF, X_region, X_seq, X_block, X_loop, X_cond, Y_box, Y_un, Y_store, Y_append, Y_makeMap, Y_buildSlice, ibin_shl, ibin_shr, ibin_and, ↓reduceIte, reduceCtorEq, oneCell, setAt, readN, Nat.reduceAdd, Nat.reduceLeDiff, Nat.reduceMul, layAt, Nat.reduceLT, Nat.reduceEqDiff, setParams, Int.reduceLT, Int.reduceLE, Int.reduceGT, Int.reduceGE, Int.reduceEq, Int.reduceNe]
          clear ml mb m1' m9 pm9
          refine Z_is (is_h (n := n + 6) x.nn (O10.at 3 rfl)) ?_
          rintro v11 h11 ⟨rfl, rfl⟩
          by_cases hi : S.Is x.nn
          · by_cases ho : b ≤ (rdE x.B).1.o
            · simp (maxSteps := 4000000) (disch := first | assumption | omega | (simp only [wkD, oneCell, Option.isSome_some, *]; done) | (simp only [wkE, ne_eq]; omega)) only [hi, mB, ec_len, tk_ec, tk_ec1, dr_ec1, agg_ec, ev_cells, set_ec, ec_one, ho, wkF, X_region, X_seq, X_block, X_loop, X_cond, Y_box, Y_un, Y_store, Y_append, Y_makeMap, Y_buildSlice, ibin_shl, ibin_shr, ibin_and, ↓reduceIte, reduceCtorEq, oneCell, setAt, readN, Nat.reduceAdd, Nat.reduceLeDiff, Nat.reduceMul, layAt, Nat.reduceLT, Nat.reduceEqDiff, setParams, Int.reduceLT, Int.reduceLE, Int.reduceGT, Int.reduceGE, Int.reduceEq, Int.reduceNe]
              have hm : ¬ S.May x := fun m => by have := m.2.2.2; rw [hb] at this; omega
              refine Is_in ?_
              simp (disch := first | assumption | omega | (simp only [wkD, oneCell, Option.isSome_some, *]; done) | (simp only [wkE, ne_eq]; omega)) only [wkF, X_region, X_seq, X_block, X_loop, X_cond, Y_box, Y_un, Y_store, Y_append, Y_makeMap, Y_buildSlice, ibin_shl, ibin_shr, ibin_and, ↓reduceIte, reduceCtorEq, oneCell, setAt, readN, Nat.reduceAdd, Nat.reduceLeDiff, Nat.reduceMul, layAt, Nat.reduceLT, Nat.reduceEqDiff, setParams, Int.reduceLT, Int.reduceLE, Int.reduceGT, Int.reduceGE, Int.reduceEq, Int.reduceNe]
              exact leaf2 (Or.inr (Or.inl ⟨hz, hnone hm, rfl, O10.drop.drop.drop.drop⟩))
            · have hm : S.May x := ⟨hfi, hlk, hi, by rw [hb]; omega⟩
              obtain ⟨eb, qb, tb, O11⟩ := Has.lgOpen (O10.at 3 rfl)
              have ml := O11.get 0 rfl
              unfold lc at ml
              obtain ⟨h12, u12, O12⟩ := O11.mpUpd 1 rfl x.nn (rdE x.B).1
              simp only [List.set_cons_zero, List.set_cons_succ] at O12
              have u12' : vMapUpdate _ none (.map (some eb)) (.int .i64 x.nn) (ev (rdE x.B).1) = some h12 := u12
              simp (disch := first | assumption | omega | (simp only [wkD, oneCell, Option.isSome_some, *]; done) | (simp only [wkE, ne_eq]; omega)) only [hi, mB, ec_len, tk_ec, tk_ec1, dr_ec1, agg_ec, ev_cells, set_ec, ec_one, ho, wkF, X_region, X_seq, X_block, X_loop, X_cond, Y_box, Y_un, Y_store, Y_append, Y_makeMap, Y_buildSlice, ibin_shl, ibin_shr, ibin_and, ↓reduceIte, reduceCtorEq, oneCell, setAt, readN, Nat.reduceAdd, Nat.reduceLeDiff, Nat.reduceMul, layAt, Nat.reduceLT, Nat.reduceEqDiff, setParams, Int.reduceLT, Int.reduceLE, Int.reduceGT, Int.reduceGE, Int.reduceEq, Int.reduceNe]
              refine X_drawn _ fun an => ?_
              simp (maxSteps := 4000000) (disch := first | assumption | omega | (simp only [wkD, oneCell, Option.isSome_some, *]; done) | (simp only [wkE, ne_eq]; omega)) only [ml, mA, mB, ec_len, tk_ec, tk_ec1, dr_ec1, agg_ec, ev_cells, set_ec, ec_one, rq_len, dr1, D_mapUpdateB, u12', DHB_some, yi, wkF, X_region, X_seq, X_block, X_loop, X_cond, Y_box, Y_un, Y_store, Y_append, Y_makeMap, Y_buildSlice, ibin_shl, ibin_shr, ibin_and, ↓reduceIte, reduceCtorEq, oneCell, setAt, readN, Nat.reduceAdd, Nat.reduceLeDiff, Nat.reduceMul, layAt, Nat.reduceLT, Nat.reduceEqDiff, setParams, Int.reduceLT, Int.reduceLE, Int.reduceGT, Int.reduceGE, Int.reduceEq, Int.reduceNe]
              have hf2 : lds (lz a b c) L = lds (S.ld x) (L.drop (i + 1)) := hf.trans (by rw [lds, if_pos hkd, if_pos hm])
              have O13 := Has.lgClose (S := S.ld x) O12
              exact Is_in ⟨L.length - (i + 1), by omega, i + 1, S.ld x, rfl, h0, rfl, rfl, rfl, rfl, rfl, rfl, rfl, hf2, hb, ((O13.rid 3 rfl).rid 2 rfl).rid 1 rfl⟩
          · simp (maxSteps := 4000000) (disch := first | assumption | omega | (simp only [wkD, oneCell, Option.isSome_some, *]; done) | (simp only [wkE, ne_eq]; omega)) only [hi, wkF, X_region, X_seq, X_block, X_loop, X_cond, Y_box, Y_un, Y_store, Y_append, Y_makeMap, Y_buildSlice, ibin_shl, ibin_shr, ibin_and, ↓reduceIte, reduceCtorEq, oneCell, setAt, readN, Nat.reduceAdd, Nat.reduceLeDiff, Nat.reduceMul, layAt, Nat.reduceLT, Nat.reduceEqDiff, setParams, Int.reduceLT, Int.reduceLE, Int.reduceGT, Int.reduceGE, Int.reduceEq, Int.reduceNe]
            have hm : ¬ S.May x := fun m => hi m.2.2.1
            refine Is_in ?_
            simp (disch := first | assumption | omega | (simp only [wkD, oneCell, Option.isSome_some, *]; done) | (simp only [wkE, ne_eq]; omega)) only [wkF, X_region, X_seq, X_block, X_loop, X_cond, Y_box, Y_un, Y_store, Y_append, Y_makeMap, Y_buildSlice, ibin_shl, ibin_shr, ibin_and, ↓reduceIte, reduceCtorEq, oneCell, setAt, readN, Nat.reduceAdd, Nat.reduceLeDiff, Nat.reduceMul, layAt, Nat.reduceLT, Nat.reduceEqDiff, setParams, Int.reduceLT, Int.reduceLE, Int.reduceGT, Int.reduceGE, Int.reduceEq, Int.reduceNe]
            exact leaf2 (Or.inr (Or.inl ⟨hz, hnone hm, rfl, O10.drop.drop.drop.drop⟩))
        · have hfi' : (rdE x.B).2 = false := by simpa using hfi
          simp (maxSteps := 4000000) (disch := first | assumption | omega | (simp only [wkD, oneCell, Option.isSome_some, *]; done) | (simp only [wkE, ne_eq]; omega)) only [ml, mb, rq_len, dr1, vLookup_seen, m1', m9, pm9, z_cells, z_set, Option.getD_none, hfi', wkF, X_region, X_seq, X_block, X_loop, X_cond, Y_box, Y_un, Y_store, Y_append, Y_makeMap, Y_buildSlice, ibin_shl, ibin_shr, ibin_and, ↓reduceIte, reduceCtorEq, oneCell, setAt, readN, Nat.reduceAdd, Nat.reduceLeDiff, Nat.reduceMul, layAt, Nat.reduceLT, Nat.reduceEqDiff, setParams, Int.reduceLT, Int.reduceLE, Int.reduceGT, Int.reduceGE, Int.reduceEq, Int.reduceNe]
          have hm : ¬ S.May x := fun m => hfi m.1
          refine Is_in ?_
          simp (disch := first | assumption | omega | (simp only [wkD, oneCell, Option.isSome_some, *]; done) | (simp only [wkE, ne_eq]; omega)) only [wkF, X_region, X_seq, X_block, X_loop, X_cond, Y_box, Y_un, Y_store, Y_append, Y_makeMap, Y_buildSlice, ibin_shl, ibin_shr, ibin_and, ↓reduceIte, reduceCtorEq, oneCell, setAt, readN, Nat.reduceAdd, Nat.reduceLeDiff, Nat.reduceMul, layAt, Nat.reduceLT, Nat.reduceEqDiff, setParams, Int.reduceLT, Int.reduceLE, Int.reduceGT, Int.reduceGE, Int.reduceEq, Int.reduceNe]
          exact leaf2 (Or.inr (Or.inl ⟨hz, hnone hm, rfl, O10.drop.drop.drop.drop⟩))
      | some e =>
        simp (maxSteps := 4000000) (disch := first | assumption | omega | (simp only [wkD, oneCell, Option.isSome_some, *]; done) | (simp only [wkE, ne_eq]; omega)) only [ml, mb, rq_len, dr1, vLookup_seen, m1', m9, pm9, Option.getD_some, ec_len, tk_ec, tk_ec1, dr_ec1, agg_ec, ev_cells, set_ec, ec_one, wkF, X_region, X_seq, X_block, X_loop, X_cond, Y_box, Y_un, Y_store, Y_append, Y_makeMap, Y_buildSlice, ibin_shl, ibin_shr, ibin_and, ↓reduceIte, reduceCtorEq, oneCell, setAt, readN, Nat.reduceAdd, Nat.reduceLeDiff, Nat.reduceMul, layAt, Nat.reduceLT, Nat.reduceEqDiff, setParams, Int.reduceLT, Int.reduceLE, Int.reduceGT, Int.reduceGE, Int.reduceEq, Int.reduceNe]
        have hm : ¬ S.May x := fun m => by have := m.2.1; rw [hlk] at this; cases this
        refine Is_ite (fun _ => ?_) (fun _ => ?_)
        · refine Is_in ?_
          simp (disch := first | assumption | omega | (simp only [wkD, oneCell, Option.isSome_some, *]; done) | (simp only [wkE, ne_eq]; omega)) only [wkF, X_region, X_seq, X_block, X_loop, X_cond, Y_box, Y_un, Y_store, Y_append, Y_makeMap, Y_buildSlice, ibin_shl, ibin_shr, ibin_and, ↓reduceIte, reduceCtorEq, oneCell, setAt, readN, Nat.reduceAdd, Nat.reduceLeDiff, Nat.reduceMul, layAt, Nat.reduceLT, Nat.reduceEqDiff, setParams, Int.reduceLT, Int.reduceLE, Int.reduceGT, Int.reduceGE, Int.reduceEq, Int.reduceNe]
          exact leaf2 (Or.inr (Or.inl ⟨hz, hnone hm, rfl, (O9.set 0 rfl (.cells (ec e) 1 false)).drop.drop.drop.drop⟩))
        · refine Is_in ?_
          simp (disch := first | assumption | omega | (simp only [wkD, oneCell, Option.isSome_some, *]; done) | (simp only [wkE, ne_eq]; omega)) only [wkF, X_region, X_seq, X_block, X_loop, X_cond, Y_box, Y_un, Y_store, Y_append, Y_makeMap, Y_buildSlice, ibin_shl, ibin_shr, ibin_and, ↓reduceIte, reduceCtorEq, oneCell, setAt, readN, Nat.reduceAdd, Nat.reduceLeDiff, Nat.reduceMul, layAt, Nat.reduceLT, Nat.reduceEqDiff, setParams, Int.reduceLT, Int.reduceLE, Int.reduceGT, Int.reduceGE, Int.reduceEq, Int.reduceNe]
          exact leaf2 (Or.inr (Or.inl ⟨hz, hnone hm, rfl, (O9.set 0 rfl (.cells (ec e) 1 false)).drop.drop.drop.drop⟩))
    · simp (disch := first | assumption | omega | (simp only [wkD, oneCell, Option.isSome_some, *]; done) | (simp only [wkE, ne_eq]; omega)) only [m3, pm3, xcell, xset, xone, rq_len, m4, hkd, tk3, tk1, yi, wkF, X_region, X_seq, X_block, X_loop, X_cond, Y_un, Y_store, Y_append, Y_makeMap, Y_buildSlice, ibin_shl, ibin_shr, ibin_and, ↓reduceIte, reduceCtorEq, oneCell, setAt, readN, Nat.reduceAdd, Nat.reduceLeDiff, Nat.reduceMul, layAt, Nat.reduceLT, Nat.reduceEqDiff, setParams, Int.reduceLT, Int.reduceLE, Int.reduceGT, Int.reduceGE, Int.reduceEq, Int.reduceNe]
      have hf2 : lds (lz a b c) L = lds S (L.drop (i + 1)) := hf.trans (by rw [lds, if_neg hkd])
      exact Is_in ⟨L.length - (i + 1), by omega, i + 1, S, rfl, h0, rfl, rfl, rfl, rfl, rfl, rfl, rfl, hf2, hb, O4.drop⟩
  · have h0' : ¬ (i : Int) < (L.length : Int) := by omega
    simp (disch := first | assumption | omega | (simp only [wkD, oneCell, Option.isSome_some, *]; done) | (simp only [wkE, ne_eq]; omega)) only [g1, g10, g28, g29, g30, h0', wkF, X_region, X_seq, X_block, X_loop, X_cond, Y_box, Y_un, Y_store, Y_append, Y_makeMap, Y_buildSlice, ibin_shl, ibin_shr, ibin_and, ↓reduceIte, reduceCtorEq, oneCell, setAt, readN, Nat.reduceAdd, Nat.reduceLeDiff, Nat.reduceMul, layAt, Nat.reduceLT, Nat.reduceEqDiff, setParams, Int.reduceLT, Int.reduceLE, Int.reduceGT, Int.reduceGE, Int.reduceEq, Int.reduceNe]
    refine Is_in ?_
    simp (disch := first | assumption | omega | (simp only [wkD, oneCell, Option.isSome_some, *]; done) | (simp only [wkE, ne_eq]; omega)) only [g1, g10, g28, g29, g30, wkF, X_region, X_seq, X_block, X_loop, X_cond, Y_box, Y_un, Y_store, Y_append, Y_makeMap, Y_buildSlice, ibin_shl, ibin_shr, ibin_and, ↓reduceIte, reduceCtorEq, oneCell, setAt, readN, Nat.reduceAdd, Nat.reduceLeDiff, Nat.reduceMul, layAt, Nat.reduceLT, Nat.reduceEqDiff, setParams, Int.reduceLT, Int.reduceLE, Int.reduceGT, Int.reduceGE, Int.reduceEq, Int.reduceNe]
    rw [List.drop_eq_nil_of_le (by omega)] at hf
    exact leaf2 (Or.inr (Or.inr ⟨hz, S, lb, hf, rfl, O2⟩))
end
end Go.Proofs.Ytmpnldmdchchjaa
