import Derived.Test.YtmpnldmdchchjaaSort
namespace Go.Ideal
open Go
section
variable {call : Caller} {fuel : Nat} {ar : Option Nat} {tm : List Value} {df : List Nat} {h : Heap} {K : List Fr} {r : List IOper} {d : Option Nat} {anc : List Nat} {bar : Bool}
theorem round_is2 {l : Nat} {args : List Value} {lp : ILoop} {Q : Value × Heap → Prop} (hg : h.get l = some (.loop lp)) (hlen : args.length = lp.params.length)
    (hx : (X call fuel (some l) lp.assign (setParams lp.tmps lp.params args) [] h []).Is fun p => p.1 = .normal ∧ ∃ lp1, p.2.h.get l = some (.loop lp1) ∧ lp1.state = .ready ∧ canPut p.2.h l = true ∧
      (X call fuel (some l) lp.body p.2.tmps p.2.defers (p.2.h.setB l (.loop { lp1 with state := .busy })) []).Is fun q => ∃ lp3, q.2.h.get l = some (.loop lp3) ∧ canPut q.2.h l = true ∧ Q (.bool (onOf q.1), q.2.h.setB l (.loop { lp3 with state := if onOf q.1 then .ready else .done, pending := q.1 }))) :
    (round call fuel l args h).Is Q := by
  unfold round
  simp only [hg, hlen, if_true]
  rw [exec_X]
  refine T.Is.bind hx fun p hp => ?_
  obtain ⟨e, s⟩ := p
  obtain ⟨h1, lp1, h2, hst, hcan, h3⟩ := hp
  simp only at h1 h2 h3 hcan
  subst h1
  simp only [h2, hst, if_true, put_eq _ h2, hcan]
  have : exec call fuel (some l) lp.body { s with h := s.h.setB l (.loop { lp1 with state := .busy }) } = X call fuel (some l) lp.body s.tmps s.defers (s.h.setB l (.loop { lp1 with state := .busy })) [] := exec_X _
  rw [this]
  refine T.Is.bind h3 fun q hq => ?_
  obtain ⟨e, s3⟩ := q
  obtain ⟨lp3, q1, q2, q3⟩ := hq
  simp only at q1 q2 q3
  simp only [q1, put_eq _ q1, q2, if_true]
  cases e <;> exact q3
end
end Go.Ideal
namespace Go.Proofs.Ytmpnldmdchchjaa
open Go Go.Ideal Go.ChangeShapes Go.RowKit
set_option maxHeartbeats 0
set_option linter.unusedSimpArgs false
set_option linter.unusedVariables false
set_option maxRecDepth 100000
attribute [local irreducible] callV T.All T.Is run
theorem env67 : env 67 = some ir67 := rfl
theorem env69 : env 69 = some ir69 := rfl
theorem env73 : env 73 = some ir73 := rfl
structure QAt (h : Heap) (qb : Nat) (v : Value) (sb : Option Nat) (l : List It) : Prop where
  at_ : h.get qb = some (.cells [v] 1 false)
  sl : Sl 3 ic h v sb l
  even : qb % 2 = 0
  fl : h.floor ≤ qb / 2 ∨ qb / 2 ∈ h.may
  lt : qb < 2 * h.next
  ne : some qb ≠ sb
def qS (qb : Nat) (sb : Option Nat) (x : Nat) : Prop := x = qb ∨ some x = sb
theorem QAt.chg {S : Nat → Prop} {h h' : Heap} {qb : Nat} {v : Value} {sb : Option Nat} {l : List It} (p : QAt h qb v sb l) (hc : Chg S h h') (h1 : ¬ S qb) (h2 : ∀ b, some b = sb → ¬ S b) : QAt h' qb v sb l :=
  ⟨(hc.old qb (Or.inr p.lt) h1).trans p.at_, p.sl.chg hc h2, p.even, by rw [hc.floor, hc.may]; exact p.fl, Nat.lt_of_lt_of_le p.lt (by have := hc.next; omega), p.ne⟩
theorem QAt.ext {h h' : Heap} {qb : Nat} {v : Value} {sb : Option Nat} {l : List It} (p : QAt h qb v sb l) (e : Ext h h') : QAt h' qb v sb l := p.chg (e.chg fun _ => False) id (fun _ _ => id)
def IsPlace (l : List It) (r k : Int) : Prop := (k = -1 ∧ ∀ j, j < l.length → (nth l j).r ≠ r) ∨ ∃ i : Nat, k = (i : Int) ∧ i < l.length ∧ (nth l i).r = r ∧ ∀ j, j < i → (nth l j).r ≠ r
def pAsg : ICode :=
   (.seq (.region [
     ⟨(some 6), .move (.tmp 10), none, [], true⟩])
   (.region [
     ⟨(some 7), .box (.const (.agg #[(.int .i64 0), (.int .u64 0), (.int .i64 0)])), none, [], true⟩,
     ⟨none, .store 3 (.tmp 7) (.tmp 11), none, [], true⟩]))
def pBody : ICode :=
   (.block 1 (.seq (.region [
     ⟨(some 12), .fieldAddr 0 (.tmp 7), none, [], true⟩,
     ⟨(some 13), .load none (.tmp 12), none, [], true⟩,
     ⟨(some 14), .load none (.tmp 3), none, [], true⟩,
     ⟨(some 15), .bin .eql (.tmp 13) (.tmp 14), none, [], true⟩])
   (.cond (.tmp 15)
    (.seq (.region [
      ⟨(some 16), .move (.tmp 6), none, [], true⟩,
      ⟨none, .store 1 (.tmp 5) (.tmp 16), none, [], true⟩])
    (.exit 0))
    .skip)))
def pLoop (D : Nat) (tm : List Value) : ILoop := { state := .ready, pending := .normal, tmps := tm, params := [10, 11], assign := pAsg, body := pBody, defers := D }
theorem yieldP_ok {n : Nat} {h : Heap} {D C E l : Nat} {r : Int} {i : Nat} {x : It} {tl : List Value} (htl : tl.length = 18) (ht3 : tl.getD 3 undefV = .pointer (some ⟨E, 0, none⟩)) (ht5 : tl.getD 5 undefV = .pointer (some ⟨C, 0, none⟩)) (hC : h.get C = some (.cells [.int .i64 (-1)] 1 false)) (hE : h.get E = some (.cells [.int .i64 r] 1 false)) (hl : h.get l = some (.loop (pLoop D tl)))
    (eC : C % 2 = 0) (el : l % 2 = 0) (nCl : C ≠ l) (nEl : E ≠ l) (lC : C < 2 * h.next) (ll : l < 2 * h.next) (lE : E < 2 * h.next) (hf : h.Fine) (hfl : h.floor ≤ C / 2) (hfl2 : h.floor ≤ l / 2) :
    (callV env (n + 1) (.func (.yield l) #[] #[]) [.int .i64 (i : Int), iv x] h).Is fun p => ((x.r = r → p.1 = .bool false ∧ p.2.get l = some (.loop { pLoop D tl with state := .done, pending := .exit 0 }) ∧ p.2.get C = some (.cells [.int .i64 (i : Int)] 1 false)) ∧ (x.r ≠ r → p.1 = .bool true ∧ p.2.get l = some (.loop (pLoop D tl)) ∧ p.2.get C = some (.cells [.int .i64 (-1)] 1 false))) ∧ Chg (fun y => y = C ∨ y = l) h p.2 := by
  rw [callV_yield]
  obtain ⟨g, hg_, rfl⟩ := explode htl
  rw [hg_] at ht5 ht3
  clear htl hg_
  refine round_is2 hl rfl ?_
  have hf1 := hf.1
  have cn : canPut h (2 * h.next) = true := canPut_new _ hf1
  unfold iv
  simp (disch := first | assumption | omega | (simp only [wkD, oneCell, Option.isSome_some, *]; done) | (simp only [wkE, ne_eq]; omega)) only [pLoop, pAsg, List.nil_append, ht3, ht5, cn, wk0, wk1, wk2, wk3, wk4, wk5, X_region, X_seq, X_block, X_loop, X_cond, Y_box, Y_un, Y_store, Y_append, Y_makeMap, Y_buildSlice, ibin_shl, ibin_shr, ibin_and, List.set_cons_zero, List.set_cons_succ, List.getD_cons_zero, List.getD_cons_succ, List.map_cons, List.map_nil, ↓reduceIte, reduceCtorEq, oneCell, List.length_cons, List.length_nil, setAt, readN, bne_iff_ne, ne_eq, Nat.reduceAdd, Nat.reduceLeDiff, List.getElem?_cons_zero, List.getElem?_cons_succ, Nat.reduceMul, Option.isSome_some, layAt, Nat.reduceLT, Option.isNone_some, Option.isNone_none, beq_self_eq_true, Nat.reduceEqDiff, setParams, Int.reduceLT, Int.reduceLE, Int.reduceGT, Int.reduceGE, Int.reduceEq, Int.reduceNe, Option.map_some, Option.map_none, Option.isSome_none]
  have e1 : Ext h ((h.alloc (.cells [.int .i64 0, .int .u64 0, .int .i64 0] 1 false)).setB (2 * h.next) (.cells [.int .i64 x.r, .int .u64 x.s, .int .i64 x.p] 1 false)) := ((Ext.refl h).alloc _).setB _ _ (by omega) (by omega)
  have g1 : ((h.alloc (.cells [.int .i64 0, .int .u64 0, .int .i64 0] 1 false)).setB (2 * h.next) (.cells [.int .i64 x.r, .int .u64 x.s, .int .i64 x.p] 1 false)).get (2 * h.next) = some (.cells (ic x) 1 false) := get_setB_same (by omega) (by rw [get_alloc_new hf]; rfl)
  generalize ((h.alloc (.cells [.int .i64 0, .int .u64 0, .int .i64 0] 1 false)).setB (2 * h.next) (.cells [.int .i64 x.r, .int .u64 x.s, .int .i64 x.p] 1 false)) = k at e1 g1 ⊢
  have hl1 := (e1.old l (Or.inr ll)).trans hl
  have cl : canPut k l = true := canPut_even el (by rw [e1.floor]; exact hfl2)
  refine Is_in ⟨rfl, _, hl1, rfl, cl, ?_⟩
  have c2 : Chg (fun y => y = C ∨ y = l) h (k.setB l (.loop { pLoop D (expand 18 0 g) with state := .busy })) := (e1.chg _).setB _ _ el (fun _ => Or.inr rfl)
  have l2 : (k.setB l (.loop { pLoop D (expand 18 0 g) with state := .busy })).get l = some (.loop { pLoop D (expand 18 0 g) with state := .busy }) := get_setB_same el (by rw [hl1]; rfl)
  have C2 : (k.setB l (.loop { pLoop D (expand 18 0 g) with state := .busy })).get C = some (.cells [.int .i64 (-1)] 1 false) := (get_setB_other el nCl).trans ((e1.old C (Or.inr lC)).trans hC)
  have E2 : (k.setB l (.loop { pLoop D (expand 18 0 g) with state := .busy })).get E = some (.cells [.int .i64 r] 1 false) := (get_setB_other el nEl).trans ((e1.old E (Or.inr lE)).trans hE)
  have W2 : (k.setB l (.loop { pLoop D (expand 18 0 g) with state := .busy })).get (2 * h.next) = some (.cells (ic x) 1 false) := (get_setB_other el (by omega)).trans g1
  have p2 : canPut (k.setB l (.loop { pLoop D (expand 18 0 g) with state := .busy })) C = true := canPut_even eC (by show k.floor ≤ _; rw [e1.floor]; exact hfl)
  have q2 : canPut (k.setB l (.loop { pLoop D (expand 18 0 g) with state := .busy })) l = true := cl
  generalize k.setB l (.loop { pLoop D (expand 18 0 g) with state := .busy }) = k2 at c2 l2 C2 E2 W2 p2 q2 ⊢
  unfold ic at W2
  by_cases hx : x.r = r
  · have d1 : decide (x.r = r) = true := decide_eq_true hx
    simp (disch := first | assumption | omega | (simp only [wkD, oneCell, Option.isSome_some, *]; done) | (simp only [wkE, ne_eq]; omega)) only [pBody, E2, W2, C2, p2, d1, wk0, wk1, wk2, wk3, wk4, wk5, X_region, X_seq, X_block, X_loop, X_cond, Y_box, Y_un, Y_store, Y_append, Y_makeMap, Y_buildSlice, ibin_shl, ibin_shr, ibin_and, List.set_cons_zero, List.set_cons_succ, List.getD_cons_zero, List.getD_cons_succ, List.map_cons, List.map_nil, ↓reduceIte, reduceCtorEq, oneCell, List.length_cons, List.length_nil, setAt, readN, bne_iff_ne, ne_eq, Nat.reduceAdd, Nat.reduceLeDiff, List.getElem?_cons_zero, List.getElem?_cons_succ, Nat.reduceMul, Option.isSome_some, layAt, Nat.reduceLT, Option.isNone_some, Option.isNone_none, beq_self_eq_true, Nat.reduceEqDiff, setParams, Int.reduceLT, Int.reduceLE, Int.reduceGT, Int.reduceGE, Int.reduceEq, Int.reduceNe, Option.map_some, Option.map_none, Option.isSome_none]
    refine Is_in ⟨_, (get_setB_other eC (Ne.symm nCl)).trans l2, q2, ⟨fun _ => ⟨rfl, ?_, get_setB_same eC (by rw [C2]; rfl)⟩, fun e => absurd hx e⟩, (c2.setB _ _ eC (fun _ => Or.inl rfl)).setB _ _ el (fun _ => Or.inr rfl)⟩
    refine (get_setB_same el (by rw [get_setB_other eC (Ne.symm nCl), l2]; rfl)).trans ?_
    simp [onOf, pLoop, pAsg, pBody, expand_succ, expand_zero, ht3, ht5]
  · have d1 : decide (x.r = r) = false := decide_eq_false hx
    simp (disch := first | assumption | omega | (simp only [wkD, oneCell, Option.isSome_some, *]; done) | (simp only [wkE, ne_eq]; omega)) only [pBody, E2, W2, C2, d1, wk0, wk1, wk2, wk3, wk4, wk5, X_region, X_seq, X_block, X_loop, X_cond, Y_box, Y_un, Y_store, Y_append, Y_makeMap, Y_buildSlice, ibin_shl, ibin_shr, ibin_and, List.set_cons_zero, List.set_cons_succ, List.getD_cons_zero, List.getD_cons_succ, List.map_cons, List.map_nil, ↓reduceIte, reduceCtorEq, oneCell, List.length_cons, List.length_nil, setAt, readN, bne_iff_ne, ne_eq, Nat.reduceAdd, Nat.reduceLeDiff, List.getElem?_cons_zero, List.getElem?_cons_succ, Nat.reduceMul, Option.isSome_some, layAt, Nat.reduceLT, Option.isNone_some, Option.isNone_none, beq_self_eq_true, Nat.reduceEqDiff, setParams, Int.reduceLT, Int.reduceLE, Int.reduceGT, Int.reduceGE, Int.reduceEq, Int.reduceNe, Option.map_some, Option.map_none, Option.isSome_none]
    refine Is_in ⟨_, l2, q2, ⟨fun e => absurd e hx, fun _ => ⟨rfl, ?_, C2⟩⟩, c2.setB _ _ el (fun _ => Or.inr rfl)⟩
    refine (get_setB_same el (by rw [l2]; rfl)).trans ?_
    simp [onOf, pLoop, pAsg, pBody, expand_succ, expand_zero, ht3, ht5]
def Found (l : List It) (r : Int) (h : Heap) (b C : Nat) (L : ILoop) (k : Int) : Prop := IsPlace l r k ∧ h.get C = some (.cells [.int .i64 k] 1 false) ∧ (∃ st, st ≠ .busy ∧ h.get b = some (.loop { L with state := st, pending := if k = -1 then .normal else .exit 0 }))
theorem iterP_ok {n : Nat} {h : Heap} {D C E E1 b qb : Nat} {r : Int} {v : Value} {sb : Option Nat} {l : List It} {tl : List Value} (hn : l.length + 20 < n) (hl8 : l.length < 1000000) (htl : tl.length = 18) (ht3 : tl.getD 3 undefV = .pointer (some ⟨E, 0, none⟩)) (ht5 : tl.getD 5 undefV = .pointer (some ⟨C, 0, none⟩)) (hC : h.get C = some (.cells [.int .i64 (-1)] 1 false)) (hE : h.get E = some (.cells [.int .i64 r] 1 false)) (hE1 : h.get E1 = some (.cells [.pointer (some ⟨qb, 0, none⟩)] 1 false)) (hl : h.get b = some (.loop (pLoop D tl)))
    (Q : QAt h qb v sb l) (eC : C % 2 = 0) (el : b % 2 = 0) (nCl : C ≠ b) (nEl : E ≠ b) (nEC : E ≠ C) (nE1 : E1 ≠ C ∧ E1 ≠ b) (nq : qb ≠ C ∧ qb ≠ b) (ns : some C ≠ sb ∧ some b ≠ sb) (lC : C < 2 * h.next) (ll : b < 2 * h.next) (lE : E < 2 * h.next) (lE1 : E1 < 2 * h.next) (hf : h.Fine) (hfl : h.floor ≤ C / 2) (hfl2 : h.floor ≤ b / 2) :
    (callV env (n + 2) (.func (.func 73) #[] #[.pointer (some ⟨E1, 0, none⟩)]) [.func (.yield b) #[] #[]] h).Is fun p => (∃ k, Found l r p.2 b C (pLoop D tl) k) ∧ Chg (fun y => y = C ∨ y = b) h p.2 := by
  refine call_is env73 ?_
  have r1 := Q.at_
  obtain ⟨pv, cv, rfl, _, hblk⟩ := Q.sl.val
  simp (disch := first | assumption | omega | (simp only [wkD, oneCell, Option.isSome_some, *]; done) | (simp only [wkE, ne_eq]; omega)) only [ir73, List.append_nil, List.nil_append, List.cons_append, List.length_cons, List.length_nil, Nat.reduceAdd, Nat.reduceSub, List.replicate_succ, List.replicate_zero, hE1, r1, wk0, wk1, wk2, wk3, wk4, wk5, X_region, X_seq, X_block, X_loop, X_cond, Y_box, Y_un, Y_store, Y_append, Y_makeMap, Y_buildSlice, ibin_shl, ibin_shr, ibin_and, List.set_cons_zero, List.set_cons_succ, List.getD_cons_zero, List.getD_cons_succ, List.map_cons, List.map_nil, ↓reduceIte, reduceCtorEq, oneCell, List.length_cons, List.length_nil, setAt, readN, bne_iff_ne, ne_eq, Nat.reduceAdd, Nat.reduceLeDiff, List.getElem?_cons_zero, List.getElem?_cons_succ, Nat.reduceMul, Option.isSome_some, layAt, Nat.reduceLT, Option.isNone_some, Option.isNone_none, beq_self_eq_true, Nat.reduceEqDiff, setParams, Int.reduceLT, Int.reduceLE, Int.reduceGT, Int.reduceGE, Int.reduceEq, Int.reduceNe, Option.map_some, Option.map_none, Option.isSome_none]
  refine L_is (fun q s => ∃ (i : Nat), s.defers = [] ∧ s.tmps.length = 23 ∧ s.tmps.getD 0 undefV = .func (.yield b) #[] #[] ∧ s.tmps.getD 1 undefV = .pointer (some ⟨E1, 0, none⟩) ∧ s.tmps.getD 10 undefV = .slice pv l.length cv ∧ s.tmps.getD 11 undefV = .int .i64 (l.length : Int) ∧ s.tmps.getD 12 undefV = .int .i64 (i : Int) ∧ q = l.length - i ∧ i ≤ l.length ∧ (∀ j, j < i → (nth l j).r ≠ r) ∧ s.h.get C = some (.cells [.int .i64 (-1)] 1 false) ∧ s.h.get b = some (.loop (pLoop D tl)) ∧ Chg (fun y => y = C ∨ y = b) h s.h) l.length ?_ (by omega) ?_
  · exact ⟨0, rfl, rfl, rfl, rfl, rfl, rfl, rfl, rfl, by omega, fun j hj => by omega, hC, hl, Chg.refl _ _⟩
  rintro q tm df h2 ⟨i, hd, hlen_, g0, g1, g10, g11, g12, hq, hi, hno, q1, q2, q3⟩
  simp only at hd q1 q2 q3 g0 g1 g10 g11 g12
  subst hd
  obtain ⟨w, hg_, rfl⟩ := explode hlen_
  simp only [hg_] at g0 g1 g10 g11 g12
  clear hlen_ hg_
  by_cases hik : i < l.length
  · have hik' : (i : Int) < (l.length : Int) := by omega
    have c0 : (0 : Int) ≤ (i : Int) := by omega
    have hw1 : IntKind.i64.wrap ((i : Int) + 1) = ((i + 1 : Nat) : Int) := by rw [wrap_i64 (by omega) (by omega)]; omega
    obtain ⟨sblk, rfl, rfl⟩ := hblk (by omega)
    have Q2 : QAt h2 qb _ _ l := Q.chg q3 (fun e => e.elim nq.1 nq.2) (fun b' hb' e => e.elim (fun e => ns.1 (by rw [← e]; exact hb')) (fun e => ns.2 (by rw [← e]; exact hb')))
    obtain ⟨bb, cc, rest, hv, hs, _, _, _, _, _, hgb⟩ := Q2.sl.block (by omega)
    cases hv
    have rI := rd_all ic_len (nth_get hik) hgb
    have f2 := q3.fine hf
    have cn : canPut h2 (2 * h2.next) = true := canPut_new _ f2.1
    unfold ic at rI
    simp (disch := first | assumption | omega | (simp only [wkD, oneCell, Option.isSome_some, *]; done) | (simp only [wkE, ne_eq]; omega)) only [g0, g1, g10, g11, g12, hik', c0, rI, cn, Int.toNat_natCast, wk0, wk1, wk2, wk3, wk4, wk5, X_region, X_seq, X_block, X_loop, X_cond, Y_box, Y_un, Y_store, Y_append, Y_makeMap, Y_buildSlice, ibin_shl, ibin_shr, ibin_and, List.set_cons_zero, List.set_cons_succ, List.getD_cons_zero, List.getD_cons_succ, List.map_cons, List.map_nil, ↓reduceIte, reduceCtorEq, oneCell, List.length_cons, List.length_nil, setAt, readN, bne_iff_ne, ne_eq, Nat.reduceAdd, Nat.reduceLeDiff, List.getElem?_cons_zero, List.getElem?_cons_succ, Nat.reduceMul, Option.isSome_some, layAt, Nat.reduceLT, Option.isNone_some, Option.isNone_none, beq_self_eq_true, Nat.reduceEqDiff, setParams, Int.reduceLT, Int.reduceLE, Int.reduceGT, Int.reduceGE, Int.reduceEq, Int.reduceNe, Option.map_some, Option.map_none, Option.isSome_none]
    have e1 : Ext h2 ((h2.alloc (.cells [.int .i64 0, .int .u64 0, .int .i64 0] 1 false)).setB (2 * h2.next) (.cells [.int .i64 (nth l i).r, .int .u64 (nth l i).s, .int .i64 (nth l i).p] 1 false)) := ((Ext.refl h2).alloc _).setB _ _ (by omega) (by omega)
    have g1 : ((h2.alloc (.cells [.int .i64 0, .int .u64 0, .int .i64 0] 1 false)).setB (2 * h2.next) (.cells [.int .i64 (nth l i).r, .int .u64 (nth l i).s, .int .i64 (nth l i).p] 1 false)).get (2 * h2.next) = some (.cells (ic (nth l i)) 1 false) := get_setB_same (by omega) (by rw [get_alloc_new f2]; rfl)
    generalize ((h2.alloc (.cells [.int .i64 0, .int .u64 0, .int .i64 0] 1 false)).setB (2 * h2.next) (.cells [.int .i64 (nth l i).r, .int .u64 (nth l i).s, .int .i64 (nth l i).p] 1 false)) = k at e1 g1 ⊢
    have n2 := q3.next
    have n3 := e1.next
    have kC := (e1.old C (Or.inr (by omega))).trans q1
    have kl := (e1.old b (Or.inr (by omega))).trans q2
    have kE := (e1.old E (Or.inr (by omega))).trans ((q3.old E (Or.inr lE) (fun e => e.elim nEC nEl)).trans hE)
    have fk := e1.fine f2
    have flk : k.floor = h.floor := e1.floor.trans q3.floor
    refine Z_is (yieldP_ok (n := n) (x := nth l i) (i := i) htl ht3 ht5 kC kE kl eC el nCl nEl (by omega) (by omega) (by omega) fk (by omega) (by omega)) ?_
    rintro v2 h3 ⟨⟨t1, t2⟩, t3⟩
    simp only at t1 t2 t3
    have c3 : Chg (fun y => y = C ∨ y = b) h h3 := (q3.trans (e1.chg _)).trans t3
    by_cases hx : (nth l i).r = r
    · obtain ⟨rfl, t4, t5⟩ := t1 hx
      simp (disch := first | assumption | omega | (simp only [wkD, oneCell, Option.isSome_some, *]; done) | (simp only [wkE, ne_eq]; omega)) only [wk0, wk1, wk2, wk3, wk4, wk5, X_region, X_seq, X_block, X_loop, X_cond, Y_box, Y_un, Y_store, Y_append, Y_makeMap, Y_buildSlice, ibin_shl, ibin_shr, ibin_and, List.set_cons_zero, List.set_cons_succ, List.getD_cons_zero, List.getD_cons_succ, List.map_cons, List.map_nil, ↓reduceIte, reduceCtorEq, oneCell, List.length_cons, List.length_nil, setAt, readN, bne_iff_ne, ne_eq, Nat.reduceAdd, Nat.reduceLeDiff, List.getElem?_cons_zero, List.getElem?_cons_succ, Nat.reduceMul, Option.isSome_some, layAt, Nat.reduceLT, Option.isNone_some, Option.isNone_none, beq_self_eq_true, Nat.reduceEqDiff, setParams, Int.reduceLT, Int.reduceLE, Int.reduceGT, Int.reduceGE, Int.reduceEq, Int.reduceNe, Option.map_some, Option.map_none, Option.isSome_none]
      refine Is_in ?_
      simp (disch := first | assumption | omega | (simp only [wkD, oneCell, Option.isSome_some, *]; done) | (simp only [wkE, ne_eq]; omega)) only [wk0, wk1, wk2, wk3, wk4, wk5, X_region, X_seq, X_block, X_loop, X_cond, Y_box, Y_un, Y_store, Y_append, Y_makeMap, Y_buildSlice, ibin_shl, ibin_shr, ibin_and, List.set_cons_zero, List.set_cons_succ, List.getD_cons_zero, List.getD_cons_succ, List.map_cons, List.map_nil, ↓reduceIte, reduceCtorEq, oneCell, List.length_cons, List.length_nil, setAt, readN, bne_iff_ne, ne_eq, Nat.reduceAdd, Nat.reduceLeDiff, List.getElem?_cons_zero, List.getElem?_cons_succ, Nat.reduceMul, Option.isSome_some, layAt, Nat.reduceLT, Option.isNone_some, Option.isNone_none, beq_self_eq_true, Nat.reduceEqDiff, setParams, Int.reduceLT, Int.reduceLE, Int.reduceGT, Int.reduceGE, Int.reduceEq, Int.reduceNe, Option.map_some, Option.map_none, Option.isSome_none]
      refine leaf0 ⟨⟨(i : Int), Or.inr ⟨i, rfl, hik, hx, hno⟩, t5, .done, (by intro h; cases h), ?_⟩, c3⟩
      rw [if_neg (by omega)]
      exact t4
    · obtain ⟨rfl, t4, t5⟩ := t2 hx
      simp (disch := first | assumption | omega | (simp only [wkD, oneCell, Option.isSome_some, *]; done) | (simp only [wkE, ne_eq]; omega)) only [hw1, wk0, wk1, wk2, wk3, wk4, wk5, X_region, X_seq, X_block, X_loop, X_cond, Y_box, Y_un, Y_store, Y_append, Y_makeMap, Y_buildSlice, ibin_shl, ibin_shr, ibin_and, List.set_cons_zero, List.set_cons_succ, List.getD_cons_zero, List.getD_cons_succ, List.map_cons, List.map_nil, ↓reduceIte, reduceCtorEq, oneCell, List.length_cons, List.length_nil, setAt, readN, bne_iff_ne, ne_eq, Nat.reduceAdd, Nat.reduceLeDiff, List.getElem?_cons_zero, List.getElem?_cons_succ, Nat.reduceMul, Option.isSome_some, layAt, Nat.reduceLT, Option.isNone_some, Option.isNone_none, beq_self_eq_true, Nat.reduceEqDiff, setParams, Int.reduceLT, Int.reduceLE, Int.reduceGT, Int.reduceGE, Int.reduceEq, Int.reduceNe, Option.map_some, Option.map_none, Option.isSome_none]
      exact Is_in ⟨l.length - (i + 1), by omega, i + 1, rfl, rfl, rfl, rfl, rfl, rfl, rfl, rfl, by omega, fun j hj => by
        by_cases e : j = i
        · subst e; exact hx
        · exact hno j (by omega), t5, t4, c3⟩
  · have hik' : ¬ (i : Int) < (l.length : Int) := by omega
    simp (disch := first | assumption | omega | (simp only [wkD, oneCell, Option.isSome_some, *]; done) | (simp only [wkE, ne_eq]; omega)) only [g0, g1, g10, g11, g12, hik', wk0, wk1, wk2, wk3, wk4, wk5, X_region, X_seq, X_block, X_loop, X_cond, Y_box, Y_un, Y_store, Y_append, Y_makeMap, Y_buildSlice, ibin_shl, ibin_shr, ibin_and, List.set_cons_zero, List.set_cons_succ, List.getD_cons_zero, List.getD_cons_succ, List.map_cons, List.map_nil, ↓reduceIte, reduceCtorEq, oneCell, List.length_cons, List.length_nil, setAt, readN, bne_iff_ne, ne_eq, Nat.reduceAdd, Nat.reduceLeDiff, List.getElem?_cons_zero, List.getElem?_cons_succ, Nat.reduceMul, Option.isSome_some, layAt, Nat.reduceLT, Option.isNone_some, Option.isNone_none, beq_self_eq_true, Nat.reduceEqDiff, setParams, Int.reduceLT, Int.reduceLE, Int.reduceGT, Int.reduceGE, Int.reduceEq, Int.reduceNe, Option.map_some, Option.map_none, Option.isSome_none]
    refine Is_in ?_
    simp (disch := first | assumption | omega | (simp only [wkD, oneCell, Option.isSome_some, *]; done) | (simp only [wkE, ne_eq]; omega)) only [wk0, wk1, wk2, wk3, wk4, wk5, X_region, X_seq, X_block, X_loop, X_cond, Y_box, Y_un, Y_store, Y_append, Y_makeMap, Y_buildSlice, ibin_shl, ibin_shr, ibin_and, List.set_cons_zero, List.set_cons_succ, List.getD_cons_zero, List.getD_cons_succ, List.map_cons, List.map_nil, ↓reduceIte, reduceCtorEq, oneCell, List.length_cons, List.length_nil, setAt, readN, bne_iff_ne, ne_eq, Nat.reduceAdd, Nat.reduceLeDiff, List.getElem?_cons_zero, List.getElem?_cons_succ, Nat.reduceMul, Option.isSome_some, layAt, Nat.reduceLT, Option.isNone_some, Option.isNone_none, beq_self_eq_true, Nat.reduceEqDiff, setParams, Int.reduceLT, Int.reduceLE, Int.reduceGT, Int.reduceGE, Int.reduceEq, Int.reduceNe, Option.map_some, Option.map_none, Option.isSome_none]
    exact leaf0n ⟨⟨-1, Or.inl ⟨rfl, fun j hj => hno j (by omega)⟩, q1, .ready, (by intro h; cases h), q2⟩, q3⟩
theorem all_ok {n qb : Nat} {h : Heap} : (callV env (n + 1) (.func (.func 69) #[] #[]) [.pointer (some ⟨qb, 0, none⟩)] h).Is fun p => p.1 = .func (.func 73) #[] #[.pointer (some ⟨2 * h.next, 0, none⟩)] ∧ p.2 = h.alloc (.cells [.pointer (some ⟨qb, 0, none⟩)] 1 false) := by
  refine call_is env69 ?_
  have cP : ∀ p, cellsOf (.pointer p) = [.pointer p] := fun _ => rfl
  simp (disch := first | assumption | omega | (simp only [wkD, oneCell, Option.isSome_some, *]; done) | (simp only [wkE, ne_eq]; omega)) only [ir69, List.append_nil, List.nil_append, List.cons_append, List.length_cons, List.length_nil, Nat.reduceAdd, Nat.reduceSub, List.replicate_succ, List.replicate_zero, cP, wk0, wk1, wk2, wk3, wk4, wk5, X_region, X_seq, X_block, X_loop, X_cond, Y_box, Y_un, Y_store, Y_append, Y_makeMap, Y_buildSlice, ibin_shl, ibin_shr, ibin_and, List.set_cons_zero, List.set_cons_succ, List.getD_cons_zero, List.getD_cons_succ, List.map_cons, List.map_nil, ↓reduceIte, reduceCtorEq, oneCell, List.length_cons, List.length_nil, setAt, readN, bne_iff_ne, ne_eq, Nat.reduceAdd, Nat.reduceLeDiff, List.getElem?_cons_zero, List.getElem?_cons_succ, Nat.reduceMul, Option.isSome_some, layAt, Nat.reduceLT, Option.isNone_some, Option.isNone_none, beq_self_eq_true, Nat.reduceEqDiff, setParams, Int.reduceLT, Int.reduceLE, Int.reduceGT, Int.reduceGE, Int.reduceEq, Int.reduceNe, Option.map_some, Option.map_none, Option.isSome_none]
  exact leaf1 ⟨rfl, rfl⟩
theorem place_ok {n qb : Nat} {h : Heap} {r : Int} {v : Value} {sb : Option Nat} {l : List It} (hn : l.length + 20 < n) (hl8 : l.length < 1000000) (hf : h.Fine) (Q : QAt h qb v sb l) :
    (callV env (n + 3) (.func (.func 67) #[] #[]) [.pointer (some ⟨qb, 0, none⟩), .int .i64 r] h).Is fun p => (∃ k, IsPlace l r k ∧ p.1 = .int .i64 k) ∧ Ext h p.2 := by
  refine call_is env67 ?_
  have hf1 := hf.1
  have fA := alloc_fine (o := .cells [.int .i64 r] 1 false) hf
  have fB := alloc_fine (o := .cells [.int .i64 0] 1 false) fA
  have cn : canPut h (2 * (h.next + 1)) = true := canPut_new _ (by omega)
  have gn : ((h.alloc (.cells [.int .i64 r] 1 false)).alloc (.cells [.int .i64 0] 1 false)).get (2 * (h.next + 1)) = some (.cells [.int .i64 0] 1 false) := get_alloc_new fA
  simp (disch := first | assumption | omega | (simp only [wkD, oneCell, Option.isSome_some, *]; done) | (simp only [wkE, ne_eq]; omega)) only [ir67, List.append_nil, List.nil_append, List.cons_append, List.length_cons, List.length_nil, Nat.reduceAdd, Nat.reduceSub, List.replicate_succ, List.replicate_zero, cn, gn, wk0, wk1, wk2, wk3, wk4, wk5, X_region, X_seq, X_block, X_loop, X_cond, Y_box, Y_un, Y_store, Y_append, Y_makeMap, Y_buildSlice, ibin_shl, ibin_shr, ibin_and, List.set_cons_zero, List.set_cons_succ, List.getD_cons_zero, List.getD_cons_succ, List.map_cons, List.map_nil, ↓reduceIte, reduceCtorEq, oneCell, List.length_cons, List.length_nil, setAt, readN, bne_iff_ne, ne_eq, Nat.reduceAdd, Nat.reduceLeDiff, List.getElem?_cons_zero, List.getElem?_cons_succ, Nat.reduceMul, Option.isSome_some, layAt, Nat.reduceLT, Option.isNone_some, Option.isNone_none, beq_self_eq_true, Nat.reduceEqDiff, setParams, Int.reduceLT, Int.reduceLE, Int.reduceGT, Int.reduceGE, Int.reduceEq, Int.reduceNe, Option.map_some, Option.map_none, Option.isSome_none]
  have eB : Ext h (((h.alloc (.cells [.int .i64 r] 1 false)).alloc (.cells [.int .i64 0] 1 false)).setB (2 * (h.next + 1)) (.cells [.int .i64 (-1)] 1 false)) := (((Ext.refl h).alloc _).alloc _).setB _ _ (by omega) (by omega)
  have gE : (((h.alloc (.cells [.int .i64 r] 1 false)).alloc (.cells [.int .i64 0] 1 false)).setB (2 * (h.next + 1)) (.cells [.int .i64 (-1)] 1 false)).get (2 * h.next) = some (.cells [.int .i64 r] 1 false) := (get_setB_other (by omega) (by omega)).trans ((get_alloc_old (by simp only [alloc_next]; omega)).trans (get_alloc_new hf))
  have gC : (((h.alloc (.cells [.int .i64 r] 1 false)).alloc (.cells [.int .i64 0] 1 false)).setB (2 * (h.next + 1)) (.cells [.int .i64 (-1)] 1 false)).get (2 * (h.next + 1)) = some (.cells [.int .i64 (-1)] 1 false) := get_setB_same (by omega) (by rw [show 2 * (h.next + 1) = 2 * (h.alloc (.cells [.int .i64 r] 1 false)).next from rfl, get_alloc_new fA]; rfl)
  have nB : (((h.alloc (.cells [.int .i64 r] 1 false)).alloc (.cells [.int .i64 0] 1 false)).setB (2 * (h.next + 1)) (.cells [.int .i64 (-1)] 1 false)).next = h.next + 2 := rfl
  generalize (((h.alloc (.cells [.int .i64 r] 1 false)).alloc (.cells [.int .i64 0] 1 false)).setB (2 * (h.next + 1)) (.cells [.int .i64 (-1)] 1 false)) = k at eB gE gC nB ⊢
  have fk := eB.fine hf
  refine Z_is (all_ok (n := n + 1)) ?_
  rintro v1 h1 ⟨rfl, rfl⟩
  simp (disch := first | assumption | omega | (simp only [wkD, oneCell, Option.isSome_some, *]; done) | (simp only [wkE, ne_eq]; omega)) only [wk0, wk1, wk2, wk3, wk4, wk5, X_region, X_seq, X_block, X_loop, X_cond, Y_box, Y_un, Y_store, Y_append, Y_makeMap, Y_buildSlice, ibin_shl, ibin_shr, ibin_and, List.set_cons_zero, List.set_cons_succ, List.getD_cons_zero, List.getD_cons_succ, List.map_cons, List.map_nil, ↓reduceIte, reduceCtorEq, oneCell, List.length_cons, List.length_nil, setAt, readN, bne_iff_ne, ne_eq, Nat.reduceAdd, Nat.reduceLeDiff, List.getElem?_cons_zero, List.getElem?_cons_succ, Nat.reduceMul, Option.isSome_some, layAt, Nat.reduceLT, Option.isNone_some, Option.isNone_none, beq_self_eq_true, Nat.reduceEqDiff, setParams, Int.reduceLT, Int.reduceLE, Int.reduceGT, Int.reduceGE, Int.reduceEq, Int.reduceNe, Option.map_some, Option.map_none, Option.isSome_none]
  refine X_range (g := 73) (first := #[]) rfl ?_
  have f1 := alloc_fine (o := .cells [.pointer (some ⟨qb, 0, none⟩)] 1 false) fk
  have f2 := alloc_fine (o := .deferred true) f1
  have e1 : Ext h (k.alloc (.cells [.pointer (some ⟨qb, 0, none⟩)] 1 false)) := eB.alloc _
  have g1 : (k.alloc (.cells [.pointer (some ⟨qb, 0, none⟩)] 1 false)).get (2 * k.next) = some (.cells [.pointer (some ⟨qb, 0, none⟩)] 1 false) := get_alloc_new fk
  have g2 : (k.alloc (.cells [.pointer (some ⟨qb, 0, none⟩)] 1 false)).get (2 * h.next) = _ := (get_alloc_old (by omega)).trans gE
  have g3 : (k.alloc (.cells [.pointer (some ⟨qb, 0, none⟩)] 1 false)).get (2 * (h.next + 1)) = _ := (get_alloc_old (by omega)).trans gC
  have n1 : (k.alloc (.cells [.pointer (some ⟨qb, 0, none⟩)] 1 false)).next = h.next + 3 := by rw [alloc_next, nB]
  have hkn : 2 * k.next = 2 * (h.next + 2) := by omega
  rw [hkn] at g1 ⊢
  generalize (k.alloc (.cells [.pointer (some ⟨qb, 0, none⟩)] 1 false)) = k1 at f1 f2 e1 g1 g2 g3 n1 ⊢
  have fl1 := e1.floor
  have mk : (k1.alloc (.deferred true)).get (2 * k1.next) = some (.deferred true) := get_alloc_new f1
  have lq := Q.lt
  have oo : ∀ (o : IObj) (y : Nat), y < 2 * k1.next → ((k1.alloc (.deferred true)).alloc o).get y = k1.get y := fun o y hy => (get_alloc_old (by simp only [alloc_next]; omega)).trans (get_alloc_old (by omega))
  have Q1 : ∀ o : IObj, QAt ((k1.alloc (.deferred true)).alloc o) qb v sb l := fun o => Q.ext ((e1.alloc _).alloc _)
  refine T.Is.mono (fun p hp => ?_) (iterP_ok (n := n) (D := 2 * k1.next) (C := 2 * (h.next + 1)) (E := 2 * h.next) (E1 := 2 * (h.next + 2)) (b := 2 * (k1.next + 1)) (r := r) (l := l) (v := v) (sb := sb) (qb := qb) hn hl8 rfl rfl rfl
    ((oo _ _ (by omega)).trans g3) ((oo _ _ (by omega)).trans g2) ((oo _ _ (by omega)).trans g1) (get_alloc_new f2) (Q1 _) (by omega) (by omega) (by omega) (by omega) (by omega) ⟨by omega, by omega⟩ ⟨by omega, by omega⟩
    ⟨fun e => by have := (Q.sl.lt e).1; omega, fun e => by have := (Q.sl.lt e).1; omega⟩ (by simp only [alloc_next]; omega) (by simp only [alloc_next]; omega) (by simp only [alloc_next]; omega) (by simp only [alloc_next]; omega) (alloc_fine f2) (by simp only [alloc_floor]; omega) (by simp only [alloc_floor]; omega))
  obtain ⟨⟨kk, hpl, hpC, st, hst, hpl2⟩, hch⟩ := hp
  have flp : p.2.floor = h.floor := hch.floor.trans fl1
  have npx := hch.next
  have npx' : k1.next + 2 ≤ p.2.next := npx
  refine ⟨_, hpl2, hst, canPut_even (by omega) (by omega), ?_⟩
  have gC9 : ∀ o, (p.2.setB (2 * (k1.next + 1)) o).get (2 * (h.next + 1)) = some (.cells [.int .i64 kk] 1 false) := fun o => (get_setB_other (by omega) (by omega)).trans hpC
  have gD9 : ∀ o, (p.2.setB (2 * (k1.next + 1)) o).get (2 * k1.next) = some (.deferred true) := fun o =>
    (get_setB_other (by omega) (by omega)).trans ((hch.old _ (Or.inr (by simp only [alloc_next]; omega)) (by omega)).trans ((get_alloc_old (by simp only [alloc_next]; omega)).trans mk))
  have e9 : Ext h p.2 := ((((e1.chg (fun _ => False)).alloc (.deferred true)).alloc _).then hch (fun y hy h => by omega)).ext (fun _ _ => id)
  have eZ : ∀ o o', Ext h ((p.2.setB (2 * (k1.next + 1)) o).setB (2 * k1.next) o') := fun o o' => (e9.setB _ _ (by omega) (by omega)).setB _ _ (by omega) (by omega)
  have done : ∀ o, canPut (p.2.setB (2 * (k1.next + 1)) o) (2 * k1.next) = true := fun o => canPut_new _ (by show p.2.floor ≤ _; omega)
  by_cases hk : kk = -1
  · subst hk
    simp (disch := first | assumption | omega | (simp only [wkD, oneCell, Option.isSome_some, *]; done) | (simp only [wkE, ne_eq]; omega)) only [pLoop, gC9, wk0, wk1, wk2, wk3, wk4, wk5, X_region, X_seq, X_block, X_loop, X_cond, Y_box, Y_un, Y_store, Y_append, Y_makeMap, Y_buildSlice, ibin_shl, ibin_shr, ibin_and, List.set_cons_zero, List.set_cons_succ, List.getD_cons_zero, List.getD_cons_succ, List.map_cons, List.map_nil, ↓reduceIte, reduceCtorEq, oneCell, List.length_cons, List.length_nil, setAt, readN, bne_iff_ne, ne_eq, Nat.reduceAdd, Nat.reduceLeDiff, List.getElem?_cons_zero, List.getElem?_cons_succ, Nat.reduceMul, Option.isSome_some, layAt, Nat.reduceLT, Option.isNone_some, Option.isNone_none, beq_self_eq_true, Nat.reduceEqDiff, setParams, Int.reduceLT, Int.reduceLE, Int.reduceGT, Int.reduceGE, Int.reduceEq, Int.reduceNe, Option.map_some, Option.map_none, Option.isSome_none]
    exact leafM1 (gD9 _) (done _) ⟨⟨-1, hpl, rfl⟩, eZ _ _⟩
  · simp (disch := first | assumption | omega | (simp only [wkD, oneCell, Option.isSome_some, *]; done) | (simp only [wkE, ne_eq]; omega)) only [pLoop, hk, gC9, wk0, wk1, wk2, wk3, wk4, wk5, X_region, X_seq, X_block, X_loop, X_cond, Y_box, Y_un, Y_store, Y_append, Y_makeMap, Y_buildSlice, ibin_shl, ibin_shr, ibin_and, List.set_cons_zero, List.set_cons_succ, List.getD_cons_zero, List.getD_cons_succ, List.map_cons, List.map_nil, ↓reduceIte, reduceCtorEq, oneCell, List.length_cons, List.length_nil, setAt, readN, bne_iff_ne, ne_eq, Nat.reduceAdd, Nat.reduceLeDiff, List.getElem?_cons_zero, List.getElem?_cons_succ, Nat.reduceMul, Option.isSome_some, layAt, Nat.reduceLT, Option.isNone_some, Option.isNone_none, beq_self_eq_true, Nat.reduceEqDiff, setParams, Int.reduceLT, Int.reduceLE, Int.reduceGT, Int.reduceGE, Int.reduceEq, Int.reduceNe, Option.map_some, Option.map_none, Option.isSome_none]
    exact leafM1 (gD9 _) (done _) ⟨⟨kk, hpl, rfl⟩, eZ _ _⟩
end Go.Proofs.Ytmpnldmdchchjaa
