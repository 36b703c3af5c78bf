/-
  Numbers taken from the bytes that are left.
-/
import Derived.Test.YtpodmgbnldmlcaaDoorFk
import Derived.Test.YtpodmgbnldmlcaaDoorWhy
namespace Go.Proofs.YtpodmgbnldmlcaaDoor
open Go Go.Ideal Go.ChangeShapes Go.RowKit
set_option maxHeartbeats 0
set_option linter.unusedSimpArgs false
set_option linter.unusedVariables false
set_option maxRecDepth 100000
attribute [local irreducible] callV T.All T.Is run
theorem env33 : env 33 = some ir33 := rfl
/-- What is behind some items of a slice. -/
def sub (v : Value) (i : Nat) : Value := match v with
  | .slice (some a) len c => .slice (some ⟨a.block, a.off + i, a.spot⟩) (len - i) (c - i)
  | v => v
theorem sub_zero (p : Option Addr) (n c : Nat) : sub (.slice p n c) 0 = .slice p n c := by
  cases p <;> rfl
/-- What is left, and whether all was there so far. -/
def Tk (fb lb : Nat) (s : List Nat × Bool) : Rs := Rs.ex fun x : List Nat × Value => Rs.star (Ob fb (.cells [.bool s.2] 1 false)) (Rs.star (Ob lb (.cells [sub x.2 x.1.length] 1 false)) (Sc 1 bc x.2 (x.1 ++ s.1)))
/-- A number from its bytes. -/
def nb (a : Nat) (l : List Nat) : Nat := l.foldl (fun v c => v * 256 + c) a
def tk (k : Nat) (s : List Nat × Bool) : Nat × (List Nat × Bool) := if s.2 = true ∧ k ≤ s.1.length then (nb 0 (s.1.take k), (s.1.drop k, true)) else (0, (s.1, false))
theorem nb_lt : ∀ (l : List Nat) (a : Nat), (∀ b ∈ l, b < 256) → nb a l < (a + 1) * 256 ^ l.length
  | [], a, _ => by show a < (a + 1) * 1; omega
  | c :: l, a, h => by
    have hc := h c (by simp)
    have ih := nb_lt l (a * 256 + c) fun b hb => h b (by simp [hb])
    show nb (a * 256 + c) l < _
    have : (a * 256 + c + 1) * 256 ^ l.length ≤ ((a + 1) * 256) * 256 ^ l.length := Nat.mul_le_mul_right _ (by omega)
    rw [List.length_cons, Nat.pow_succ, Nat.mul_comm (256 ^ l.length) 256, ← Nat.mul_assoc]
    omega
theorem pow_le8 {k : Nat} (h : k ≤ 8) : 256 ^ k ≤ 18446744073709551616 := by
  have : k = 0 ∨ k = 1 ∨ k = 2 ∨ k = 3 ∨ k = 4 ∨ k = 5 ∨ k = 6 ∨ k = 7 ∨ k = 8 := by omega
  rcases this with rfl | rfl | rfl | rfl | rfl | rfl | rfl | rfl | rfl <;> decide
theorem nb_take {l : List Nat} {i : Nat} (hi : i < l.length) : nb 0 (l.take (i + 1)) = nb 0 (l.take i) * 256 + l[i] := by
  unfold nb
  rw [List.take_add_one, List.getElem?_eq_getElem hi, List.foldl_append]
  rfl
theorem or_wrap {v c : Nat} (hv : v * 256 + c < 18446744073709551616) (hc : c < 256) : IntKind.u64.wrap ((BitVec.ofInt IntKind.u64.bits ((v * 256 : Nat) : Int) ||| BitVec.ofInt IntKind.u64.bits (c : Int)).toNat : Int) = ((v * 256 + c : Nat) : Int) := by
  have e : (v * 256) ||| c = v * 256 + c := by
    have := Nat.shiftLeft_add_eq_or_of_lt (i := 8) (b := c) (by omega) v
    rw [Nat.shiftLeft_eq] at this
    simpa using this.symm
  have e1 : (BitVec.ofInt 64 ((v * 256 : Nat) : Int)).toNat = v * 256 := by
    rw [BitVec.ofInt_natCast, BitVec.toNat_ofNat]
    exact Nat.mod_eq_of_lt (by omega)
  have e2 : (BitVec.ofInt 64 ((c : Nat) : Int)).toNat = c := by
    rw [BitVec.ofInt_natCast, BitVec.toNat_ofNat]
    exact Nat.mod_eq_of_lt (by omega)
  have e3 : (BitVec.ofInt 64 ((v * 256 : Nat) : Int) ||| BitVec.ofInt 64 ((c : Nat) : Int)).toNat = v * 256 + c := by
    rw [BitVec.toNat_or, e1, e2, e]
  have h2 : IntKind.u64.wrap ((v * 256 + c : Nat) : Int) = ((v * 256 + c : Nat) : Int) := wrap_u64 (by omega) (by omega)
  show IntKind.u64.wrap ((BitVec.ofInt 64 ((v * 256 : Nat) : Int) ||| BitVec.ofInt 64 ((c : Nat) : Int)).toNat : Int) = _
  rw [e3, h2]
theorem shl_wrap {v : Nat} (hv : v * 256 < 18446744073709551616) : IntKind.u64.wrap ((v : Int) * 2 ^ min (8 : Int).toNat IntKind.u64.bits) = ((v * 256 : Nat) : Int) := by
  have e : min (8 : Int).toNat IntKind.u64.bits = 8 := rfl
  rw [e, wrap_u64 (by omega) (by omega)]
  omega
section
variable {ro : Nat → Option (List Value × Nat)} {h : Heap} {R : List Rs} {s : List Nat × Bool} {fb lb : Nat}
theorem Has.tk : Has ro h (Tk fb lb s :: R) ↔ ∃ (pre : List Nat) (v : Value), Has ro h (Ob fb (.cells [.bool s.2] 1 false) :: Ob lb (.cells [sub v pre.length] 1 false) :: Sc 1 bc v (pre ++ s.1) :: R) := by
  unfold Tk
  rw [Has.ex]
  constructor
  · rintro ⟨⟨pre, v⟩, O⟩
    exact ⟨pre, v, (Has.star.1 (Has.star.1 O).swap2).at 2 rfl⟩
  · rintro ⟨pre, v, O⟩
    exact ⟨⟨pre, v⟩, Has.star.2 ((Has.star.2 (O.at 2 rfl |>.at 2 rfl)).swap2)⟩
theorem vw_sub {v : Value} {pre L : List Nat} (V : Vw 1 bc h v (pre ++ L)) : Vw 1 bc h (sub v pre.length) L := by
  obtain ⟨p, c, rfl, hc, k⟩ := V
  rcases Nat.eq_zero_or_pos (pre ++ L).length with h0 | h0
  · have e : pre ++ L = [] := List.eq_nil_of_length_eq_zero h0
    rw [List.append_eq_nil_iff] at e
    obtain ⟨rfl, rfl⟩ := e
    rw [List.length_nil, sub_zero]
    exact Vw.nil _ _ _
  · obtain ⟨b, off, sp, A, B, zz, t, rfl, k2, k3, k4, k5⟩ := k h0
    have hl : (pre ++ L).length = pre.length + L.length := List.length_append
    refine ⟨some ⟨b, off + pre.length, sp⟩, c - pre.length, ?_, by omega, fun _ => ⟨b, off + pre.length, sp, A ++ pre.flatMap bc, B, zz, t, rfl, k2, ?_, ?_, k5⟩⟩
    · show Value.slice (some ⟨b, off + pre.length, sp⟩) ((pre ++ L).length - pre.length) _ = _
      rw [hl, Nat.add_sub_cancel_left]
    · rw [List.length_append, k3, flatMap_len bc_len, Nat.mul_one]
    · rw [k4, List.flatMap_append, List.append_assoc, List.append_assoc]

theorem take_h {n k : Nat} (hn : 20 < n) (hk1 : 1 ≤ k) (hk : k ≤ 8) (hL : s.1.length ≤ 100000) (hs : ∀ b ∈ s.1, b < 256) (O : Has ro h (Tk fb lb s :: R)) :
    (callV env (n + 1) (.func (.func 33) #[] #[.pointer (some ⟨fb, 0, none⟩), .pointer (some ⟨lb, 0, none⟩)]) [.int .i64 (k : Int)] h).Is fun q => q.1 = .int .u64 ((tk k s).1 : Int) ∧ Has ro q.2 (Tk fb lb (tk k s).2 :: R) := by
  obtain ⟨L, f⟩ := s
  simp only at hL hs
  obtain ⟨pre, v, O1⟩ := Has.tk.1 O
  simp only at O1
  have Vw1 := vw_sub (O1.vw 2 rfl)
  refine call_is env33 ?_
  have gf := O1.get 0 rfl
  have pf := O1.can 0 rfl
  have ho2 : oneCell (Value.bool false) = true := rfl
  have ho3 : oneCell (Value.bool true) = true := rfl
  cases f with
  | false =>
    have O2 := O1.set 0 rfl (.cells [.bool false] 1 false)
    simp only [List.set_cons_zero] at O2
    have gf2 := O2.get 0 rfl
    simp (disch := first | assumption | omega | (simp only [wkD, oneCell, Option.isSome_some, *]; done) | (simp only [wkE, ne_eq]; omega)) only [ir33, List.append_nil, List.nil_append, List.cons_append, List.length_cons, List.length_nil, Nat.reduceAdd, Nat.reduceSub, List.replicate_succ, List.replicate_zero, gf, pf, gf2, ho2, wkF, X_region, X_seq, X_block, X_loop, X_cond, Y_box, Y_un, Y_store, Y_append, Y_makeMap, Y_buildSlice, ibin_shl, ibin_shr, ibin_and, ↓reduceIte, reduceCtorEq, setAt, readN, Nat.reduceAdd, Nat.reduceLeDiff, Nat.reduceMul, layAt, Nat.reduceLT, Nat.reduceEqDiff, setParams, Int.reduceLT, Int.reduceLE, Int.reduceGT, Int.reduceGE, Int.reduceEq, Int.reduceNe]
    have e : tk k (L, false) = (0, (L, false)) := by unfold tk; rw [if_neg (by simp)]
    rw [e]
    exact leaf1 ⟨rfl, Has.tk.2 ⟨pre, v, O2⟩⟩
  | true =>
    obtain ⟨w, hw⟩ : ∃ w, w = sub v pre.length := ⟨_, rfl⟩
    rw [← hw] at O1 Vw1
    obtain ⟨p, c, hv, hc⟩ := Vw1.len
    have gl := O1.get 1 rfl
    rw [hv] at gl
    by_cases hkl : k ≤ L.length
    case neg =>
      have hkl' : ¬ (k : Int) ≤ (L.length : Int) := by omega
      have O2 := O1.set 0 rfl (.cells [.bool false] 1 false)
      simp only [List.set_cons_zero] at O2
      have gf2 := O2.get 0 rfl
      simp (disch := first | assumption | omega | (simp only [wkD, oneCell, Option.isSome_some, *]; done) | (simp only [wkE, ne_eq]; omega)) only [ir33, List.append_nil, List.nil_append, List.cons_append, List.length_cons, List.length_nil, Nat.reduceAdd, Nat.reduceSub, List.replicate_succ, List.replicate_zero, gf, pf, gl, gf2, ho2, hkl', wkF, X_region, X_seq, X_block, X_loop, X_cond, Y_box, Y_un, Y_store, Y_append, Y_makeMap, Y_buildSlice, ibin_shl, ibin_shr, ibin_and, ↓reduceIte, reduceCtorEq, setAt, readN, Nat.reduceAdd, Nat.reduceLeDiff, Nat.reduceMul, layAt, Nat.reduceLT, Nat.reduceEqDiff, setParams, Int.reduceLT, Int.reduceLE, Int.reduceGT, Int.reduceGE, Int.reduceEq, Int.reduceNe]
      have e : tk k (L, true) = (0, (L, false)) := by
        unfold tk; rw [if_neg]
        intro h; exact hkl h.2
      rw [e]
      rw [hw] at O2
      exact leaf1 ⟨rfl, Has.tk.2 ⟨pre, v, O2⟩⟩
    have hkl' : (k : Int) ≤ (L.length : Int) := by omega
    have O2 := O1.set 0 rfl (.cells [.bool true] 1 false)
    simp only [List.set_cons_zero] at O2
    have e : tk k (L, true) = (nb 0 (L.take k), (L.drop k, true)) := by
      unfold tk; rw [if_pos ⟨rfl, hkl⟩]
    rw [e]
    obtain ⟨b, off, sp, hp, hsp, hrd⟩ : ∃ (b off : Nat) (sp : Option Nat), p = some ⟨b, off, sp⟩ ∧ spotOk 1 ⟨b, off, sp⟩ = true ∧ ∀ h, Has ro h (Ob fb (.cells [.bool true] 1 false) :: Ob lb (.cells [w] 1 false) :: Sc 1 bc v (pre ++ L) :: R) → ∀ i (hi : i < L.length), readC (h.get b) (off + i * 1) 1 = some [.int .u8 (L[i] : Int)] := by
      obtain ⟨p3, c3, hv3, hc3, k3⟩ := Vw1
      rw [hv] at hv3
      cases hv3
      obtain ⟨b4, o4, s4, A4, B4, z4, t4, e4, q1, q2, q3, q4⟩ := k3 (by omega)
      refine ⟨b4, o4, s4, e4, ?_, fun h O i hi => ?_⟩
      · rcases q1 with rfl | rfl
        · exact spotOk_none
        · exact spotOk_some
      · have V2 := vw_sub (O.vw 2 rfl)
        rw [← hw, hv, e4] at V2
        obtain ⟨b1, o1, s1, c1, hv1, k1⟩ := rdW bc_len V2 hi
        cases hv1
        exact k1
    subst hp
    have s1 : vSlice 1 (.slice (some ⟨b, off, sp⟩) L.length c) none (some (.int .i64 (k : Int))) none false = some (.slice (some ⟨b, off, sp⟩) k c) := vSlice_h (by omega) hsp
    have gf2 := O2.get 0 rfl
    have gl2 := O2.get 1 rfl
    rw [hv] at gl2
    simp (disch := first | assumption | omega | (simp only [wkD, oneCell, Option.isSome_some, *]; done) | (simp only [wkE, ne_eq]; omega)) only [ir33, List.append_nil, List.nil_append, List.cons_append, List.length_cons, List.length_nil, Nat.reduceAdd, Nat.reduceSub, List.replicate_succ, List.replicate_zero, gf, pf, gl, gf2, gl2, ho3, hkl', s1, wkF, X_region, X_seq, X_block, X_loop, X_cond, Y_box, Y_un, Y_store, Y_append, Y_makeMap, Y_buildSlice, ibin_shl, ibin_shr, ibin_and, ↓reduceIte, reduceCtorEq, setAt, readN, Nat.reduceAdd, Nat.reduceLeDiff, Nat.reduceMul, layAt, Nat.reduceLT, Nat.reduceEqDiff, setParams, Int.reduceLT, Int.reduceLE, Int.reduceGT, Int.reduceGE, Int.reduceEq, Int.reduceNe]
    have hgl : ∀ h, Has ro h (Ob fb (.cells [.bool true] 1 false) :: Ob lb (.cells [w] 1 false) :: Sc 1 bc v (pre ++ L) :: R) → h.get lb = some (.cells [.slice (some ⟨b, off, sp⟩) L.length c] 1 false) := fun h O => by rw [← hv]; exact O.get 1 rfl
    refine L_is (fun q s => ∃ (i : Nat), s.defers = [] ∧ s.tmps.length = 35 ∧ s.tmps.getD 0 undefV = .int .i64 (k : Int) ∧ s.tmps.getD 2 undefV = .pointer (some ⟨lb, 0, none⟩) ∧ s.tmps.getD 5 undefV = .int .u64 ((nb 0 (L.take i) : Nat) : Int) ∧ s.tmps.getD 19 undefV = .slice (some ⟨b, off, sp⟩) k c ∧ s.tmps.getD 20 undefV = .int .i64 (k : Int) ∧ s.tmps.getD 21 undefV = .int .i64 (i : Int) ∧ q = k - i ∧ i ≤ k ∧ Has ro s.h (Ob fb (.cells [.bool true] 1 false) :: Ob lb (.cells [w] 1 false) :: Sc 1 bc v (pre ++ L) :: R)) k ?_ (by omega) ?_
    · exact ⟨0, rfl, rfl, rfl, rfl, rfl, rfl, rfl, rfl, rfl, by omega, O2⟩
    clear O O1 O2 gf pf gl
    rintro q_ tm df h3 ⟨i, hd, hlen_, g0, g2, g5, g19, g20, g21, hq, hi, O⟩
    simp only at hd g0 g2 g5 g19 g20 g21 O
    subst hd
    obtain ⟨w, hg_, rfl⟩ := explode hlen_
    simp only [hg_] at g0 g2 g5 g19 g20 g21
    clear hlen_ hg_
    by_cases hlt : i < k
    · have hlt' : (i : Int) < (k : Int) := by omega
      have c0 : (0 : Int) ≤ (i : Int) := by omega
      have y1 : IntKind.i64.wrap ((i : Int) + 1) = ((i + 1 : Nat) : Int) := by rw [wrap_i64 (by omega) (by omega)]; omega
      have r0 := hrd _ O i (by omega)
      have hbi := hs _ (List.getElem_mem (show i < L.length by omega))
      have hnl := nb_lt (L.take i) 0 fun b hb => hs b (List.mem_of_mem_take hb)
      have hnl2 := nb_lt (L.take (i + 1)) 0 fun b hb => hs b (List.mem_of_mem_take hb)
      rw [List.length_take, Nat.min_eq_left (by omega), Nat.zero_add, Nat.one_mul] at hnl hnl2
      have hp8 := pow_le8 (k := i + 1) (by omega)
      have hnt := nb_take (l := L) (i := i) (by omega)
      have sw := shl_wrap (v := nb 0 (L.take i)) (by omega)
      have ow := or_wrap (v := nb 0 (L.take i)) (c := L[i]) (by omega) hbi
      have wu : IntKind.u64.wrap (L[i] : Int) = (L[i] : Int) := wrap_u64 (by omega) (by omega)
      simp (disch := first | assumption | omega | (simp only [wkD, oneCell, Option.isSome_some, *]; done) | (simp only [wkE, ne_eq]; omega)) only [g0, g2, g5, g19, g20, g21, hlt', c0, r0, Int.toNat_natCast, wu, sw, ow, y1, wkF, X_region, X_seq, X_block, X_loop, X_cond, Y_box, Y_un, Y_store, Y_append, Y_makeMap, Y_buildSlice, ibin_shl, ibin_shr, ibin_and, ↓reduceIte, reduceCtorEq, oneCell, setAt, readN, Nat.reduceAdd, Nat.reduceLeDiff, Nat.reduceMul, layAt, Nat.reduceLT, Nat.reduceEqDiff, setParams, Int.reduceLT, Int.reduceLE, Int.reduceGT, Int.reduceGE, Int.reduceEq, Int.reduceNe]
      exact Is_in ⟨k - (i + 1), by omega, i + 1, rfl, rfl, rfl, rfl, (by rw [hnt]; rfl), rfl, rfl, rfl, rfl, by omega, O⟩
    · have hlt' : ¬ (i : Int) < (k : Int) := by omega
      have hik : i = k := by omega
      subst hik
      have gl := hgl _ O
      have pl := O.can 1 rfl
      have s2 : vSlice 1 (.slice (some ⟨b, off, sp⟩) L.length c) (some (.int .i64 (i : Int))) none none false = some (.slice (some ⟨b, off + i * 1, sp⟩) (L.length - i) (c - i)) := vSlice_l hkl hsp
      have ho4 : oneCell (.slice (some ⟨b, off + i * 1, sp⟩) (L.length - i) (c - i)) = true := rfl
      simp (disch := first | assumption | omega | (simp only [wkD, oneCell, Option.isSome_some, *]; done) | (simp only [wkE, ne_eq]; omega)) only [g0, g2, g5, g19, g20, g21, hlt', gl, pl, s2, ho4, oneC_slice, wkF, X_region, X_seq, X_block, X_loop, X_cond, Y_box, Y_un, Y_store, Y_append, Y_makeMap, Y_buildSlice, ibin_shl, ibin_shr, ibin_and, ↓reduceIte, reduceCtorEq, setAt, readN, Nat.reduceAdd, Nat.reduceLeDiff, Nat.reduceMul, layAt, Nat.reduceLT, Nat.reduceEqDiff, setParams, Int.reduceLT, Int.reduceLE, Int.reduceGT, Int.reduceGE, Int.reduceEq, Int.reduceNe]
      refine Is_in ?_
      simp (disch := first | assumption | omega | (simp only [wkD, oneCell, Option.isSome_some, *]; done) | (simp only [wkE, ne_eq]; omega)) only [g0, g2, g5, g19, g20, g21, hlt', gl, pl, s2, ho4, oneC_slice, wkF, X_region, X_seq, X_block, X_loop, X_cond, Y_box, Y_un, Y_store, Y_append, Y_makeMap, Y_buildSlice, ibin_shl, ibin_shr, ibin_and, ↓reduceIte, reduceCtorEq, setAt, readN, Nat.reduceAdd, Nat.reduceLeDiff, Nat.reduceMul, layAt, Nat.reduceLT, Nat.reduceEqDiff, setParams, Int.reduceLT, Int.reduceLE, Int.reduceGT, Int.reduceGE, Int.reduceEq, Int.reduceNe]
      have O4 := O.set 1 rfl (.cells [.slice (some ⟨b, off + i * 1, sp⟩) (L.length - i) (c - i)] 1 false)
      simp only [List.set_cons_succ, List.set_cons_zero] at O4
      refine leaf1 ⟨rfl, Has.tk.2 ⟨pre ++ L.take i, v, ?_⟩⟩
      have e1 : sub v (pre ++ L.take i).length = .slice (some ⟨b, off + i * 1, sp⟩) (L.length - i) (c - i) := by
        have hl : (pre ++ L.take i).length = pre.length + i := by rw [List.length_append, List.length_take, Nat.min_eq_left hkl]
        rw [hl]
        rw [hv] at hw
        cases v with
        | slice p0 n0 c0 =>
          cases p0 with
          | none => cases hw
          | some a0 =>
            simp only [sub, Value.slice.injEq, Option.some.injEq, Addr.mk.injEq] at hw ⊢
            obtain ⟨⟨h1, h2, h3⟩, h4, h5⟩ := hw
            refine ⟨⟨h1.symm, by omega, h3.symm⟩, by omega, by omega⟩
        | _ => cases hw
      rw [e1, List.append_assoc, List.take_append_drop]
      exact O4
end
end Go.Proofs.YtpodmgbnldmlcaaDoor
