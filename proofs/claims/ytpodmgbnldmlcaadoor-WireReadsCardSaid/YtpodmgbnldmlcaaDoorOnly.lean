/-
  A message with nothing but what its kind names.
-/
import Derived.Test.YtpodmgbnldmlcaaDoorFk
import Derived.Test.YtpodmgbnldmlcaaDoorFld
namespace Go.Proofs.YtpodmgbnldmlcaaDoor
open Go Go.Ideal Go.ChangeShapes Go.RowKit
set_option maxHeartbeats 0
set_option linter.unusedSimpArgs false
set_option linter.unusedVariables false
set_option maxRecDepth 100000
attribute [local irreducible] callV T.All T.Is run
theorem env28 : env 28 = some ir28 := rfl
theorem env38 : env 38 = some ir38 := rfl

/-- A message. -/
structure Msg where
  kd : Int
  cell : Int
  gen : Nat
  stamp : Nat
  prio : Int
  hops : Int
  orig : Int
  oth : Int
  cl : Value
def mc (m : Msg) : List Value := [.int .i64 m.kd, .int .i64 m.cell, .int .u32 (m.gen : Int), .int .u64 (m.stamp : Int), .int .i64 m.prio, .int .i64 m.hops, .int .i64 m.orig, .int .i64 m.oth, m.cl]
def mv (m : Msg) : Value := .agg (mc m).toArray
def nilS : Value := .slice none 0 0
/-- The fields of a kind. -/
def row (k : Int) : List Int :=
  if k = 1 then [1, 3, 4, 0, 0] else if k = 2 then [1, 2, 3, 0, 0] else if k = 3 then [1, 2, 0, 0, 0] else if k = 4 then [0, 0, 0, 0, 0] else if k = 5 then [1, 3, 7, 0, 0] else if k = 6 then [1, 6, 7, 4, 5]
  else if k = 7 then [6, 7, 0, 0, 0] else if k = 8 then [1, 4, 0, 0, 0] else if k = 9 then [0, 0, 0, 0, 0] else if k = 10 then [1, 2, 0, 0, 0] else [8, 0, 0, 0, 0]
/-- The table of kinds is laid. -/
def Lay (ro : Nat → Option (List Value × Nat)) : Prop := ∀ kd : Int, 1 ≤ kd → kd ≤ 11 → readC ((fresh ro).get 1) ((kd - 1).toNat * 6 + 1) 5 = some ((row kd).map fun x => Value.int .i64 x)
/-- What some fields hold. -/
def sel (m : Msg) (G : List Int) : Msg :=
  ⟨m.kd, if (1 : Int) ∈ G then m.cell else 0, if (2 : Int) ∈ G then m.gen else 0, if (3 : Int) ∈ G then m.stamp else 0, if (4 : Int) ∈ G then m.prio else 0, if (5 : Int) ∈ G then m.hops else 0, if (6 : Int) ∈ G then m.orig else 0, if (7 : Int) ∈ G then m.oth else 0, if (8 : Int) ∈ G then m.cl else nilS⟩
def only (m : Msg) : Msg := sel m (row m.kd)
theorem row_len (k : Int) : (row k).length = 5 := by
  unfold row
  repeat' split
  all_goals rfl
theorem row_cases {k : Int} {p : List Int → Prop} (h1 : p [1, 3, 4, 0, 0]) (h2 : p [1, 2, 3, 0, 0]) (h3 : p [1, 2, 0, 0, 0]) (h4 : p [0, 0, 0, 0, 0]) (h5 : p [1, 3, 7, 0, 0]) (h6 : p [1, 6, 7, 4, 5]) (h7 : p [6, 7, 0, 0, 0]) (h8 : p [1, 4, 0, 0, 0]) (h9 : p [8, 0, 0, 0, 0]) : p (row k) := by
  unfold row
  repeat' split
  all_goals assumption
theorem row_field (k : Int) : ∀ i, i < 5 → 0 ≤ (row k).getD i 0 ∧ (row k).getD i 0 ≤ 8 := by
  refine row_cases (p := fun F => ∀ i, i < 5 → 0 ≤ F.getD i 0 ∧ F.getD i 0 ≤ 8) ?_ ?_ ?_ ?_ ?_ ?_ ?_ ?_ ?_ <;> decide
theorem row_zero (k : Int) : ∀ i, i < 5 → ∀ j, j < 5 → i ≤ j → (row k).getD i 0 = 0 → (row k).getD j 0 = 0 := by
  refine row_cases (p := fun F => ∀ i, i < 5 → ∀ j, j < 5 → i ≤ j → F.getD i 0 = 0 → F.getD j 0 = 0) ?_ ?_ ?_ ?_ ?_ ?_ ?_ ?_ ?_ <;> decide
theorem sel_take {m : Msg} {j : Nat} (hj : j ≤ 5) (h : j = 5 ∨ (row m.kd).getD j 0 = 0) : sel m ((row m.kd).take j) = only m := by
  have key : ∀ c : Int, c ≠ 0 → (c ∈ (row m.kd).take j ↔ c ∈ row m.kd) := by
    intro c hc
    constructor
    · exact fun h => List.mem_of_mem_take h
    · intro hm
      rcases h with rfl | h
      · rw [List.take_of_length_le (by rw [row_len]; omega)]; exact hm
      · obtain ⟨i, hi⟩ := List.getElem?_of_mem hm
        have hlt := (List.getElem?_eq_some_iff.1 hi).1
        rw [row_len] at hlt
        have hg : (row m.kd).getD i 0 = c := by rw [List.getD_eq_getElem?_getD, hi]; rfl
        by_cases hij : i < j
        · exact List.mem_of_getElem? (i := i) (by rw [List.getElem?_take, if_pos hij]; exact hi)
        · exfalso
          have := row_zero m.kd j (by omega) i (by omega) (by omega) h
          omega
  unfold only sel
  simp only [key 1 (by decide), key 2 (by decide), key 3 (by decide), key 4 (by decide), key 5 (by decide), key 6 (by decide), key 7 (by decide), key 8 (by decide)]
theorem take_next {F : List Int} {i : Nat} (h : i < F.length) : F.take (i + 1) = F.take i ++ [F.getD i 0] := by
  rw [List.take_add_one, List.getD_eq_getElem?_getD, List.getElem?_eq_getElem h]
  rfl
/-- The cell of a field. -/
def fl (m : Msg) (f : Nat) : Value := (mc m).getD f undefV
theorem mc_len (m : Msg) : (mc m).length = 9 := rfl
theorem sel_next {m : Msg} {G : List Int} {f : Nat} (h1 : 1 ≤ f) (h2 : f ≤ 8) : setAt (mc (sel m G)) f [fl m f] = mc (sel m (G ++ [(f : Int)])) := by
  have : f = 1 ∨ f = 2 ∨ f = 3 ∨ f = 4 ∨ f = 5 ∨ f = 6 ∨ f = 7 ∨ f = 8 := by omega
  rcases this with rfl | rfl | rfl | rfl | rfl | rfl | rfl | rfl <;> simp [sel, mc, fl, setAt, List.mem_append]

/-- The loop's body. -/
def oAsg : ICode := (.region [
     ⟨(some 4), .move (.tmp 11), none, [], true⟩])
def oBody : ICode := (.block 1 (.seq (.region [
     ⟨(some 12), .move (.tmp 4), none, [], true⟩])
   (.block 2 (.seq (.region [
     ⟨(some 14), .bin .eql (.tmp 12) (.const (.int .i64 1)), none, [], true⟩,
     ⟨(some 13), .move (.tmp 14), none, [], true⟩])
   (.cond (.tmp 13)
    (.region [
      ⟨(some 15), .fieldAddr 1 (.tmp 1), none, [], true⟩,
      ⟨(some 16), .load none (.tmp 15), none, [], true⟩,
      ⟨(some 17), .fieldAddr 1 (.tmp 3), none, [], true⟩,
      ⟨none, .store 1 (.tmp 17) (.tmp 16), none, [], true⟩])
    (.seq (.region [
      ⟨(some 19), .bin .eql (.tmp 12) (.const (.int .i64 2)), none, [], true⟩,
      ⟨(some 18), .move (.tmp 19), none, [], true⟩])
    (.cond (.tmp 18)
     (.region [
       ⟨(some 20), .fieldAddr 2 (.tmp 1), none, [], true⟩,
       ⟨(some 21), .load none (.tmp 20), none, [], true⟩,
       ⟨(some 22), .fieldAddr 2 (.tmp 3), none, [], true⟩,
       ⟨none, .store 1 (.tmp 22) (.tmp 21), none, [], true⟩])
     (.seq (.region [
       ⟨(some 24), .bin .eql (.tmp 12) (.const (.int .i64 3)), none, [], true⟩,
       ⟨(some 23), .move (.tmp 24), none, [], true⟩])
     (.cond (.tmp 23)
      (.region [
        ⟨(some 25), .fieldAddr 3 (.tmp 1), none, [], true⟩,
        ⟨(some 26), .load none (.tmp 25), none, [], true⟩,
        ⟨(some 27), .fieldAddr 3 (.tmp 3), none, [], true⟩,
        ⟨none, .store 1 (.tmp 27) (.tmp 26), none, [], true⟩])
      (.seq (.region [
        ⟨(some 29), .bin .eql (.tmp 12) (.const (.int .i64 4)), none, [], true⟩,
        ⟨(some 28), .move (.tmp 29), none, [], true⟩])
      (.cond (.tmp 28)
       (.region [
         ⟨(some 30), .fieldAddr 4 (.tmp 1), none, [], true⟩,
         ⟨(some 31), .load none (.tmp 30), none, [], true⟩,
         ⟨(some 32), .fieldAddr 4 (.tmp 3), none, [], true⟩,
         ⟨none, .store 1 (.tmp 32) (.tmp 31), none, [], true⟩])
       (.seq (.region [
         ⟨(some 34), .bin .eql (.tmp 12) (.const (.int .i64 5)), none, [], true⟩,
         ⟨(some 33), .move (.tmp 34), none, [], true⟩])
       (.cond (.tmp 33)
        (.region [
          ⟨(some 35), .fieldAddr 5 (.tmp 1), none, [], true⟩,
          ⟨(some 36), .load none (.tmp 35), none, [], true⟩,
          ⟨(some 37), .fieldAddr 5 (.tmp 3), none, [], true⟩,
          ⟨none, .store 1 (.tmp 37) (.tmp 36), none, [], true⟩])
        (.seq (.region [
          ⟨(some 39), .bin .eql (.tmp 12) (.const (.int .i64 6)), none, [], true⟩,
          ⟨(some 38), .move (.tmp 39), none, [], true⟩])
        (.cond (.tmp 38)
         (.region [
           ⟨(some 40), .fieldAddr 6 (.tmp 1), none, [], true⟩,
           ⟨(some 41), .load none (.tmp 40), none, [], true⟩,
           ⟨(some 42), .fieldAddr 6 (.tmp 3), none, [], true⟩,
           ⟨none, .store 1 (.tmp 42) (.tmp 41), none, [], true⟩])
         (.seq (.region [
           ⟨(some 44), .bin .eql (.tmp 12) (.const (.int .i64 7)), none, [], true⟩,
           ⟨(some 43), .move (.tmp 44), none, [], true⟩])
         (.cond (.tmp 43)
          (.region [
            ⟨(some 45), .fieldAddr 7 (.tmp 1), none, [], true⟩,
            ⟨(some 46), .load none (.tmp 45), none, [], true⟩,
            ⟨(some 47), .fieldAddr 7 (.tmp 3), none, [], true⟩,
            ⟨none, .store 1 (.tmp 47) (.tmp 46), none, [], true⟩])
          (.seq (.region [
            ⟨(some 49), .bin .eql (.tmp 12) (.const (.int .i64 8)), none, [], true⟩,
            ⟨(some 48), .move (.tmp 49), none, [], true⟩])
          (.cond (.tmp 48)
           (.region [
             ⟨(some 50), .fieldAddr 8 (.tmp 1), none, [], true⟩,
             ⟨(some 51), .load none (.tmp 50), none, [], true⟩,
             ⟨(some 52), .fieldAddr 8 (.tmp 3), none, [], true⟩,
             ⟨none, .store 1 (.tmp 52) (.tmp 51), none, [], true⟩])
           .skip)))))))))))))))))))
def oLoop (D : Nat) (tm : List Value) : ILoop := { state := .ready, pending := .normal, tmps := tm, params := [11], assign := oAsg, body := oBody, defers := D }
theorem oL_a (D : Nat) (tm : List Value) : (oLoop D tm).assign = oAsg := rfl
theorem oL_b (D : Nat) (tm : List Value) : (oLoop D tm).body = oBody := rfl
theorem oL_t (D : Nat) (tm : List Value) : (oLoop D tm).tmps = tm := rfl
theorem oL_p (D : Nat) (tm : List Value) : (oLoop D tm).params = [11] := rfl
theorem nc1 : ((1 : Nat) : Int) = 1 := rfl
theorem nc2 : ((2 : Nat) : Int) = 2 := rfl
theorem nc3 : ((3 : Nat) : Int) = 3 := rfl
theorem nc4 : ((4 : Nat) : Int) = 4 := rfl
theorem nc5 : ((5 : Nat) : Int) = 5 := rfl
theorem nc6 : ((6 : Nat) : Int) = 6 := rfl
theorem nc7 : ((7 : Nat) : Int) = 7 := rfl
theorem nc8 : ((8 : Nat) : Int) = 8 := rfl
section
variable {ro : Nat → Option (List Value × Nat)} {h : Heap} {R : List Rs} {m : Msg}
theorem oneC_slice {p : Option Addr} {a b : Nat} : cellsOf (.slice p a b) = [.slice p a b] := rfl
theorem rd1 {h : Heap} {mb : Nat} {m : Msg} {t : Bool} {f : Nat} (hf : f ≤ 8) (g : h.get mb = some (.cells (mc m) 1 t)) : readC (h.get mb) f 1 = some [fl m f] := by
  rw [g, readC_cells]
  have : f = 0 ∨ f = 1 ∨ f = 2 ∨ f = 3 ∨ f = 4 ∨ f = 5 ∨ f = 6 ∨ f = 7 ∨ f = 8 := by omega
  rcases this with rfl | rfl | rfl | rfl | rfl | rfl | rfl | rfl | rfl <;> rfl
theorem fl_cells {m : Msg} {p : Option Addr} {a b : Nat} (hc : m.cl = .slice p a b) {f : Nat} (hf : f ≤ 8) : cellsOf (fl m f) = [fl m f] ∧ oneCell (fl m f) = true := by
  have : f = 0 ∨ f = 1 ∨ f = 2 ∨ f = 3 ∨ f = 4 ∨ f = 5 ∨ f = 6 ∨ f = 7 ∨ f = 8 := by omega
  rcases this with rfl | rfl | rfl | rfl | rfl | rfl | rfl | rfl | rfl
  case inr.inr.inr.inr.inr.inr.inr.inr => exact ⟨by simp only [fl, mc, List.getD_cons_succ, List.getD_cons_zero, hc]; rfl, by simp only [fl, mc, List.getD_cons_succ, List.getD_cons_zero, hc]; rfl⟩
  all_goals exact ⟨rfl, rfl⟩

theorem only_y {k D lb mb ob f : Nat} {G : List Int} {p : Option Addr} {a b : Nat} {tl : List Value} (htl : tl.length = 54) (ht1 : tl.getD 1 undefV = .pointer (some ⟨mb, 0, none⟩)) (ht3 : tl.getD 3 undefV = .pointer (some ⟨ob, 0, none⟩)) (hf1 : 1 ≤ f) (hf2 : f ≤ 8) (hc : m.cl = .slice p a b)
    (O : Has ro h (Ob lb (.loop (oLoop D tl)) :: Ob mb (.cells (mc m) 1 false) :: Ob ob (.cells (mc (sel m G)) 1 false) :: R)) :
    (callV env (k + 1) (.func (.yield lb) #[] #[]) [.int .i64 (f : Int)] h).Is fun q => q.1 = .bool true ∧ Has ro q.2 (Ob lb (.loop (oLoop D tl)) :: Ob mb (.cells (mc m) 1 false) :: Ob ob (.cells (mc (sel m (G ++ [(f : Int)]))) 1 false) :: R) := by
  rw [callV_yield]
  obtain ⟨g, hg_, rfl⟩ := explode htl
  rw [hg_] at ht1 ht3
  clear htl hg_
  have ht1' : g 1 = .pointer (some ⟨mb, 0, none⟩) := ht1
  have ht3' : g 3 = .pointer (some ⟨ob, 0, none⟩) := ht3
  clear ht1 ht3
  simp only [expand_succ, expand_zero, Nat.reduceAdd, ht1', ht3'] at O ⊢
  refine round_isO O rfl rfl ?_
  simp (disch := first | assumption | omega | (simp only [wkD, oneCell, Option.isSome_some, *]; done) | (simp only [wkE, ne_eq]; omega)) only [oL_a, oL_t, oL_p, oAsg, List.nil_append, wkF, X_region, X_seq, X_block, X_loop, X_cond, Y_box, Y_un, Y_store, Y_append, Y_makeMap, Y_buildSlice, ibin_shl, ibin_shr, ibin_and, ↓reduceIte, reduceCtorEq, oneCell, setAt, readN, Nat.reduceAdd, Nat.reduceLeDiff, Nat.reduceMul, layAt, Nat.reduceLT, Nat.reduceEqDiff, setParams, Int.reduceLT, Int.reduceLE, Int.reduceGT, Int.reduceGE, Int.reduceEq, Int.reduceNe]
  refine Is_in ⟨rfl, _, O, fun h3 O3 => ?_⟩
  have gM := O3.get 1 rfl
  have gO := O3.get 2 rfl
  have pO := O3.can 2 rfl
  have hr := rd1 hf2 gM
  obtain ⟨hc1, hc2⟩ := fl_cells hc hf2
  have hn := sel_next (m := m) (G := G) hf1 hf2
  have OS := O3.set 2 rfl (.cells (mc (sel m (G ++ [(f : Int)]))) 1 false)
  simp only [List.set_cons_succ, List.set_cons_zero] at OS
  generalize fl m f = u at hr hc1 hc2 hn
  have : f = 1 ∨ f = 2 ∨ f = 3 ∨ f = 4 ∨ f = 5 ∨ f = 6 ∨ f = 7 ∨ f = 8 := by omega
  generalize hX : mc (sel m (G ++ [(f : Int)])) = X at hn OS ⊢
  rcases this with rfl | rfl | rfl | rfl | rfl | rfl | rfl | rfl
  all_goals
    simp (disch := first | assumption | omega | (simp only [wkD, oneCell, Option.isSome_some, *]; done) | (simp only [wkE, ne_eq]; omega)) only [oL_b, oBody, hr, hc1, hc2, gO, pO, hn, mc_len, nc1, nc2, nc3, nc4, nc5, nc6, nc7, nc8, wkF, X_region, X_seq, X_block, X_loop, X_cond, Y_box, Y_un, Y_store, Y_append, Y_makeMap, Y_buildSlice, ibin_shl, ibin_shr, ibin_and, ↓reduceIte, reduceCtorEq, readN, Nat.reduceAdd, Nat.reduceLeDiff, Nat.reduceMul, layAt, Nat.reduceLT, Nat.reduceEqDiff, setParams, Int.reduceLT, Int.reduceLE, Int.reduceGT, Int.reduceGE, Int.reduceEq, Int.reduceNe]
    exact Is_in ⟨_, _, OS, fun h5 O5 => ⟨rfl, O5⟩⟩
end
end Go.Proofs.YtpodmgbnldmlcaaDoor
