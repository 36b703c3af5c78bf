/-
  A message's fields taken from the bytes that are left, one after another.
-/
import Derived.Test.YtpodmgbnldmlcaaDoorFk
import Derived.Test.YtpodmgbnldmlcaaDoorTak
namespace Go.Proofs.YtpodmgbnldmlcaaDoor
open Go Go.Ideal Go.ChangeShapes Go.RowKit
set_option maxHeartbeats 0
set_option linter.unusedSimpArgs false
set_option linter.unusedVariables false
set_option maxRecDepth 100000
attribute [local irreducible] callV T.All T.Is run
abbrev Stt := List Nat × Bool
def clS : Nat → List Cl × Stt → List Cl × Stt
  | 0, x => x
  | n + 1, x => ((clS n x).1 ++ [⟨((tk 2 (clS n x).2).1 : Int), (tk 4 (tk 2 (clS n x).2).2).1⟩], (tk 4 (tk 2 (clS n x).2).2).2)
/-- A field is taken. -/
def fldS (f : Int) (x : Msg × List Cl × Stt) : Msg × List Cl × Stt :=
  if f = 1 then ({ x.1 with cell := ((tk 2 x.2.2).1 : Int) }, x.2.1, (tk 2 x.2.2).2)
  else if f = 2 then ({ x.1 with gen := (tk 4 x.2.2).1 }, x.2.1, (tk 4 x.2.2).2)
  else if f = 3 then ({ x.1 with stamp := (tk 8 x.2.2).1 }, x.2.1, (tk 8 x.2.2).2)
  else if f = 4 then ({ x.1 with prio := ((tk 1 x.2.2).1 : Int) }, x.2.1, (tk 1 x.2.2).2)
  else if f = 5 then ({ x.1 with hops := ((tk 1 x.2.2).1 : Int) }, x.2.1, (tk 1 x.2.2).2)
  else if f = 6 then ({ x.1 with orig := ((tk 1 x.2.2).1 : Int) }, x.2.1, (tk 1 x.2.2).2)
  else if f = 7 then ({ x.1 with oth := IntKind.i8.wrap ((tk 1 x.2.2).1 : Int) }, x.2.1, (tk 1 x.2.2).2)
  else if f = 8 then (x.1, clS (tk 1 x.2.2).1 (x.2.1, (tk 1 x.2.2).2))
  else x
theorem tk_lt {k : Nat} {s : Stt} (hs : ∀ b ∈ s.1, b < 256) : (tk k s).1 < 256 ^ k := by
  unfold tk
  split
  · rename_i h
    have := nb_lt (s.1.take k) 0 fun b hb => hs b (List.mem_of_mem_take hb)
    rw [List.length_take, Nat.min_eq_left h.2] at this
    show nb 0 (s.1.take k) < _
    omega
  · exact Nat.pow_pos (by omega)
theorem tk_sub {k : Nat} {s : Stt} : ∀ b ∈ (tk k s).2.1, b ∈ s.1 := by
  unfold tk
  split
  · exact fun b hb => List.mem_of_mem_drop hb
  · exact fun b hb => hb
theorem tk_by {k : Nat} {s : Stt} (hs : ∀ b ∈ s.1, b < 256) : ∀ b ∈ (tk k s).2.1, b < 256 := fun b hb => hs b (tk_sub b hb)
theorem tk_len {k : Nat} {s : Stt} : (tk k s).2.1.length ≤ s.1.length := by
  unfold tk
  split
  · show (s.1.drop k).length ≤ _
    rw [List.length_drop]; omega
  · exact Nat.le_refl _
theorem clS_by : ∀ {n : Nat} {x : List Cl × Stt}, (∀ b ∈ x.2.1, b < 256) → ∀ b ∈ (clS n x).2.1, b < 256
  | 0, _, h => h
  | n + 1, x, h => tk_by (tk_by (clS_by (n := n) h))
theorem clS_len : ∀ {n : Nat} {x : List Cl × Stt}, (clS n x).2.1.length ≤ x.2.1.length
  | 0, _ => Nat.le_refl _
  | n + 1, x => Nat.le_trans tk_len (Nat.le_trans tk_len (clS_len (n := n)))
theorem clS_cl : ∀ {n : Nat} {x : List Cl × Stt}, (clS n x).1.length = x.1.length + n
  | 0, _ => rfl
  | n + 1, x => by
    show ((clS n x).1 ++ [_]).length = _
    rw [List.length_append, clS_cl (n := n)]; rfl
theorem i8_rng (x : Int) : -128 ≤ IntKind.i8.wrap x ∧ IntKind.i8.wrap x ≤ 127 := by
  simp only [IntKind.wrap, IntKind.bits, IntKind.signed, Bool.true_and, Nat.reduceSub, Int.reducePow]
  split
  · rename_i h
    have := of_decide_eq_true h
    omega
  · rename_i h
    simp only [ge_iff_le, decide_eq_true_eq, Int.not_le] at h
    omega
theorem u32_of {x : Nat} (h : x < 4294967296) : IntKind.u32.wrap (x : Int) = (x : Int) := by
  simp only [IntKind.wrap, IntKind.bits, IntKind.signed, Bool.false_and, Int.reducePow, Bool.false_eq_true, ↓reduceIte]
  omega
def gAsg : ICode := (.region [
     ⟨(some 6), .move (.tmp 11), none, [], true⟩])
def gBody : ICode := (.block 1 (.seq (.region [
     ⟨(some 12), .move (.tmp 6), none, [], true⟩])
   (.block 2 (.seq (.region [
     ⟨(some 14), .bin .eql (.tmp 12) (.const (.int .i64 1)), none, [], true⟩,
     ⟨(some 13), .move (.tmp 14), none, [], true⟩])
   (.cond (.tmp 13)
    (.region [
      ⟨(some 15), .load none (.tmp 3), none, [], true⟩,
      ⟨(some 16), .call (.tmp 15) [(.const (.int .i64 2))], none, [], true⟩,
      ⟨(some 17), .conv .i64 (.tmp 16), none, [], true⟩,
      ⟨(some 18), .fieldAddr 1 (.tmp 5), none, [], true⟩,
      ⟨none, .store 1 (.tmp 18) (.tmp 17), none, [], true⟩])
    (.seq (.region [
      ⟨(some 20), .bin .eql (.tmp 12) (.const (.int .i64 2)), none, [], true⟩,
      ⟨(some 19), .move (.tmp 20), none, [], true⟩])
    (.cond (.tmp 19)
     (.region [
       ⟨(some 21), .load none (.tmp 3), none, [], true⟩,
       ⟨(some 22), .call (.tmp 21) [(.const (.int .i64 4))], none, [], true⟩,
       ⟨(some 23), .conv .u32 (.tmp 22), none, [], true⟩,
       ⟨(some 24), .fieldAddr 2 (.tmp 5), none, [], true⟩,
       ⟨none, .store 1 (.tmp 24) (.tmp 23), none, [], true⟩])
     (.seq (.region [
       ⟨(some 26), .bin .eql (.tmp 12) (.const (.int .i64 3)), none, [], true⟩,
       ⟨(some 25), .move (.tmp 26), none, [], true⟩])
     (.cond (.tmp 25)
      (.region [
        ⟨(some 27), .load none (.tmp 3), none, [], true⟩,
        ⟨(some 28), .call (.tmp 27) [(.const (.int .i64 8))], none, [], true⟩,
        ⟨(some 29), .fieldAddr 3 (.tmp 5), none, [], true⟩,
        ⟨none, .store 1 (.tmp 29) (.tmp 28), none, [], true⟩])
      (.seq (.region [
        ⟨(some 31), .bin .eql (.tmp 12) (.const (.int .i64 4)), none, [], true⟩,
        ⟨(some 30), .move (.tmp 31), none, [], true⟩])
      (.cond (.tmp 30)
       (.region [
         ⟨(some 32), .load none (.tmp 3), none, [], true⟩,
         ⟨(some 33), .call (.tmp 32) [(.const (.int .i64 1))], none, [], true⟩,
         ⟨(some 34), .conv .i64 (.tmp 33), none, [], true⟩,
         ⟨(some 35), .fieldAddr 4 (.tmp 5), none, [], true⟩,
         ⟨none, .store 1 (.tmp 35) (.tmp 34), none, [], true⟩])
       (.seq (.region [
         ⟨(some 37), .bin .eql (.tmp 12) (.const (.int .i64 5)), none, [], true⟩,
         ⟨(some 36), .move (.tmp 37), none, [], true⟩])
       (.cond (.tmp 36)
        (.region [
          ⟨(some 38), .load none (.tmp 3), none, [], true⟩,
          ⟨(some 39), .call (.tmp 38) [(.const (.int .i64 1))], none, [], true⟩,
          ⟨(some 40), .conv .i64 (.tmp 39), none, [], true⟩,
          ⟨(some 41), .fieldAddr 5 (.tmp 5), none, [], true⟩,
          ⟨none, .store 1 (.tmp 41) (.tmp 40), none, [], true⟩])
        (.seq (.region [
          ⟨(some 43), .bin .eql (.tmp 12) (.const (.int .i64 6)), none, [], true⟩,
          ⟨(some 42), .move (.tmp 43), none, [], true⟩])
        (.cond (.tmp 42)
         (.region [
           ⟨(some 44), .load none (.tmp 3), none, [], true⟩,
           ⟨(some 45), .call (.tmp 44) [(.const (.int .i64 1))], none, [], true⟩,
           ⟨(some 46), .conv .i64 (.tmp 45), none, [], true⟩,
           ⟨(some 47), .fieldAddr 6 (.tmp 5), none, [], true⟩,
           ⟨none, .store 1 (.tmp 47) (.tmp 46), none, [], true⟩])
         (.seq (.region [
           ⟨(some 49), .bin .eql (.tmp 12) (.const (.int .i64 7)), none, [], true⟩,
           ⟨(some 48), .move (.tmp 49), none, [], true⟩])
         (.cond (.tmp 48)
          (.region [
            ⟨(some 50), .load none (.tmp 3), none, [], true⟩,
            ⟨(some 51), .call (.tmp 50) [(.const (.int .i64 1))], none, [], true⟩,
            ⟨(some 52), .conv .i8 (.tmp 51), none, [], true⟩,
            ⟨(some 53), .conv .i64 (.tmp 52), none, [], true⟩,
            ⟨(some 54), .fieldAddr 7 (.tmp 5), none, [], true⟩,
            ⟨none, .store 1 (.tmp 54) (.tmp 53), none, [], true⟩])
          (.seq (.region [
            ⟨(some 56), .bin .eql (.tmp 12) (.const (.int .i64 8)), none, [], true⟩,
            ⟨(some 55), .move (.tmp 56), none, [], true⟩])
          (.cond (.tmp 55)
           (.seq (.region [
             ⟨(some 57), .load none (.tmp 3), none, [], true⟩,
             ⟨(some 58), .call (.tmp 57) [(.const (.int .i64 1))], none, [], true⟩,
             ⟨(some 59), .move (.const (.int .u64 0)), none, [], true⟩])
           (.block 3 (.loop (.seq (.region [
             ⟨(some 60), .bin .lss (.tmp 59) (.tmp 58), none, [], true⟩])
           (.seq (.cond (.tmp 60)
            .skip
            (.exit 3))
           (.seq (.block 4 (.drawn [
             ⟨(some 61), .fieldAddr 8 (.tmp 5), none, [], false⟩,
             ⟨(some 62), .load none (.tmp 61), none, [0], false⟩,
             ⟨(some 63), .load none (.tmp 3), none, [], false⟩,
             ⟨(some 64), .call (.tmp 63) [(.const (.int .i64 2))], none, [2], false⟩,
             ⟨(some 65), .conv .i64 (.tmp 64), none, [3, 2], false⟩,
             ⟨(some 66), .load none (.tmp 3), none, [], false⟩,
             ⟨(some 67), .call (.tmp 66) [(.const (.int .i64 4))], none, [5, 3, 2], false⟩,
             ⟨(some 68), .conv .u32 (.tmp 67), none, [6, 5, 3, 2], false⟩,
             ⟨(some 69), .build [(.int .i64 0), (.int .u32 0)] [(0, 1, (.tmp 65)), (1, 1, (.tmp 68))], none, [4, 7, 3, 2, 6, 5], false⟩,
             ⟨(some 70), .buildSlice 2 1 [(.int .i64 0), (.int .u32 0)] [(0, (.tmp 69))], none, [8, 4, 7, 3, 2, 6, 5], false⟩,
             ⟨(some 71), .append 2 16 (.tmp 62) (.tmp 70), none, [1, 9, 6, 0, 8, 4, 7, 3, 2, 5], true⟩,
             ⟨(some 72), .fieldAddr 8 (.tmp 5), none, [0, 1, 2, 3, 4, 5, 6, 7, 8, 9, 10], true⟩,
             ⟨none, .store 1 (.tmp 72) (.tmp 71), none, [11, 10, 0, 1, 2, 3, 4, 5, 6, 7, 8, 9], true⟩]))
           (.region [
             ⟨(some 73), .bin .add (.tmp 59) (.const (.int .u64 1)), none, [], true⟩,
             ⟨(some 59), .move (.tmp 73), none, [], true⟩])))))))
           .skip)))))))))))))))))))
def gLoop (D : Nat) (tm : List Value) : ILoop := { state := .ready, pending := .normal, tmps := tm, params := [11], assign := gAsg, body := gBody, defers := D }
/-- A message in its box, with its claims. -/
def Mx (mb : Nat) (m : Msg) (l : List Cl) : Rs := Rs.ex fun v => Rs.star (Ob mb (.cells (mc { m with cl := v }) 1 false)) (Sc 2 cc v l)
section
variable {ro : Nat → Option (List Value × Nat)} {h : Heap} {R : List Rs} {m : Msg} {l : List Cl} {s : Stt}
theorem Has.mx {mb : Nat} : Has ro h (Mx mb m l :: R) ↔ ∃ v, Has ro h (Ob mb (.cells (mc { m with cl := v }) 1 false) :: Sc 2 cc v l :: R) := by
  unfold Mx
  rw [Has.ex]
  constructor
  · rintro ⟨v, O⟩; exact ⟨v, Has.star.1 O⟩
  · rintro ⟨v, O⟩; exact ⟨v, Has.star.2 O⟩
theorem tk_plan {x y fb lb : Nat} {ox oy : IObj} (O : Has ro h (Ob x ox :: Ob y oy :: Tk fb lb s :: R)) :
    ∃ bs : List Nat, (∀ S, (Tk fb lb s).is h S → Gd h S → ∀ b, S b → b / 2 ∈ bs) ∧ x / 2 ∉ bs ∧ y / 2 ∉ bs := by
  obtain ⟨pre, v, O2⟩ := Has.tk.1 (O.at 2 rfl)
  replace O2 : Has ro h (Ob fb (.cells [.bool s.2] 1 false) :: Ob lb (.cells [sub v pre.length] 1 false) :: Sc 1 bc v (pre ++ s.1) :: Ob x ox :: Ob y oy :: R) := O2
  have gl := O2.get 1 rfl
  have key : ∀ S, (Tk fb lb s).is h S → ∃ (pre' : List Nat) (v' : Value) (T : Nat → Prop), (∀ b, S b → b = fb ∨ b = lb ∨ T b) ∧ (Sc 1 bc v' (pre' ++ s.1)).is h T ∧ sub v' pre'.length = sub v pre.length := by
    rintro S ⟨⟨pre', v'⟩, hs⟩
    obtain ⟨T1, T2, t1, -, ⟨a1, a2⟩, hs2⟩ := star_is.1 hs
    obtain ⟨T3, T4, t3, -, ⟨b1, b2⟩, hs4⟩ := star_is.1 hs2
    rw [gl] at b2
    have e : sub v pre.length = sub v' pre'.length := by injection b2 with e1; injection e1 with e2; injection e2
    refine ⟨pre', v', T4, fun b hb => ?_, hs4, e.symm⟩
    rcases (t1 b).1 hb with h1 | h1
    · exact Or.inl ((a1 b).1 h1)
    · rcases (t3 b).1 h1 with h2 | h2
      · exact Or.inr (Or.inl ((b1 b).1 h2))
      · exact Or.inr (Or.inr h2)
  have pf := (O2.info (i := 0) rfl).2.1
  have pl := (O2.info (i := 1) rfl).2.1
  have px := (O2.info (i := 3) rfl).2.1
  have py := (O2.info (i := 4) rfl).2.1
  have n1 := Has.ne O2 0 3 (by omega) rfl rfl
  have n2 := Has.ne O2 1 3 (by omega) rfl rfl
  have n3 := Has.ne O2 0 4 (by omega) rfl rfl
  have n4 := Has.ne O2 1 4 (by omega) rfl rfl
  rcases (O2.at 2 rfl).scOpen with ⟨hl, rfl, _⟩ | ⟨b, c, rest, sp, zz, tt, b1, b2, b3, b4, O3⟩
  · refine ⟨[fb / 2, lb / 2], fun S hS _ b hb => ?_, by simp only [List.mem_cons, List.not_mem_nil, or_false, not_or]; omega, by simp only [List.mem_cons, List.not_mem_nil, or_false, not_or]; omega⟩
    obtain ⟨pre', v', T, k1, k2, k3⟩ := key S hS
    rcases k1 b hb with rfl | rfl | hb
    · simp
    · simp
    · rcases k2 with ⟨_, _, n⟩ | ⟨b', c', rest', sp', zz', t', e, _⟩
      · exact absurd hb (n b)
      · rw [e] at k3
        cases k3
  · have pb := (O3.info (i := 0) rfl).2.1
    have n5 := Has.ne O3 0 3 (by omega) rfl rfl
    have n6 := Has.ne O3 0 4 (by omega) rfl rfl
    refine ⟨[fb / 2, lb / 2, b / 2], fun S hS _ x hb => ?_, by simp only [List.mem_cons, List.not_mem_nil, or_false, not_or]; omega, by simp only [List.mem_cons, List.not_mem_nil, or_false, not_or]; omega⟩
    obtain ⟨pre', v', T, k1, k2, k3⟩ := key S hS
    rcases k1 x hb with rfl | rfl | hb
    · simp
    · simp
    · rcases k2 with ⟨_, _, n⟩ | ⟨b', c', rest', sp', zz', t', e, q2, _⟩
      · exact absurd hb (n x)
      · rw [e, b1] at k3
        simp only [sub, Value.slice.injEq, Option.some.injEq, Addr.mk.injEq] at k3
        rw [(q2 x).1 hb, k3.1.1]
        simp
theorem plan36a {bs ct : List Nat} : ∀ k, k ≠ 3 → k ≠ 6 → ([[], [], [], bs, [], [], ct] : List (List Nat)).getD k [] = []
  | 0, _, _ => rfl
  | 1, _, _ => rfl
  | 2, _, _ => rfl
  | 3, h, _ => absurd rfl h
  | 4, _, _ => rfl
  | 5, _, _ => rfl
  | 6, _, h => absurd rfl h
  | k + 7, _, _ => rfl
theorem plan36b {bs ct : List Nat} (k : Nat) (h : k ≠ 6) (h2 : k ≠ 3) : ([[], [], [], bs, [], [], ct] : List (List Nat)).getD k [] = [] := plan36a k h2 h
theorem notin36 {bs ct : List Nat} {x : Nat} (h : x ∉ bs) (h2 : x ∉ ct) (k : Nat) : x ∉ ([[], [], [], bs, [], [], ct] : List (List Nat)).getD k [] := by
  by_cases e : k = 3
  · subst e; exact h
  · by_cases e2 : k = 6
    · subst e2; exact h2
    · rw [plan36a k e e2]; simp
theorem seen_anc {asx plan : List (List Nat)} {i : Nat} {fr : List (Nat × Nat × Nat)} (hf : ∀ x ∈ fr, (asx.getD i []).contains x.1 = true) : seenBy asx plan i fr h = seenBy asx plan i [] h := by
  have e : (fr.filter fun x => !(asx.getD i []).contains x.1) = [] := by
    rw [List.filter_eq_nil_iff]
    intro x hx
    rw [hf x hx]
    simp
  unfold seenBy
  rw [e]
  rfl
theorem msg_y1 {k D lp0 mb cb fb lb : Nat} {tl : List Value} (htl : tl.length = 75) (ht3 : tl.getD 3 undefV = .pointer (some ⟨cb, 0, none⟩)) (ht5 : tl.getD 5 undefV = .pointer (some ⟨mb, 0, none⟩)) (hk : 400 < k) (hs : ∀ b ∈ s.1, b < 256) (hsl : s.1.length ≤ 2000) (hl : l.length ≤ 5000)
    (O : Has ro h (Ob lp0 (.loop (gLoop D tl)) :: Mx mb m l :: Ob cb (.cells [.func (.func 33) #[] #[.pointer (some ⟨fb, 0, none⟩), .pointer (some ⟨lb, 0, none⟩)]] 1 false) :: Tk fb lb s :: R)) :
    (callV env (k + 1) (.func (.yield lp0) #[] #[]) [.int .i64 1] h).Is fun q => q.1 = .bool true ∧ Has ro q.2 (Ob lp0 (.loop (gLoop D tl)) :: Mx mb (fldS 1 (m, l, s)).1 (fldS 1 (m, l, s)).2.1 :: Ob cb (.cells [.func (.func 33) #[] #[.pointer (some ⟨fb, 0, none⟩), .pointer (some ⟨lb, 0, none⟩)]] 1 false) :: Tk fb lb (fldS 1 (m, l, s)).2.2 :: R) := by
  obtain ⟨k, rfl⟩ : ∃ j, k = j + 1 := ⟨k - 1, by omega⟩
  rw [callV_yield]
  obtain ⟨lp, hlp⟩ : ∃ lp, lp = gLoop D tl := ⟨_, rfl⟩
  rw [← hlp] at O ⊢
  have l1 : lp.assign = gAsg := by rw [hlp]; rfl
  have l2 : lp.body = gBody := by rw [hlp]; rfl
  have l3 : lp.params = [11] := by rw [hlp]; rfl
  have l4 : lp.tmps = tl := by rw [hlp]; rfl
  obtain ⟨lq, hB⟩ : ∃ B : ILoop, B = { lp with state := .busy } := ⟨_, rfl⟩
  have l5 : ({ lq with state := .ready, pending := .normal } : ILoop) = lp := by rw [hB, hlp]; rfl
  have l6 : lp.state = .ready := by rw [hlp]; rfl
  clear hlp
  obtain ⟨g, hg_, htl⟩ := explode htl
  rw [hg_] at ht3 ht5
  clear hg_
  have ht3' : g 3 = .pointer (some ⟨cb, 0, none⟩) := ht3
  have ht5' : g 5 = .pointer (some ⟨mb, 0, none⟩) := ht5
  clear ht3 ht5
  simp only [expand_succ, expand_zero, Nat.reduceAdd, ht3', ht5'] at htl
  obtain ⟨v, OV⟩ := Has.mx.1 (O.at 1 rfl)
  replace OV : Has ro h (Ob lp0 (.loop lp) :: Ob mb (.cells (mc { m with cl := v }) 1 false) :: Sc 2 cc v l :: Ob cb (.cells [.func (.func 33) #[] #[.pointer (some ⟨fb, 0, none⟩), .pointer (some ⟨lb, 0, none⟩)]] 1 false) :: Tk fb lb s :: R) := OV.at 2 rfl
  clear O
  refine round_isO OV (by rw [l3]; rfl) l6 ?_
  rw [← hB]
  clear hB
  simp (disch := first | assumption | omega | (simp only [wkD, oneCell, Option.isSome_some, *]; done) | (simp only [wkE, ne_eq]; omega)) only [l1, l3, l4, htl, gAsg, List.nil_append, wkF, X_region, X_seq, X_block, X_loop, X_cond, Y_box, Y_un, Y_store, Y_append, Y_makeMap, Y_buildSlice, ibin_shl, ibin_shr, ibin_and, ↓reduceIte, reduceCtorEq, oneCell, setAt, readN, Nat.reduceAdd, Nat.reduceLeDiff, Nat.reduceMul, layAt, Nat.reduceLT, Nat.reduceEqDiff, setParams, Int.reduceLT, Int.reduceLE, Int.reduceGT, Int.reduceGE, Int.reduceEq, Int.reduceNe]
  refine Is_in ⟨rfl, _, OV, fun h3 O3 => ?_⟩
  clear htl l4 OV
  have gC : readC (h3.get cb) 0 1 = some [.func (.func 33) #[] #[.pointer (some ⟨fb, 0, none⟩), .pointer (some ⟨lb, 0, none⟩)]] := by rw [O3.get 3 rfl]; rfl
  have hv := tk_lt (k := 2) hs
  simp only [Nat.reducePow] at hv
  have wu : IntKind.i64.wrap ((tk 2 s).1 : Int) = ((tk 2 s).1 : Int) := wrap_i64 (by omega) (by omega)
  simp (disch := first | assumption | omega | (simp only [wkD, oneCell, Option.isSome_some, *]; done) | (simp only [wkE, ne_eq]; omega)) only [l2, gBody, gC, wkF, X_region, X_seq, X_block, X_loop, X_cond, Y_box, Y_un, Y_store, Y_append, Y_makeMap, Y_buildSlice, ibin_shl, ibin_shr, ibin_and, ↓reduceIte, reduceCtorEq, oneCell, setAt, readN, Nat.reduceAdd, Nat.reduceLeDiff, Nat.reduceMul, layAt, Nat.reduceLT, Nat.reduceEqDiff, setParams, Int.reduceLT, Int.reduceLE, Int.reduceGT, Int.reduceGE, Int.reduceEq, Int.reduceNe]
  refine Z_is (take_h (n := k) (k := 2) (by omega) (by omega) (by omega) (by omega) hs (O3.at 4 rfl)) ?_
  rintro w h4 ⟨rfl, O4⟩
  replace O4 : Has ro h4 (Tk fb lb (tk 2 s).2 :: Ob lp0 (.loop lq) :: Ob mb (.cells (mc { m with cl := v }) 1 false) :: Sc 2 cc v l :: Ob cb (.cells [.func (.func 33) #[] #[.pointer (some ⟨fb, 0, none⟩), .pointer (some ⟨lb, 0, none⟩)]] 1 false) :: R) := O4
  have g4 := O4.get 2 rfl
  have p4 := O4.can 2 rfl
  have O5 := O4.set 2 rfl (.cells (mc { m with cell := ((tk 2 s).1 : Int), cl := v }) 1 false)
  replace O5 : Has ro _ (Tk fb lb (tk 2 s).2 :: Ob lp0 (.loop lq) :: Ob mb (.cells (mc { m with cell := ((tk 2 s).1 : Int), cl := v }) 1 false) :: Sc 2 cc v l :: Ob cb (.cells [.func (.func 33) #[] #[.pointer (some ⟨fb, 0, none⟩), .pointer (some ⟨lb, 0, none⟩)]] 1 false) :: R) := O5
  have hst : setAt (mc { m with cl := v }) 1 [.int .i64 ((tk 2 s).1 : Int)] = mc { m with cell := ((tk 2 s).1 : Int), cl := v } := by simp [setAt, mc]
  simp (disch := first | assumption | omega | (simp only [wkD, oneCell, Option.isSome_some, *]; done) | (simp only [wkE, ne_eq]; omega)) only [wu, g4, p4, hst, mc_len, wkF, X_region, X_seq, X_block, X_loop, X_cond, Y_box, Y_un, Y_store, Y_append, Y_makeMap, Y_buildSlice, ibin_shl, ibin_shr, ibin_and, ↓reduceIte, reduceCtorEq, oneCell, readN, Nat.reduceAdd, Nat.reduceLeDiff, Nat.reduceMul, layAt, Nat.reduceLT, Nat.reduceEqDiff, setParams, Int.reduceLT, Int.reduceLE, Int.reduceGT, Int.reduceGE, Int.reduceEq, Int.reduceNe]
  have O6 : Has ro _ (Mx mb { m with cell := ((tk 2 s).1 : Int) } l :: Tk fb lb (tk 2 s).2 :: Ob lp0 (.loop lq) :: Ob cb (.cells [.func (.func 33) #[] #[.pointer (some ⟨fb, 0, none⟩), .pointer (some ⟨lb, 0, none⟩)]] 1 false) :: R) := Has.mx.2 ⟨v, (O5.at 3 rfl).at 3 rfl⟩
  refine Is_in ⟨_, _, O6.at 2 rfl, fun h7 O7 => ⟨rfl, ?_⟩⟩
  replace O7 : Has ro h7 (Ob lp0 (.loop { lq with state := .ready, pending := .normal }) :: Mx mb { m with cell := ((tk 2 s).1 : Int) } l :: Tk fb lb (tk 2 s).2 :: Ob cb (.cells [.func (.func 33) #[] #[.pointer (some ⟨fb, 0, none⟩), .pointer (some ⟨lb, 0, none⟩)]] 1 false) :: R) := O7
  rw [l5] at O7
  exact (O7.at 3 rfl).at 2 rfl |>.at 2 rfl
theorem msg_y2 {k D lp0 mb cb fb lb : Nat} {tl : List Value} (htl : tl.length = 75) (ht3 : tl.getD 3 undefV = .pointer (some ⟨cb, 0, none⟩)) (ht5 : tl.getD 5 undefV = .pointer (some ⟨mb, 0, none⟩)) (hk : 400 < k) (hs : ∀ b ∈ s.1, b < 256) (hsl : s.1.length ≤ 2000) (hl : l.length ≤ 5000)
    (O : Has ro h (Ob lp0 (.loop (gLoop D tl)) :: Mx mb m l :: Ob cb (.cells [.func (.func 33) #[] #[.pointer (some ⟨fb, 0, none⟩), .pointer (some ⟨lb, 0, none⟩)]] 1 false) :: Tk fb lb s :: R)) :
    (callV env (k + 1) (.func (.yield lp0) #[] #[]) [.int .i64 2] h).Is fun q => q.1 = .bool true ∧ Has ro q.2 (Ob lp0 (.loop (gLoop D tl)) :: Mx mb (fldS 2 (m, l, s)).1 (fldS 2 (m, l, s)).2.1 :: Ob cb (.cells [.func (.func 33) #[] #[.pointer (some ⟨fb, 0, none⟩), .pointer (some ⟨lb, 0, none⟩)]] 1 false) :: Tk fb lb (fldS 2 (m, l, s)).2.2 :: R) := by
  obtain ⟨k, rfl⟩ : ∃ j, k = j + 1 := ⟨k - 1, by omega⟩
  rw [callV_yield]
  obtain ⟨lp, hlp⟩ : ∃ lp, lp = gLoop D tl := ⟨_, rfl⟩
  rw [← hlp] at O ⊢
  have l1 : lp.assign = gAsg := by rw [hlp]; rfl
  have l2 : lp.body = gBody := by rw [hlp]; rfl
  have l3 : lp.params = [11] := by rw [hlp]; rfl
  have l4 : lp.tmps = tl := by rw [hlp]; rfl
  obtain ⟨lq, hB⟩ : ∃ B : ILoop, B = { lp with state := .busy } := ⟨_, rfl⟩
  have l5 : ({ lq with state := .ready, pending := .normal } : ILoop) = lp := by rw [hB, hlp]; rfl
  have l6 : lp.state = .ready := by rw [hlp]; rfl
  clear hlp
  obtain ⟨g, hg_, htl⟩ := explode htl
  rw [hg_] at ht3 ht5
  clear hg_
  have ht3' : g 3 = .pointer (some ⟨cb, 0, none⟩) := ht3
  have ht5' : g 5 = .pointer (some ⟨mb, 0, none⟩) := ht5
  clear ht3 ht5
  simp only [expand_succ, expand_zero, Nat.reduceAdd, ht3', ht5'] at htl
  obtain ⟨v, OV⟩ := Has.mx.1 (O.at 1 rfl)
  replace OV : Has ro h (Ob lp0 (.loop lp) :: Ob mb (.cells (mc { m with cl := v }) 1 false) :: Sc 2 cc v l :: Ob cb (.cells [.func (.func 33) #[] #[.pointer (some ⟨fb, 0, none⟩), .pointer (some ⟨lb, 0, none⟩)]] 1 false) :: Tk fb lb s :: R) := OV.at 2 rfl
  clear O
  refine round_isO OV (by rw [l3]; rfl) l6 ?_
  rw [← hB]
  clear hB
  simp (disch := first | assumption | omega | (simp only [wkD, oneCell, Option.isSome_some, *]; done) | (simp only [wkE, ne_eq]; omega)) only [l1, l3, l4, htl, gAsg, List.nil_append, wkF, X_region, X_seq, X_block, X_loop, X_cond, Y_box, Y_un, Y_store, Y_append, Y_makeMap, Y_buildSlice, ibin_shl, ibin_shr, ibin_and, ↓reduceIte, reduceCtorEq, oneCell, setAt, readN, Nat.reduceAdd, Nat.reduceLeDiff, Nat.reduceMul, layAt, Nat.reduceLT, Nat.reduceEqDiff, setParams, Int.reduceLT, Int.reduceLE, Int.reduceGT, Int.reduceGE, Int.reduceEq, Int.reduceNe]
  refine Is_in ⟨rfl, _, OV, fun h3 O3 => ?_⟩
  clear htl l4 OV
  have gC : readC (h3.get cb) 0 1 = some [.func (.func 33) #[] #[.pointer (some ⟨fb, 0, none⟩), .pointer (some ⟨lb, 0, none⟩)]] := by rw [O3.get 3 rfl]; rfl
  have hv := tk_lt (k := 4) hs
  simp only [Nat.reducePow] at hv
  have wu : IntKind.u32.wrap ((tk 4 s).1 : Int) = ((tk 4 s).1 : Int) := u32_of (by omega)
  simp (disch := first | assumption | omega | (simp only [wkD, oneCell, Option.isSome_some, *]; done) | (simp only [wkE, ne_eq]; omega)) only [l2, gBody, gC, wkF, X_region, X_seq, X_block, X_loop, X_cond, Y_box, Y_un, Y_store, Y_append, Y_makeMap, Y_buildSlice, ibin_shl, ibin_shr, ibin_and, ↓reduceIte, reduceCtorEq, oneCell, setAt, readN, Nat.reduceAdd, Nat.reduceLeDiff, Nat.reduceMul, layAt, Nat.reduceLT, Nat.reduceEqDiff, setParams, Int.reduceLT, Int.reduceLE, Int.reduceGT, Int.reduceGE, Int.reduceEq, Int.reduceNe]
  refine Z_is (take_h (n := k) (k := 4) (by omega) (by omega) (by omega) (by omega) hs (O3.at 4 rfl)) ?_
  rintro w h4 ⟨rfl, O4⟩
  replace O4 : Has ro h4 (Tk fb lb (tk 4 s).2 :: Ob lp0 (.loop lq) :: Ob mb (.cells (mc { m with cl := v }) 1 false) :: Sc 2 cc v l :: Ob cb (.cells [.func (.func 33) #[] #[.pointer (some ⟨fb, 0, none⟩), .pointer (some ⟨lb, 0, none⟩)]] 1 false) :: R) := O4
  have g4 := O4.get 2 rfl
  have p4 := O4.can 2 rfl
  have O5 := O4.set 2 rfl (.cells (mc { m with gen := (tk 4 s).1, cl := v }) 1 false)
  replace O5 : Has ro _ (Tk fb lb (tk 4 s).2 :: Ob lp0 (.loop lq) :: Ob mb (.cells (mc { m with gen := (tk 4 s).1, cl := v }) 1 false) :: Sc 2 cc v l :: Ob cb (.cells [.func (.func 33) #[] #[.pointer (some ⟨fb, 0, none⟩), .pointer (some ⟨lb, 0, none⟩)]] 1 false) :: R) := O5
  have hst : setAt (mc { m with cl := v }) 2 [.int .u32 (tk 4 s).1] = mc { m with gen := (tk 4 s).1, cl := v } := by simp [setAt, mc]
  simp (disch := first | assumption | omega | (simp only [wkD, oneCell, Option.isSome_some, *]; done) | (simp only [wkE, ne_eq]; omega)) only [wu, g4, p4, hst, mc_len, wkF, X_region, X_seq, X_block, X_loop, X_cond, Y_box, Y_un, Y_store, Y_append, Y_makeMap, Y_buildSlice, ibin_shl, ibin_shr, ibin_and, ↓reduceIte, reduceCtorEq, oneCell, readN, Nat.reduceAdd, Nat.reduceLeDiff, Nat.reduceMul, layAt, Nat.reduceLT, Nat.reduceEqDiff, setParams, Int.reduceLT, Int.reduceLE, Int.reduceGT, Int.reduceGE, Int.reduceEq, Int.reduceNe]
  have O6 : Has ro _ (Mx mb { m with gen := (tk 4 s).1 } l :: Tk fb lb (tk 4 s).2 :: Ob lp0 (.loop lq) :: Ob cb (.cells [.func (.func 33) #[] #[.pointer (some ⟨fb, 0, none⟩), .pointer (some ⟨lb, 0, none⟩)]] 1 false) :: R) := Has.mx.2 ⟨v, (O5.at 3 rfl).at 3 rfl⟩
  refine Is_in ⟨_, _, O6.at 2 rfl, fun h7 O7 => ⟨rfl, ?_⟩⟩
  replace O7 : Has ro h7 (Ob lp0 (.loop { lq with state := .ready, pending := .normal }) :: Mx mb { m with gen := (tk 4 s).1 } l :: Tk fb lb (tk 4 s).2 :: Ob cb (.cells [.func (.func 33) #[] #[.pointer (some ⟨fb, 0, none⟩), .pointer (some ⟨lb, 0, none⟩)]] 1 false) :: R) := O7
  rw [l5] at O7
  exact (O7.at 3 rfl).at 2 rfl |>.at 2 rfl
theorem msg_y3 {k D lp0 mb cb fb lb : Nat} {tl : List Value} (htl : tl.length = 75) (ht3 : tl.getD 3 undefV = .pointer (some ⟨cb, 0, none⟩)) (ht5 : tl.getD 5 undefV = .pointer (some ⟨mb, 0, none⟩)) (hk : 400 < k) (hs : ∀ b ∈ s.1, b < 256) (hsl : s.1.length ≤ 2000) (hl : l.length ≤ 5000)
    (O : Has ro h (Ob lp0 (.loop (gLoop D tl)) :: Mx mb m l :: Ob cb (.cells [.func (.func 33) #[] #[.pointer (some ⟨fb, 0, none⟩), .pointer (some ⟨lb, 0, none⟩)]] 1 false) :: Tk fb lb s :: R)) :
    (callV env (k + 1) (.func (.yield lp0) #[] #[]) [.int .i64 3] h).Is fun q => q.1 = .bool true ∧ Has ro q.2 (Ob lp0 (.loop (gLoop D tl)) :: Mx mb (fldS 3 (m, l, s)).1 (fldS 3 (m, l, s)).2.1 :: Ob cb (.cells [.func (.func 33) #[] #[.pointer (some ⟨fb, 0, none⟩), .pointer (some ⟨lb, 0, none⟩)]] 1 false) :: Tk fb lb (fldS 3 (m, l, s)).2.2 :: R) := by
  obtain ⟨k, rfl⟩ : ∃ j, k = j + 1 := ⟨k - 1, by omega⟩
  rw [callV_yield]
  obtain ⟨lp, hlp⟩ : ∃ lp, lp = gLoop D tl := ⟨_, rfl⟩
  rw [← hlp] at O ⊢
  have l1 : lp.assign = gAsg := by rw [hlp]; rfl
  have l2 : lp.body = gBody := by rw [hlp]; rfl
  have l3 : lp.params = [11] := by rw [hlp]; rfl
  have l4 : lp.tmps = tl := by rw [hlp]; rfl
  obtain ⟨lq, hB⟩ : ∃ B : ILoop, B = { lp with state := .busy } := ⟨_, rfl⟩
  have l5 : ({ lq with state := .ready, pending := .normal } : ILoop) = lp := by rw [hB, hlp]; rfl
  have l6 : lp.state = .ready := by rw [hlp]; rfl
  clear hlp
  obtain ⟨g, hg_, htl⟩ := explode htl
  rw [hg_] at ht3 ht5
  clear hg_
  have ht3' : g 3 = .pointer (some ⟨cb, 0, none⟩) := ht3
  have ht5' : g 5 = .pointer (some ⟨mb, 0, none⟩) := ht5
  clear ht3 ht5
  simp only [expand_succ, expand_zero, Nat.reduceAdd, ht3', ht5'] at htl
  obtain ⟨v, OV⟩ := Has.mx.1 (O.at 1 rfl)
  replace OV : Has ro h (Ob lp0 (.loop lp) :: Ob mb (.cells (mc { m with cl := v }) 1 false) :: Sc 2 cc v l :: Ob cb (.cells [.func (.func 33) #[] #[.pointer (some ⟨fb, 0, none⟩), .pointer (some ⟨lb, 0, none⟩)]] 1 false) :: Tk fb lb s :: R) := OV.at 2 rfl
  clear O
  refine round_isO OV (by rw [l3]; rfl) l6 ?_
  rw [← hB]
  clear hB
  simp (disch := first | assumption | omega | (simp only [wkD, oneCell, Option.isSome_some, *]; done) | (simp only [wkE, ne_eq]; omega)) only [l1, l3, l4, htl, gAsg, List.nil_append, wkF, X_region, X_seq, X_block, X_loop, X_cond, Y_box, Y_un, Y_store, Y_append, Y_makeMap, Y_buildSlice, ibin_shl, ibin_shr, ibin_and, ↓reduceIte, reduceCtorEq, oneCell, setAt, readN, Nat.reduceAdd, Nat.reduceLeDiff, Nat.reduceMul, layAt, Nat.reduceLT, Nat.reduceEqDiff, setParams, Int.reduceLT, Int.reduceLE, Int.reduceGT, Int.reduceGE, Int.reduceEq, Int.reduceNe]
  refine Is_in ⟨rfl, _, OV, fun h3 O3 => ?_⟩
  clear htl l4 OV
  have gC : readC (h3.get cb) 0 1 = some [.func (.func 33) #[] #[.pointer (some ⟨fb, 0, none⟩), .pointer (some ⟨lb, 0, none⟩)]] := by rw [O3.get 3 rfl]; rfl
  have hv := tk_lt (k := 8) hs
  simp only [Nat.reducePow] at hv
  have wu : True := trivial
  simp (disch := first | assumption | omega | (simp only [wkD, oneCell, Option.isSome_some, *]; done) | (simp only [wkE, ne_eq]; omega)) only [l2, gBody, gC, wkF, X_region, X_seq, X_block, X_loop, X_cond, Y_box, Y_un, Y_store, Y_append, Y_makeMap, Y_buildSlice, ibin_shl, ibin_shr, ibin_and, ↓reduceIte, reduceCtorEq, oneCell, setAt, readN, Nat.reduceAdd, Nat.reduceLeDiff, Nat.reduceMul, layAt, Nat.reduceLT, Nat.reduceEqDiff, setParams, Int.reduceLT, Int.reduceLE, Int.reduceGT, Int.reduceGE, Int.reduceEq, Int.reduceNe]
  refine Z_is (take_h (n := k) (k := 8) (by omega) (by omega) (by omega) (by omega) hs (O3.at 4 rfl)) ?_
  rintro w h4 ⟨rfl, O4⟩
  replace O4 : Has ro h4 (Tk fb lb (tk 8 s).2 :: Ob lp0 (.loop lq) :: Ob mb (.cells (mc { m with cl := v }) 1 false) :: Sc 2 cc v l :: Ob cb (.cells [.func (.func 33) #[] #[.pointer (some ⟨fb, 0, none⟩), .pointer (some ⟨lb, 0, none⟩)]] 1 false) :: R) := O4
  have g4 := O4.get 2 rfl
  have p4 := O4.can 2 rfl
  have O5 := O4.set 2 rfl (.cells (mc { m with stamp := (tk 8 s).1, cl := v }) 1 false)
  replace O5 : Has ro _ (Tk fb lb (tk 8 s).2 :: Ob lp0 (.loop lq) :: Ob mb (.cells (mc { m with stamp := (tk 8 s).1, cl := v }) 1 false) :: Sc 2 cc v l :: Ob cb (.cells [.func (.func 33) #[] #[.pointer (some ⟨fb, 0, none⟩), .pointer (some ⟨lb, 0, none⟩)]] 1 false) :: R) := O5
  have hst : setAt (mc { m with cl := v }) 3 [.int .u64 (tk 8 s).1] = mc { m with stamp := (tk 8 s).1, cl := v } := by simp [setAt, mc]
  simp (disch := first | assumption | omega | (simp only [wkD, oneCell, Option.isSome_some, *]; done) | (simp only [wkE, ne_eq]; omega)) only [wu, g4, p4, hst, mc_len, wkF, X_region, X_seq, X_block, X_loop, X_cond, Y_box, Y_un, Y_store, Y_append, Y_makeMap, Y_buildSlice, ibin_shl, ibin_shr, ibin_and, ↓reduceIte, reduceCtorEq, oneCell, readN, Nat.reduceAdd, Nat.reduceLeDiff, Nat.reduceMul, layAt, Nat.reduceLT, Nat.reduceEqDiff, setParams, Int.reduceLT, Int.reduceLE, Int.reduceGT, Int.reduceGE, Int.reduceEq, Int.reduceNe]
  have O6 : Has ro _ (Mx mb { m with stamp := (tk 8 s).1 } l :: Tk fb lb (tk 8 s).2 :: Ob lp0 (.loop lq) :: Ob cb (.cells [.func (.func 33) #[] #[.pointer (some ⟨fb, 0, none⟩), .pointer (some ⟨lb, 0, none⟩)]] 1 false) :: R) := Has.mx.2 ⟨v, (O5.at 3 rfl).at 3 rfl⟩
  refine Is_in ⟨_, _, O6.at 2 rfl, fun h7 O7 => ⟨rfl, ?_⟩⟩
  replace O7 : Has ro h7 (Ob lp0 (.loop { lq with state := .ready, pending := .normal }) :: Mx mb { m with stamp := (tk 8 s).1 } l :: Tk fb lb (tk 8 s).2 :: Ob cb (.cells [.func (.func 33) #[] #[.pointer (some ⟨fb, 0, none⟩), .pointer (some ⟨lb, 0, none⟩)]] 1 false) :: R) := O7
  rw [l5] at O7
  exact (O7.at 3 rfl).at 2 rfl |>.at 2 rfl
theorem msg_y4 {k D lp0 mb cb fb lb : Nat} {tl : List Value} (htl : tl.length = 75) (ht3 : tl.getD 3 undefV = .pointer (some ⟨cb, 0, none⟩)) (ht5 : tl.getD 5 undefV = .pointer (some ⟨mb, 0, none⟩)) (hk : 400 < k) (hs : ∀ b ∈ s.1, b < 256) (hsl : s.1.length ≤ 2000) (hl : l.length ≤ 5000)
    (O : Has ro h (Ob lp0 (.loop (gLoop D tl)) :: Mx mb m l :: Ob cb (.cells [.func (.func 33) #[] #[.pointer (some ⟨fb, 0, none⟩), .pointer (some ⟨lb, 0, none⟩)]] 1 false) :: Tk fb lb s :: R)) :
    (callV env (k + 1) (.func (.yield lp0) #[] #[]) [.int .i64 4] h).Is fun q => q.1 = .bool true ∧ Has ro q.2 (Ob lp0 (.loop (gLoop D tl)) :: Mx mb (fldS 4 (m, l, s)).1 (fldS 4 (m, l, s)).2.1 :: Ob cb (.cells [.func (.func 33) #[] #[.pointer (some ⟨fb, 0, none⟩), .pointer (some ⟨lb, 0, none⟩)]] 1 false) :: Tk fb lb (fldS 4 (m, l, s)).2.2 :: R) := by
  obtain ⟨k, rfl⟩ : ∃ j, k = j + 1 := ⟨k - 1, by omega⟩
  rw [callV_yield]
  obtain ⟨lp, hlp⟩ : ∃ lp, lp = gLoop D tl := ⟨_, rfl⟩
  rw [← hlp] at O ⊢
  have l1 : lp.assign = gAsg := by rw [hlp]; rfl
  have l2 : lp.body = gBody := by rw [hlp]; rfl
  have l3 : lp.params = [11] := by rw [hlp]; rfl
  have l4 : lp.tmps = tl := by rw [hlp]; rfl
  obtain ⟨lq, hB⟩ : ∃ B : ILoop, B = { lp with state := .busy } := ⟨_, rfl⟩
  have l5 : ({ lq with state := .ready, pending := .normal } : ILoop) = lp := by rw [hB, hlp]; rfl
  have l6 : lp.state = .ready := by rw [hlp]; rfl
  clear hlp
  obtain ⟨g, hg_, htl⟩ := explode htl
  rw [hg_] at ht3 ht5
  clear hg_
  have ht3' : g 3 = .pointer (some ⟨cb, 0, none⟩) := ht3
  have ht5' : g 5 = .pointer (some ⟨mb, 0, none⟩) := ht5
  clear ht3 ht5
  simp only [expand_succ, expand_zero, Nat.reduceAdd, ht3', ht5'] at htl
  obtain ⟨v, OV⟩ := Has.mx.1 (O.at 1 rfl)
  replace OV : Has ro h (Ob lp0 (.loop lp) :: Ob mb (.cells (mc { m with cl := v }) 1 false) :: Sc 2 cc v l :: Ob cb (.cells [.func (.func 33) #[] #[.pointer (some ⟨fb, 0, none⟩), .pointer (some ⟨lb, 0, none⟩)]] 1 false) :: Tk fb lb s :: R) := OV.at 2 rfl
  clear O
  refine round_isO OV (by rw [l3]; rfl) l6 ?_
  rw [← hB]
  clear hB
  simp (disch := first | assumption | omega | (simp only [wkD, oneCell, Option.isSome_some, *]; done) | (simp only [wkE, ne_eq]; omega)) only [l1, l3, l4, htl, gAsg, List.nil_append, wkF, X_region, X_seq, X_block, X_loop, X_cond, Y_box, Y_un, Y_store, Y_append, Y_makeMap, Y_buildSlice, ibin_shl, ibin_shr, ibin_and, ↓reduceIte, reduceCtorEq, oneCell, setAt, readN, Nat.reduceAdd, Nat.reduceLeDiff, Nat.reduceMul, layAt, Nat.reduceLT, Nat.reduceEqDiff, setParams, Int.reduceLT, Int.reduceLE, Int.reduceGT, Int.reduceGE, Int.reduceEq, Int.reduceNe]
  refine Is_in ⟨rfl, _, OV, fun h3 O3 => ?_⟩
  clear htl l4 OV
  have gC : readC (h3.get cb) 0 1 = some [.func (.func 33) #[] #[.pointer (some ⟨fb, 0, none⟩), .pointer (some ⟨lb, 0, none⟩)]] := by rw [O3.get 3 rfl]; rfl
  have hv := tk_lt (k := 1) hs
  simp only [Nat.reducePow] at hv
  have wu : IntKind.i64.wrap ((tk 1 s).1 : Int) = ((tk 1 s).1 : Int) := wrap_i64 (by omega) (by omega)
  simp (disch := first | assumption | omega | (simp only [wkD, oneCell, Option.isSome_some, *]; done) | (simp only [wkE, ne_eq]; omega)) only [l2, gBody, gC, wkF, X_region, X_seq, X_block, X_loop, X_cond, Y_box, Y_un, Y_store, Y_append, Y_makeMap, Y_buildSlice, ibin_shl, ibin_shr, ibin_and, ↓reduceIte, reduceCtorEq, oneCell, setAt, readN, Nat.reduceAdd, Nat.reduceLeDiff, Nat.reduceMul, layAt, Nat.reduceLT, Nat.reduceEqDiff, setParams, Int.reduceLT, Int.reduceLE, Int.reduceGT, Int.reduceGE, Int.reduceEq, Int.reduceNe]
  refine Z_is (take_h (n := k) (k := 1) (by omega) (by omega) (by omega) (by omega) hs (O3.at 4 rfl)) ?_
  rintro w h4 ⟨rfl, O4⟩
  replace O4 : Has ro h4 (Tk fb lb (tk 1 s).2 :: Ob lp0 (.loop lq) :: Ob mb (.cells (mc { m with cl := v }) 1 false) :: Sc 2 cc v l :: Ob cb (.cells [.func (.func 33) #[] #[.pointer (some ⟨fb, 0, none⟩), .pointer (some ⟨lb, 0, none⟩)]] 1 false) :: R) := O4
  have g4 := O4.get 2 rfl
  have p4 := O4.can 2 rfl
  have O5 := O4.set 2 rfl (.cells (mc { m with prio := ((tk 1 s).1 : Int), cl := v }) 1 false)
  replace O5 : Has ro _ (Tk fb lb (tk 1 s).2 :: Ob lp0 (.loop lq) :: Ob mb (.cells (mc { m with prio := ((tk 1 s).1 : Int), cl := v }) 1 false) :: Sc 2 cc v l :: Ob cb (.cells [.func (.func 33) #[] #[.pointer (some ⟨fb, 0, none⟩), .pointer (some ⟨lb, 0, none⟩)]] 1 false) :: R) := O5
  have hst : setAt (mc { m with cl := v }) 4 [.int .i64 ((tk 1 s).1 : Int)] = mc { m with prio := ((tk 1 s).1 : Int), cl := v } := by simp [setAt, mc]
  simp (disch := first | assumption | omega | (simp only [wkD, oneCell, Option.isSome_some, *]; done) | (simp only [wkE, ne_eq]; omega)) only [wu, g4, p4, hst, mc_len, wkF, X_region, X_seq, X_block, X_loop, X_cond, Y_box, Y_un, Y_store, Y_append, Y_makeMap, Y_buildSlice, ibin_shl, ibin_shr, ibin_and, ↓reduceIte, reduceCtorEq, oneCell, readN, Nat.reduceAdd, Nat.reduceLeDiff, Nat.reduceMul, layAt, Nat.reduceLT, Nat.reduceEqDiff, setParams, Int.reduceLT, Int.reduceLE, Int.reduceGT, Int.reduceGE, Int.reduceEq, Int.reduceNe]
  have O6 : Has ro _ (Mx mb { m with prio := ((tk 1 s).1 : Int) } l :: Tk fb lb (tk 1 s).2 :: Ob lp0 (.loop lq) :: Ob cb (.cells [.func (.func 33) #[] #[.pointer (some ⟨fb, 0, none⟩), .pointer (some ⟨lb, 0, none⟩)]] 1 false) :: R) := Has.mx.2 ⟨v, (O5.at 3 rfl).at 3 rfl⟩
  refine Is_in ⟨_, _, O6.at 2 rfl, fun h7 O7 => ⟨rfl, ?_⟩⟩
  replace O7 : Has ro h7 (Ob lp0 (.loop { lq with state := .ready, pending := .normal }) :: Mx mb { m with prio := ((tk 1 s).1 : Int) } l :: Tk fb lb (tk 1 s).2 :: Ob cb (.cells [.func (.func 33) #[] #[.pointer (some ⟨fb, 0, none⟩), .pointer (some ⟨lb, 0, none⟩)]] 1 false) :: R) := O7
  rw [l5] at O7
  exact (O7.at 3 rfl).at 2 rfl |>.at 2 rfl
theorem msg_y5 {k D lp0 mb cb fb lb : Nat} {tl : List Value} (htl : tl.length = 75) (ht3 : tl.getD 3 undefV = .pointer (some ⟨cb, 0, none⟩)) (ht5 : tl.getD 5 undefV = .pointer (some ⟨mb, 0, none⟩)) (hk : 400 < k) (hs : ∀ b ∈ s.1, b < 256) (hsl : s.1.length ≤ 2000) (hl : l.length ≤ 5000)
    (O : Has ro h (Ob lp0 (.loop (gLoop D tl)) :: Mx mb m l :: Ob cb (.cells [.func (.func 33) #[] #[.pointer (some ⟨fb, 0, none⟩), .pointer (some ⟨lb, 0, none⟩)]] 1 false) :: Tk fb lb s :: R)) :
    (callV env (k + 1) (.func (.yield lp0) #[] #[]) [.int .i64 5] h).Is fun q => q.1 = .bool true ∧ Has ro q.2 (Ob lp0 (.loop (gLoop D tl)) :: Mx mb (fldS 5 (m, l, s)).1 (fldS 5 (m, l, s)).2.1 :: Ob cb (.cells [.func (.func 33) #[] #[.pointer (some ⟨fb, 0, none⟩), .pointer (some ⟨lb, 0, none⟩)]] 1 false) :: Tk fb lb (fldS 5 (m, l, s)).2.2 :: R) := by
  obtain ⟨k, rfl⟩ : ∃ j, k = j + 1 := ⟨k - 1, by omega⟩
  rw [callV_yield]
  obtain ⟨lp, hlp⟩ : ∃ lp, lp = gLoop D tl := ⟨_, rfl⟩
  rw [← hlp] at O ⊢
  have l1 : lp.assign = gAsg := by rw [hlp]; rfl
  have l2 : lp.body = gBody := by rw [hlp]; rfl
  have l3 : lp.params = [11] := by rw [hlp]; rfl
  have l4 : lp.tmps = tl := by rw [hlp]; rfl
  obtain ⟨lq, hB⟩ : ∃ B : ILoop, B = { lp with state := .busy } := ⟨_, rfl⟩
  have l5 : ({ lq with state := .ready, pending := .normal } : ILoop) = lp := by rw [hB, hlp]; rfl
  have l6 : lp.state = .ready := by rw [hlp]; rfl
  clear hlp
  obtain ⟨g, hg_, htl⟩ := explode htl
  rw [hg_] at ht3 ht5
  clear hg_
  have ht3' : g 3 = .pointer (some ⟨cb, 0, none⟩) := ht3
  have ht5' : g 5 = .pointer (some ⟨mb, 0, none⟩) := ht5
  clear ht3 ht5
  simp only [expand_succ, expand_zero, Nat.reduceAdd, ht3', ht5'] at htl
  obtain ⟨v, OV⟩ := Has.mx.1 (O.at 1 rfl)
  replace OV : Has ro h (Ob lp0 (.loop lp) :: Ob mb (.cells (mc { m with cl := v }) 1 false) :: Sc 2 cc v l :: Ob cb (.cells [.func (.func 33) #[] #[.pointer (some ⟨fb, 0, none⟩), .pointer (some ⟨lb, 0, none⟩)]] 1 false) :: Tk fb lb s :: R) := OV.at 2 rfl
  clear O
  refine round_isO OV (by rw [l3]; rfl) l6 ?_
  rw [← hB]
  clear hB
  simp (disch := first | assumption | omega | (simp only [wkD, oneCell, Option.isSome_some, *]; done) | (simp only [wkE, ne_eq]; omega)) only [l1, l3, l4, htl, gAsg, List.nil_append, wkF, X_region, X_seq, X_block, X_loop, X_cond, Y_box, Y_un, Y_store, Y_append, Y_makeMap, Y_buildSlice, ibin_shl, ibin_shr, ibin_and, ↓reduceIte, reduceCtorEq, oneCell, setAt, readN, Nat.reduceAdd, Nat.reduceLeDiff, Nat.reduceMul, layAt, Nat.reduceLT, Nat.reduceEqDiff, setParams, Int.reduceLT, Int.reduceLE, Int.reduceGT, Int.reduceGE, Int.reduceEq, Int.reduceNe]
  refine Is_in ⟨rfl, _, OV, fun h3 O3 => ?_⟩
  clear htl l4 OV
  have gC : readC (h3.get cb) 0 1 = some [.func (.func 33) #[] #[.pointer (some ⟨fb, 0, none⟩), .pointer (some ⟨lb, 0, none⟩)]] := by rw [O3.get 3 rfl]; rfl
  have hv := tk_lt (k := 1) hs
  simp only [Nat.reducePow] at hv
  have wu : IntKind.i64.wrap ((tk 1 s).1 : Int) = ((tk 1 s).1 : Int) := wrap_i64 (by omega) (by omega)
  simp (disch := first | assumption | omega | (simp only [wkD, oneCell, Option.isSome_some, *]; done) | (simp only [wkE, ne_eq]; omega)) only [l2, gBody, gC, wkF, X_region, X_seq, X_block, X_loop, X_cond, Y_box, Y_un, Y_store, Y_append, Y_makeMap, Y_buildSlice, ibin_shl, ibin_shr, ibin_and, ↓reduceIte, reduceCtorEq, oneCell, setAt, readN, Nat.reduceAdd, Nat.reduceLeDiff, Nat.reduceMul, layAt, Nat.reduceLT, Nat.reduceEqDiff, setParams, Int.reduceLT, Int.reduceLE, Int.reduceGT, Int.reduceGE, Int.reduceEq, Int.reduceNe]
  refine Z_is (take_h (n := k) (k := 1) (by omega) (by omega) (by omega) (by omega) hs (O3.at 4 rfl)) ?_
  rintro w h4 ⟨rfl, O4⟩
  replace O4 : Has ro h4 (Tk fb lb (tk 1 s).2 :: Ob lp0 (.loop lq) :: Ob mb (.cells (mc { m with cl := v }) 1 false) :: Sc 2 cc v l :: Ob cb (.cells [.func (.func 33) #[] #[.pointer (some ⟨fb, 0, none⟩), .pointer (some ⟨lb, 0, none⟩)]] 1 false) :: R) := O4
  have g4 := O4.get 2 rfl
  have p4 := O4.can 2 rfl
  have O5 := O4.set 2 rfl (.cells (mc { m with hops := ((tk 1 s).1 : Int), cl := v }) 1 false)
  replace O5 : Has ro _ (Tk fb lb (tk 1 s).2 :: Ob lp0 (.loop lq) :: Ob mb (.cells (mc { m with hops := ((tk 1 s).1 : Int), cl := v }) 1 false) :: Sc 2 cc v l :: Ob cb (.cells [.func (.func 33) #[] #[.pointer (some ⟨fb, 0, none⟩), .pointer (some ⟨lb, 0, none⟩)]] 1 false) :: R) := O5
  have hst : setAt (mc { m with cl := v }) 5 [.int .i64 ((tk 1 s).1 : Int)] = mc { m with hops := ((tk 1 s).1 : Int), cl := v } := by simp [setAt, mc]
  simp (disch := first | assumption | omega | (simp only [wkD, oneCell, Option.isSome_some, *]; done) | (simp only [wkE, ne_eq]; omega)) only [wu, g4, p4, hst, mc_len, wkF, X_region, X_seq, X_block, X_loop, X_cond, Y_box, Y_un, Y_store, Y_append, Y_makeMap, Y_buildSlice, ibin_shl, ibin_shr, ibin_and, ↓reduceIte, reduceCtorEq, oneCell, readN, Nat.reduceAdd, Nat.reduceLeDiff, Nat.reduceMul, layAt, Nat.reduceLT, Nat.reduceEqDiff, setParams, Int.reduceLT, Int.reduceLE, Int.reduceGT, Int.reduceGE, Int.reduceEq, Int.reduceNe]
  have O6 : Has ro _ (Mx mb { m with hops := ((tk 1 s).1 : Int) } l :: Tk fb lb (tk 1 s).2 :: Ob lp0 (.loop lq) :: Ob cb (.cells [.func (.func 33) #[] #[.pointer (some ⟨fb, 0, none⟩), .pointer (some ⟨lb, 0, none⟩)]] 1 false) :: R) := Has.mx.2 ⟨v, (O5.at 3 rfl).at 3 rfl⟩
  refine Is_in ⟨_, _, O6.at 2 rfl, fun h7 O7 => ⟨rfl, ?_⟩⟩
  replace O7 : Has ro h7 (Ob lp0 (.loop { lq with state := .ready, pending := .normal }) :: Mx mb { m with hops := ((tk 1 s).1 : Int) } l :: Tk fb lb (tk 1 s).2 :: Ob cb (.cells [.func (.func 33) #[] #[.pointer (some ⟨fb, 0, none⟩), .pointer (some ⟨lb, 0, none⟩)]] 1 false) :: R) := O7
  rw [l5] at O7
  exact (O7.at 3 rfl).at 2 rfl |>.at 2 rfl
theorem msg_y6 {k D lp0 mb cb fb lb : Nat} {tl : List Value} (htl : tl.length = 75) (ht3 : tl.getD 3 undefV = .pointer (some ⟨cb, 0, none⟩)) (ht5 : tl.getD 5 undefV = .pointer (some ⟨mb, 0, none⟩)) (hk : 400 < k) (hs : ∀ b ∈ s.1, b < 256) (hsl : s.1.length ≤ 2000) (hl : l.length ≤ 5000)
    (O : Has ro h (Ob lp0 (.loop (gLoop D tl)) :: Mx mb m l :: Ob cb (.cells [.func (.func 33) #[] #[.pointer (some ⟨fb, 0, none⟩), .pointer (some ⟨lb, 0, none⟩)]] 1 false) :: Tk fb lb s :: R)) :
    (callV env (k + 1) (.func (.yield lp0) #[] #[]) [.int .i64 6] h).Is fun q => q.1 = .bool true ∧ Has ro q.2 (Ob lp0 (.loop (gLoop D tl)) :: Mx mb (fldS 6 (m, l, s)).1 (fldS 6 (m, l, s)).2.1 :: Ob cb (.cells [.func (.func 33) #[] #[.pointer (some ⟨fb, 0, none⟩), .pointer (some ⟨lb, 0, none⟩)]] 1 false) :: Tk fb lb (fldS 6 (m, l, s)).2.2 :: R) := by
  obtain ⟨k, rfl⟩ : ∃ j, k = j + 1 := ⟨k - 1, by omega⟩
  rw [callV_yield]
  obtain ⟨lp, hlp⟩ : ∃ lp, lp = gLoop D tl := ⟨_, rfl⟩
  rw [← hlp] at O ⊢
  have l1 : lp.assign = gAsg := by rw [hlp]; rfl
  have l2 : lp.body = gBody := by rw [hlp]; rfl
  have l3 : lp.params = [11] := by rw [hlp]; rfl
  have l4 : lp.tmps = tl := by rw [hlp]; rfl
  obtain ⟨lq, hB⟩ : ∃ B : ILoop, B = { lp with state := .busy } := ⟨_, rfl⟩
  have l5 : ({ lq with state := .ready, pending := .normal } : ILoop) = lp := by rw [hB, hlp]; rfl
  have l6 : lp.state = .ready := by rw [hlp]; rfl
  clear hlp
  obtain ⟨g, hg_, htl⟩ := explode htl
  rw [hg_] at ht3 ht5
  clear hg_
  have ht3' : g 3 = .pointer (some ⟨cb, 0, none⟩) := ht3
  have ht5' : g 5 = .pointer (some ⟨mb, 0, none⟩) := ht5
  clear ht3 ht5
  simp only [expand_succ, expand_zero, Nat.reduceAdd, ht3', ht5'] at htl
  obtain ⟨v, OV⟩ := Has.mx.1 (O.at 1 rfl)
  replace OV : Has ro h (Ob lp0 (.loop lp) :: Ob mb (.cells (mc { m with cl := v }) 1 false) :: Sc 2 cc v l :: Ob cb (.cells [.func (.func 33) #[] #[.pointer (some ⟨fb, 0, none⟩), .pointer (some ⟨lb, 0, none⟩)]] 1 false) :: Tk fb lb s :: R) := OV.at 2 rfl
  clear O
  refine round_isO OV (by rw [l3]; rfl) l6 ?_
  rw [← hB]
  clear hB
  simp (disch := first | assumption | omega | (simp only [wkD, oneCell, Option.isSome_some, *]; done) | (simp only [wkE, ne_eq]; omega)) only [l1, l3, l4, htl, gAsg, List.nil_append, wkF, X_region, X_seq, X_block, X_loop, X_cond, Y_box, Y_un, Y_store, Y_append, Y_makeMap, Y_buildSlice, ibin_shl, ibin_shr, ibin_and, ↓reduceIte, reduceCtorEq, oneCell, setAt, readN, Nat.reduceAdd, Nat.reduceLeDiff, Nat.reduceMul, layAt, Nat.reduceLT, Nat.reduceEqDiff, setParams, Int.reduceLT, Int.reduceLE, Int.reduceGT, Int.reduceGE, Int.reduceEq, Int.reduceNe]
  refine Is_in ⟨rfl, _, OV, fun h3 O3 => ?_⟩
  clear htl l4 OV
  have gC : readC (h3.get cb) 0 1 = some [.func (.func 33) #[] #[.pointer (some ⟨fb, 0, none⟩), .pointer (some ⟨lb, 0, none⟩)]] := by rw [O3.get 3 rfl]; rfl
  have hv := tk_lt (k := 1) hs
  simp only [Nat.reducePow] at hv
  have wu : IntKind.i64.wrap ((tk 1 s).1 : Int) = ((tk 1 s).1 : Int) := wrap_i64 (by omega) (by omega)
  simp (disch := first | assumption | omega | (simp only [wkD, oneCell, Option.isSome_some, *]; done) | (simp only [wkE, ne_eq]; omega)) only [l2, gBody, gC, wkF, X_region, X_seq, X_block, X_loop, X_cond, Y_box, Y_un, Y_store, Y_append, Y_makeMap, Y_buildSlice, ibin_shl, ibin_shr, ibin_and, ↓reduceIte, reduceCtorEq, oneCell, setAt, readN, Nat.reduceAdd, Nat.reduceLeDiff, Nat.reduceMul, layAt, Nat.reduceLT, Nat.reduceEqDiff, setParams, Int.reduceLT, Int.reduceLE, Int.reduceGT, Int.reduceGE, Int.reduceEq, Int.reduceNe]
  refine Z_is (take_h (n := k) (k := 1) (by omega) (by omega) (by omega) (by omega) hs (O3.at 4 rfl)) ?_
  rintro w h4 ⟨rfl, O4⟩
  replace O4 : Has ro h4 (Tk fb lb (tk 1 s).2 :: Ob lp0 (.loop lq) :: Ob mb (.cells (mc { m with cl := v }) 1 false) :: Sc 2 cc v l :: Ob cb (.cells [.func (.func 33) #[] #[.pointer (some ⟨fb, 0, none⟩), .pointer (some ⟨lb, 0, none⟩)]] 1 false) :: R) := O4
  have g4 := O4.get 2 rfl
  have p4 := O4.can 2 rfl
  have O5 := O4.set 2 rfl (.cells (mc { m with orig := ((tk 1 s).1 : Int), cl := v }) 1 false)
  replace O5 : Has ro _ (Tk fb lb (tk 1 s).2 :: Ob lp0 (.loop lq) :: Ob mb (.cells (mc { m with orig := ((tk 1 s).1 : Int), cl := v }) 1 false) :: Sc 2 cc v l :: Ob cb (.cells [.func (.func 33) #[] #[.pointer (some ⟨fb, 0, none⟩), .pointer (some ⟨lb, 0, none⟩)]] 1 false) :: R) := O5
  have hst : setAt (mc { m with cl := v }) 6 [.int .i64 ((tk 1 s).1 : Int)] = mc { m with orig := ((tk 1 s).1 : Int), cl := v } := by simp [setAt, mc]
  simp (disch := first | assumption | omega | (simp only [wkD, oneCell, Option.isSome_some, *]; done) | (simp only [wkE, ne_eq]; omega)) only [wu, g4, p4, hst, mc_len, wkF, X_region, X_seq, X_block, X_loop, X_cond, Y_box, Y_un, Y_store, Y_append, Y_makeMap, Y_buildSlice, ibin_shl, ibin_shr, ibin_and, ↓reduceIte, reduceCtorEq, oneCell, readN, Nat.reduceAdd, Nat.reduceLeDiff, Nat.reduceMul, layAt, Nat.reduceLT, Nat.reduceEqDiff, setParams, Int.reduceLT, Int.reduceLE, Int.reduceGT, Int.reduceGE, Int.reduceEq, Int.reduceNe]
  have O6 : Has ro _ (Mx mb { m with orig := ((tk 1 s).1 : Int) } l :: Tk fb lb (tk 1 s).2 :: Ob lp0 (.loop lq) :: Ob cb (.cells [.func (.func 33) #[] #[.pointer (some ⟨fb, 0, none⟩), .pointer (some ⟨lb, 0, none⟩)]] 1 false) :: R) := Has.mx.2 ⟨v, (O5.at 3 rfl).at 3 rfl⟩
  refine Is_in ⟨_, _, O6.at 2 rfl, fun h7 O7 => ⟨rfl, ?_⟩⟩
  replace O7 : Has ro h7 (Ob lp0 (.loop { lq with state := .ready, pending := .normal }) :: Mx mb { m with orig := ((tk 1 s).1 : Int) } l :: Tk fb lb (tk 1 s).2 :: Ob cb (.cells [.func (.func 33) #[] #[.pointer (some ⟨fb, 0, none⟩), .pointer (some ⟨lb, 0, none⟩)]] 1 false) :: R) := O7
  rw [l5] at O7
  exact (O7.at 3 rfl).at 2 rfl |>.at 2 rfl
theorem msg_y7 {k D lp0 mb cb fb lb : Nat} {tl : List Value} (htl : tl.length = 75) (ht3 : tl.getD 3 undefV = .pointer (some ⟨cb, 0, none⟩)) (ht5 : tl.getD 5 undefV = .pointer (some ⟨mb, 0, none⟩)) (hk : 400 < k) (hs : ∀ b ∈ s.1, b < 256) (hsl : s.1.length ≤ 2000) (hl : l.length ≤ 5000)
    (O : Has ro h (Ob lp0 (.loop (gLoop D tl)) :: Mx mb m l :: Ob cb (.cells [.func (.func 33) #[] #[.pointer (some ⟨fb, 0, none⟩), .pointer (some ⟨lb, 0, none⟩)]] 1 false) :: Tk fb lb s :: R)) :
    (callV env (k + 1) (.func (.yield lp0) #[] #[]) [.int .i64 7] h).Is fun q => q.1 = .bool true ∧ Has ro q.2 (Ob lp0 (.loop (gLoop D tl)) :: Mx mb (fldS 7 (m, l, s)).1 (fldS 7 (m, l, s)).2.1 :: Ob cb (.cells [.func (.func 33) #[] #[.pointer (some ⟨fb, 0, none⟩), .pointer (some ⟨lb, 0, none⟩)]] 1 false) :: Tk fb lb (fldS 7 (m, l, s)).2.2 :: R) := by
  obtain ⟨k, rfl⟩ : ∃ j, k = j + 1 := ⟨k - 1, by omega⟩
  rw [callV_yield]
  obtain ⟨lp, hlp⟩ : ∃ lp, lp = gLoop D tl := ⟨_, rfl⟩
  rw [← hlp] at O ⊢
  have l1 : lp.assign = gAsg := by rw [hlp]; rfl
  have l2 : lp.body = gBody := by rw [hlp]; rfl
  have l3 : lp.params = [11] := by rw [hlp]; rfl
  have l4 : lp.tmps = tl := by rw [hlp]; rfl
  obtain ⟨lq, hB⟩ : ∃ B : ILoop, B = { lp with state := .busy } := ⟨_, rfl⟩
  have l5 : ({ lq with state := .ready, pending := .normal } : ILoop) = lp := by rw [hB, hlp]; rfl
  have l6 : lp.state = .ready := by rw [hlp]; rfl
  clear hlp
  obtain ⟨g, hg_, htl⟩ := explode htl
  rw [hg_] at ht3 ht5
  clear hg_
  have ht3' : g 3 = .pointer (some ⟨cb, 0, none⟩) := ht3
  have ht5' : g 5 = .pointer (some ⟨mb, 0, none⟩) := ht5
  clear ht3 ht5
  simp only [expand_succ, expand_zero, Nat.reduceAdd, ht3', ht5'] at htl
  obtain ⟨v, OV⟩ := Has.mx.1 (O.at 1 rfl)
  replace OV : Has ro h (Ob lp0 (.loop lp) :: Ob mb (.cells (mc { m with cl := v }) 1 false) :: Sc 2 cc v l :: Ob cb (.cells [.func (.func 33) #[] #[.pointer (some ⟨fb, 0, none⟩), .pointer (some ⟨lb, 0, none⟩)]] 1 false) :: Tk fb lb s :: R) := OV.at 2 rfl
  clear O
  refine round_isO OV (by rw [l3]; rfl) l6 ?_
  rw [← hB]
  clear hB
  simp (disch := first | assumption | omega | (simp only [wkD, oneCell, Option.isSome_some, *]; done) | (simp only [wkE, ne_eq]; omega)) only [l1, l3, l4, htl, gAsg, List.nil_append, wkF, X_region, X_seq, X_block, X_loop, X_cond, Y_box, Y_un, Y_store, Y_append, Y_makeMap, Y_buildSlice, ibin_shl, ibin_shr, ibin_and, ↓reduceIte, reduceCtorEq, oneCell, setAt, readN, Nat.reduceAdd, Nat.reduceLeDiff, Nat.reduceMul, layAt, Nat.reduceLT, Nat.reduceEqDiff, setParams, Int.reduceLT, Int.reduceLE, Int.reduceGT, Int.reduceGE, Int.reduceEq, Int.reduceNe]
  refine Is_in ⟨rfl, _, OV, fun h3 O3 => ?_⟩
  clear htl l4 OV
  have gC : readC (h3.get cb) 0 1 = some [.func (.func 33) #[] #[.pointer (some ⟨fb, 0, none⟩), .pointer (some ⟨lb, 0, none⟩)]] := by rw [O3.get 3 rfl]; rfl
  have hv := tk_lt (k := 1) hs
  simp only [Nat.reducePow] at hv
  have wu : IntKind.i64.wrap (IntKind.i8.wrap ((tk 1 s).1 : Int)) = IntKind.i8.wrap ((tk 1 s).1 : Int) := wrap_i64 (by have := i8_rng ((tk 1 s).1 : Int); omega) (by have := i8_rng ((tk 1 s).1 : Int); omega)
  simp (disch := first | assumption | omega | (simp only [wkD, oneCell, Option.isSome_some, *]; done) | (simp only [wkE, ne_eq]; omega)) only [l2, gBody, gC, wkF, X_region, X_seq, X_block, X_loop, X_cond, Y_box, Y_un, Y_store, Y_append, Y_makeMap, Y_buildSlice, ibin_shl, ibin_shr, ibin_and, ↓reduceIte, reduceCtorEq, oneCell, setAt, readN, Nat.reduceAdd, Nat.reduceLeDiff, Nat.reduceMul, layAt, Nat.reduceLT, Nat.reduceEqDiff, setParams, Int.reduceLT, Int.reduceLE, Int.reduceGT, Int.reduceGE, Int.reduceEq, Int.reduceNe]
  refine Z_is (take_h (n := k) (k := 1) (by omega) (by omega) (by omega) (by omega) hs (O3.at 4 rfl)) ?_
  rintro w h4 ⟨rfl, O4⟩
  replace O4 : Has ro h4 (Tk fb lb (tk 1 s).2 :: Ob lp0 (.loop lq) :: Ob mb (.cells (mc { m with cl := v }) 1 false) :: Sc 2 cc v l :: Ob cb (.cells [.func (.func 33) #[] #[.pointer (some ⟨fb, 0, none⟩), .pointer (some ⟨lb, 0, none⟩)]] 1 false) :: R) := O4
  have g4 := O4.get 2 rfl
  have p4 := O4.can 2 rfl
  have O5 := O4.set 2 rfl (.cells (mc { m with oth := (IntKind.i8.wrap ((tk 1 s).1 : Int)), cl := v }) 1 false)
  replace O5 : Has ro _ (Tk fb lb (tk 1 s).2 :: Ob lp0 (.loop lq) :: Ob mb (.cells (mc { m with oth := (IntKind.i8.wrap ((tk 1 s).1 : Int)), cl := v }) 1 false) :: Sc 2 cc v l :: Ob cb (.cells [.func (.func 33) #[] #[.pointer (some ⟨fb, 0, none⟩), .pointer (some ⟨lb, 0, none⟩)]] 1 false) :: R) := O5
  have hst : setAt (mc { m with cl := v }) 7 [.int .i64 (IntKind.i8.wrap ((tk 1 s).1 : Int))] = mc { m with oth := (IntKind.i8.wrap ((tk 1 s).1 : Int)), cl := v } := by simp [setAt, mc]
  simp (disch := first | assumption | omega | (simp only [wkD, oneCell, Option.isSome_some, *]; done) | (simp only [wkE, ne_eq]; omega)) only [wu, g4, p4, hst, mc_len, wkF, X_region, X_seq, X_block, X_loop, X_cond, Y_box, Y_un, Y_store, Y_append, Y_makeMap, Y_buildSlice, ibin_shl, ibin_shr, ibin_and, ↓reduceIte, reduceCtorEq, oneCell, readN, Nat.reduceAdd, Nat.reduceLeDiff, Nat.reduceMul, layAt, Nat.reduceLT, Nat.reduceEqDiff, setParams, Int.reduceLT, Int.reduceLE, Int.reduceGT, Int.reduceGE, Int.reduceEq, Int.reduceNe]
  have O6 : Has ro _ (Mx mb { m with oth := (IntKind.i8.wrap ((tk 1 s).1 : Int)) } l :: Tk fb lb (tk 1 s).2 :: Ob lp0 (.loop lq) :: Ob cb (.cells [.func (.func 33) #[] #[.pointer (some ⟨fb, 0, none⟩), .pointer (some ⟨lb, 0, none⟩)]] 1 false) :: R) := Has.mx.2 ⟨v, (O5.at 3 rfl).at 3 rfl⟩
  refine Is_in ⟨_, _, O6.at 2 rfl, fun h7 O7 => ⟨rfl, ?_⟩⟩
  replace O7 : Has ro h7 (Ob lp0 (.loop { lq with state := .ready, pending := .normal }) :: Mx mb { m with oth := (IntKind.i8.wrap ((tk 1 s).1 : Int)) } l :: Tk fb lb (tk 1 s).2 :: Ob cb (.cells [.func (.func 33) #[] #[.pointer (some ⟨fb, 0, none⟩), .pointer (some ⟨lb, 0, none⟩)]] 1 false) :: R) := O7
  rw [l5] at O7
  exact (O7.at 3 rfl).at 2 rfl |>.at 2 rfl
theorem msg_y8 {k D lp0 mb cb fb lb : Nat} {tl : List Value} (htl : tl.length = 75) (ht3 : tl.getD 3 undefV = .pointer (some ⟨cb, 0, none⟩)) (ht5 : tl.getD 5 undefV = .pointer (some ⟨mb, 0, none⟩)) (hk : 400 < k) (hs : ∀ b ∈ s.1, b < 256) (hsl : s.1.length ≤ 2000) (hl : l.length ≤ 5000)
    (O : Has ro h (Ob lp0 (.loop (gLoop D tl)) :: Mx mb m l :: Ob cb (.cells [.func (.func 33) #[] #[.pointer (some ⟨fb, 0, none⟩), .pointer (some ⟨lb, 0, none⟩)]] 1 false) :: Tk fb lb s :: R)) :
    (callV env (k + 1) (.func (.yield lp0) #[] #[]) [.int .i64 8] h).Is fun q => q.1 = .bool true ∧ Has ro q.2 (Ob lp0 (.loop (gLoop D tl)) :: Mx mb (fldS 8 (m, l, s)).1 (fldS 8 (m, l, s)).2.1 :: Ob cb (.cells [.func (.func 33) #[] #[.pointer (some ⟨fb, 0, none⟩), .pointer (some ⟨lb, 0, none⟩)]] 1 false) :: Tk fb lb (fldS 8 (m, l, s)).2.2 :: R) := by
  obtain ⟨k, rfl⟩ : ∃ j, k = j + 1 := ⟨k - 1, by omega⟩
  rw [callV_yield]
  obtain ⟨lp, hlp⟩ : ∃ lp, lp = gLoop D tl := ⟨_, rfl⟩
  rw [← hlp] at O ⊢
  have l1 : lp.assign = gAsg := by rw [hlp]; rfl
  have l2 : lp.body = gBody := by rw [hlp]; rfl
  have l3 : lp.params = [11] := by rw [hlp]; rfl
  have l4 : lp.tmps = tl := by rw [hlp]; rfl
  obtain ⟨lq, hB⟩ : ∃ B : ILoop, B = { lp with state := .busy } := ⟨_, rfl⟩
  have l5 : ({ lq with state := .ready, pending := .normal } : ILoop) = lp := by rw [hB, hlp]; rfl
  have l6 : lp.state = .ready := by rw [hlp]; rfl
  clear hlp
  obtain ⟨g, hg_, htl⟩ := explode htl
  rw [hg_] at ht3 ht5
  clear hg_
  have ht3' : g 3 = .pointer (some ⟨cb, 0, none⟩) := ht3
  have ht5' : g 5 = .pointer (some ⟨mb, 0, none⟩) := ht5
  clear ht3 ht5
  simp only [expand_succ, expand_zero, Nat.reduceAdd, ht3', ht5'] at htl
  obtain ⟨v, OV⟩ := Has.mx.1 (O.at 1 rfl)
  replace OV : Has ro h (Ob lp0 (.loop lp) :: Ob mb (.cells (mc { m with cl := v }) 1 false) :: Sc 2 cc v l :: Ob cb (.cells [.func (.func 33) #[] #[.pointer (some ⟨fb, 0, none⟩), .pointer (some ⟨lb, 0, none⟩)]] 1 false) :: Tk fb lb s :: R) := OV.at 2 rfl
  clear O
  refine round_isO OV (by rw [l3]; rfl) l6 ?_
  rw [← hB]
  clear hB
  simp (disch := first | assumption | omega | (simp only [wkD, oneCell, Option.isSome_some, *]; done) | (simp only [wkE, ne_eq]; omega)) only [l1, l3, l4, htl, gAsg, List.nil_append, wkF, X_region, X_seq, X_block, X_loop, X_cond, Y_box, Y_un, Y_store, Y_append, Y_makeMap, Y_buildSlice, ibin_shl, ibin_shr, ibin_and, ↓reduceIte, reduceCtorEq, oneCell, setAt, readN, Nat.reduceAdd, Nat.reduceLeDiff, Nat.reduceMul, layAt, Nat.reduceLT, Nat.reduceEqDiff, setParams, Int.reduceLT, Int.reduceLE, Int.reduceGT, Int.reduceGE, Int.reduceEq, Int.reduceNe]
  refine Is_in ⟨rfl, _, OV, fun h3 O3 => ?_⟩
  clear htl l4 OV
  have gC : readC (h3.get cb) 0 1 = some [.func (.func 33) #[] #[.pointer (some ⟨fb, 0, none⟩), .pointer (some ⟨lb, 0, none⟩)]] := by rw [O3.get 3 rfl]; rfl
  have hv := tk_lt (k := 1) hs
  simp only [Nat.reducePow] at hv
  simp (disch := first | assumption | omega | (simp only [wkD, oneCell, Option.isSome_some, *]; done) | (simp only [wkE, ne_eq]; omega)) only [l2, gBody, gC, wkF, X_region, X_seq, X_block, X_loop, X_cond, Y_box, Y_un, Y_store, Y_append, Y_makeMap, Y_buildSlice, ibin_shl, ibin_shr, ibin_and, ↓reduceIte, reduceCtorEq, oneCell, setAt, readN, Nat.reduceAdd, Nat.reduceLeDiff, Nat.reduceMul, layAt, Nat.reduceLT, Nat.reduceEqDiff, setParams, Int.reduceLT, Int.reduceLE, Int.reduceGT, Int.reduceGE, Int.reduceEq, Int.reduceNe]
  refine Z_is (take_h (n := k) (k := 1) (by omega) (by omega) (by omega) (by omega) hs (O3.at 4 rfl)) ?_
  rintro w h4 ⟨rfl, O4⟩
  replace O4 : Has ro h4 (Tk fb lb (tk 1 s).2 :: Ob lp0 (.loop lq) :: Ob mb (.cells (mc { m with cl := v }) 1 false) :: Sc 2 cc v l :: Ob cb (.cells [.func (.func 33) #[] #[.pointer (some ⟨fb, 0, none⟩), .pointer (some ⟨lb, 0, none⟩)]] 1 false) :: R) := O4
  simp (disch := first | assumption | omega | (simp only [wkD, oneCell, Option.isSome_some, *]; done) | (simp only [wkE, ne_eq]; omega)) only [wkF, X_region, X_seq, X_block, X_loop, X_cond, Y_box, Y_un, Y_store, Y_append, Y_makeMap, Y_buildSlice, ibin_shl, ibin_shr, ibin_and, ↓reduceIte, reduceCtorEq, oneCell, setAt, readN, Nat.reduceAdd, Nat.reduceLeDiff, Nat.reduceMul, layAt, Nat.reduceLT, Nat.reduceEqDiff, setParams, Int.reduceLT, Int.reduceLE, Int.reduceGT, Int.reduceGE, Int.reduceEq, Int.reduceNe]
  have hs1 := tk_by (k := 1) hs
  have hl1 := tk_len (k := 1) (s := s)
  have e8 : fldS 8 (m, l, s) = (m, clS (tk 1 s).1 (l, (tk 1 s).2)) := rfl
  rw [e8]
  clear O3 gC e8
  generalize (tk 1 s).1 = N at hv ⊢
  generalize (tk 1 s).2 = s1 at O4 hs1 hl1 ⊢
  have O5 : Has ro h4 (Mx mb m l :: Ob cb (.cells [.func (.func 33) #[] #[.pointer (some ⟨fb, 0, none⟩), .pointer (some ⟨lb, 0, none⟩)]] 1 false) :: Tk fb lb s1 :: Ob lp0 (.loop lq) :: R) := Has.mx.2 ⟨v, (O4.at 1 rfl).at 1 rfl |>.at 4 rfl |>.at 4 rfl |>.at 4 rfl⟩
  refine L_is (fun q s => ∃ (i : Nat), s.defers = [] ∧ s.tmps.length = 75 ∧ s.tmps.getD 3 undefV = .pointer (some ⟨cb, 0, none⟩) ∧ s.tmps.getD 5 undefV = .pointer (some ⟨mb, 0, none⟩) ∧ s.tmps.getD 58 undefV = .int .u64 (N : Int) ∧ s.tmps.getD 59 undefV = .int .u64 (i : Int) ∧ q = N - i ∧ i ≤ N ∧ Has ro s.h (Mx mb m (clS i (l, s1)).1 :: Ob cb (.cells [.func (.func 33) #[] #[.pointer (some ⟨fb, 0, none⟩), .pointer (some ⟨lb, 0, none⟩)]] 1 false) :: Tk fb lb (clS i (l, s1)).2 :: Ob lp0 (.loop lq) :: R)) N ?_ (by omega) ?_
  · exact ⟨0, rfl, rfl, rfl, rfl, rfl, rfl, rfl, by omega, O5⟩
  clear O4 O5
  clear v
  rintro q_ tm df h5 ⟨i, hd, hlen_, g3, g5, g58, g59, hq, hi, O⟩
  simp only at hd g3 g5 g58 g59 O
  subst hd
  obtain ⟨w, hg_, rfl⟩ := explode hlen_
  simp only [hg_] at g3 g5 g58 g59
  clear hlen_ hg_
  by_cases hlt : i < N
  · have hlt' : (i : Int) < (N : Int) := by omega
    have y1 : IntKind.u64.wrap ((i : Int) + 1) = ((i + 1 : Nat) : Int) := by rw [wrap_u64 (by omega) (by omega)]; omega
    have hc1 := clS_by (n := i) (x := (l, s1)) hs1
    have hc2 := clS_len (n := i) (x := (l, s1))
    have hc3 := clS_cl (n := i) (x := (l, s1))
    simp only at hc2 hc3
    obtain ⟨l2', s2, hx⟩ : ∃ a b, clS i (l, s1) = (a, b) := ⟨_, _, rfl⟩
    have hx1 : clS (i + 1) (l, s1) = (l2' ++ [⟨((tk 2 s2).1 : Int), (tk 4 (tk 2 s2).2).1⟩], (tk 4 (tk 2 s2).2).2) := by
      show ((clS i (l, s1)).1 ++ [⟨((tk 2 (clS i (l, s1)).2).1 : Int), (tk 4 (tk 2 (clS i (l, s1)).2).2).1⟩], (tk 4 (tk 2 (clS i (l, s1)).2).2).2) = _
      rw [hx]
    rw [hx] at O hc1 hc2 hc3
    simp only at hc1 hc2 hc3
    obtain ⟨v, O6⟩ := Has.mx.1 O
    replace O6 : Has ro h5 (Ob mb (.cells (mc { m with cl := v }) 1 false) :: Ob cb (.cells [.func (.func 33) #[] #[.pointer (some ⟨fb, 0, none⟩), .pointer (some ⟨lb, 0, none⟩)]] 1 false) :: Tk fb lb s2 :: Sc 2 cc v l2' :: Ob lp0 (.loop lq) :: R) := (O6.at 3 rfl).at 3 rfl |>.at 2 rfl
    obtain ⟨bs, hbs, hnm, hnc⟩ := tk_plan O6
    have lm : mb < 2 * h5.next := (O6.info (i := 0) rfl).2.2.2.1
    have lc : cb < 2 * h5.next := (O6.info (i := 1) rfl).2.2.2.1
    have r8 : readC (h5.get mb) 8 1 = some [v] := (rdm (O6.get 0 rfl)).2.2.2.2.2.2.2.2.1
    have rc : readC (h5.get cb) 0 1 = some [.func (.func 33) #[] #[.pointer (some ⟨fb, 0, none⟩), .pointer (some ⟨lb, 0, none⟩)]] := by rw [O6.get 1 rfl]; rfl
    have t2l := tk_lt (k := 2) hc1
    have t4l := tk_lt (k := 4) (tk_by (k := 2) hc1)
    simp only [Nat.reducePow] at t2l t4l
    have hb2 := tk_by (k := 2) hc1
    have hl2 := tk_len (k := 2) (s := s2)
    have w2 : IntKind.i64.wrap ((tk 2 s2).1 : Int) = ((tk 2 s2).1 : Int) := wrap_i64 (by omega) (by omega)
    have w4 : IntKind.u32.wrap ((tk 4 (tk 2 s2).2).1 : Int) = ((tk 4 (tk 2 s2).2).1 : Int) := u32_of t4l
    obtain ⟨⟨v7, h7⟩, e7, hv7, O7⟩ := (take_h (n := k) (k := 2) (by omega) (by omega) (by omega) (by omega) hc1 (O6.at 2 rfl)).ex
    simp only at hv7
    subst hv7
    replace O7 : Has ro h7 (Ob mb (.cells (mc { m with cl := v }) 1 false) :: Ob cb (.cells [.func (.func 33) #[] #[.pointer (some ⟨fb, 0, none⟩), .pointer (some ⟨lb, 0, none⟩)]] 1 false) :: Tk fb lb (tk 2 s2).2 :: Sc 2 cc v l2' :: Ob lp0 (.loop lq) :: R) := (show Has ro h7 (Tk fb lb (tk 2 s2).2 :: Ob mb (.cells (mc { m with cl := v }) 1 false) :: Ob cb (.cells [.func (.func 33) #[] #[.pointer (some ⟨fb, 0, none⟩), .pointer (some ⟨lb, 0, none⟩)]] 1 false) :: Sc 2 cc v l2' :: Ob lp0 (.loop lq) :: R) from O7).at 2 rfl |>.at 2 rfl
    obtain ⟨bs7, hbs7, hnm7, hnc7⟩ := tk_plan O7
    simp (disch := first | assumption | omega | (simp only [wkD, oneCell, Option.isSome_some, *]; done) | (simp only [wkE, ne_eq]; omega)) only [g3, g5, g58, g59, hlt', wkF, X_region, X_seq, X_block, X_loop, X_cond, Y_box, Y_un, Y_store, Y_append, Y_makeMap, Y_buildSlice, ibin_shl, ibin_shr, ibin_and, ↓reduceIte, reduceCtorEq, oneCell, setAt, readN, Nat.reduceAdd, Nat.reduceLeDiff, Nat.reduceMul, layAt, Nat.reduceLT, Nat.reduceEqDiff, setParams, Int.reduceLT, Int.reduceLE, Int.reduceGT, Int.reduceGE, Int.reduceEq, Int.reduceNe]
    refine X_plan [[], [], [], bs, [], [], bs7] O6.fine ?_
    refine Dp.fieldAddr rfl ?_
    refine Dp.load1 rfl r8 (fun k _ => notin36 hnm hnm7 k) (fun x hx => by cases hx) ?_
    refine Dp.load1 rfl rc (fun k _ => notin36 hnc hnc7 k) (fun x hx => by cases hx) ?_
    simp only [putDst_some, putDst_none, List.set_cons_succ, List.set_cons_zero]
    refine Dp.callFree (R := fun q => q = (.int .u64 ((tk 2 s2).1 : Int), h7)) O6.fine (T.Is.mono (fun _ _ => trivial) (take_h (n := k) (k := 2) (by omega) (by omega) (by omega) (by omega) hc1 (Has.seen (O6.at 2 rfl) hbs (fun k hk => plan36a k (unord_ne hk) (fun e => by subst e; exact absurd hk (by decide)))))) (by
      show (callV env (k + 1) (.func (.func 33) #[] #[.pointer (some ⟨fb, 0, none⟩), .pointer (some ⟨lb, 0, none⟩)]) [.int .i64 ((2 : Nat) : Int)] h5).Is _
      rw [e7]
      exact Is_in rfl) ?_
    rintro v7 h7' e7'
    cases e7'
    simp only [putDst_some, putDst_none, List.set_cons_succ, List.set_cons_zero]
    refine Dp.conv rfl w2 ?_
    have rc7 : readC (h7.get cb) 0 1 = some [.func (.func 33) #[] #[.pointer (some ⟨fb, 0, none⟩), .pointer (some ⟨lb, 0, none⟩)]] := by rw [O7.get 1 rfl]; rfl
    refine Dp.load1 rfl rc7 (fun k _ => notin36 hnc hnc7 k) (fr_ok lc) ?_
    simp only [putDst_some, putDst_none, List.set_cons_succ, List.set_cons_zero]
    refine Dp.callFree (R := fun q => q.1 = .int .u64 ((tk 4 (tk 2 s2).2).1 : Int) ∧ Has ro q.2 (Tk fb lb (tk 4 (tk 2 s2).2).2 :: Ob mb (.cells (mc { m with cl := v }) 1 false) :: Ob cb (.cells [.func (.func 33) #[] #[.pointer (some ⟨fb, 0, none⟩), .pointer (some ⟨lb, 0, none⟩)]] 1 false) :: Sc 2 cc v l2' :: Ob lp0 (.loop lq) :: R)) O7.fine (T.Is.mono (fun _ _ => trivial) (by
      rw [seen_anc (fun x hx => by
        split at hx
        · rw [List.mem_singleton] at hx; subst hx; rfl
        · cases hx)]
      exact take_h (n := k) (k := 4) (by omega) (by omega) (by omega) (by omega) hb2 (Has.seen (O7.at 2 rfl) hbs7 (fun k hk => plan36b k (unord_ne hk) (fun e => by subst e; exact absurd hk (by decide)))))) (take_h (n := k) (k := 4) (by omega) (by omega) (by omega) (by omega) hb2 (O7.at 2 rfl)) ?_
    rintro v9 h9 ⟨rfl, O9⟩
    replace O9 : Has ro h9 (Tk fb lb (tk 4 (tk 2 s2).2).2 :: Ob mb (.cells (mc { m with cl := v }) 1 false) :: Ob cb (.cells [.func (.func 33) #[] #[.pointer (some ⟨fb, 0, none⟩), .pointer (some ⟨lb, 0, none⟩)]] 1 false) :: Sc 2 cc v l2' :: Ob lp0 (.loop lq) :: R) := O9
    simp only [putDst_some, putDst_none, List.set_cons_succ, List.set_cons_zero]
    refine Dp.conv rfl w4 ?_
    simp only [putDst_some, putDst_none, List.set_cons_succ, List.set_cons_zero]
    refine Dp.pure (v := .agg (cc ⟨((tk 2 s2).1 : Int), (tk 4 (tk 2 s2).2).1⟩).toArray) rfl rfl ?_
    simp only [putDst_some, putDst_none, List.set_cons_succ, List.set_cons_zero]
    refine Dp.buildFree O9 (cs := cc ⟨((tk 2 s2).1 : Int), (tk 4 (tk 2 s2).2).1⟩) rfl ?_
    intro b10 h10 O10 hn10 e10
    have V10 : Vw 2 cc h10 (.slice (some ⟨b10, 0, none⟩) 1 1) [⟨((tk 2 s2).1 : Int), (tk 4 (tk 2 s2).2).1⟩] := O10.one 0 rfl
    obtain ⟨w, h11, ap, O11⟩ := sc_appendV (bytes := 16) (by omega) cc_len (fun x => rfl) (O10.at 4 rfl) V10 (by simp only [List.length_cons, List.length_nil]; unfold roomMost; omega) (by omega)
    replace O11 : Has ro h11 (Sc 2 cc w (l2' ++ [⟨((tk 2 s2).1 : Int), (tk 4 (tk 2 s2).2).1⟩]) :: Ob b10 (.cells (cc ⟨((tk 2 s2).1 : Int), (tk 4 (tk 2 s2).2).1⟩) 2 false) :: Tk fb lb (tk 4 (tk 2 s2).2).2 :: Ob mb (.cells (mc { m with cl := v }) 1 false) :: Ob cb (.cells [.func (.func 33) #[] #[.pointer (some ⟨fb, 0, none⟩), .pointer (some ⟨lb, 0, none⟩)]] 1 false) :: Ob lp0 (.loop lq) :: R) := O11
    simp only [putDst_some, putDst_none, List.set_cons_succ, List.set_cons_zero]
    obtain ⟨z1, z2⟩ := scOne O11 0 rfl
    refine Dp.appendB ap ?_
    refine Dp.fieldAddr rfl ?_
    refine Dp.storeB O11 3 rfl rfl (by show (cellsOf w).length = 1; rw [z1]; rfl) (by show 8 + 1 ≤ 9; omega) (by show (cellsOf w).all oneCell = true; rw [z1]; simp [z2]) ?_
    intro h12 O12
    replace O12 : Has ro h12 (Sc 2 cc w (l2' ++ [⟨((tk 2 s2).1 : Int), (tk 4 (tk 2 s2).2).1⟩]) :: Ob b10 (.cells (cc ⟨((tk 2 s2).1 : Int), (tk 4 (tk 2 s2).2).1⟩) 2 false) :: Tk fb lb (tk 4 (tk 2 s2).2).2 :: Ob mb (.cells (setAt (mc { m with cl := v }) 8 (cellsOf w)) 1 false) :: Ob cb (.cells [.func (.func 33) #[] #[.pointer (some ⟨fb, 0, none⟩), .pointer (some ⟨lb, 0, none⟩)]] 1 false) :: Ob lp0 (.loop lq) :: R) := O12
    have e1 : setAt (mc { m with cl := v }) 8 (cellsOf w) = mc { m with cl := w } := by rw [z1]; simp [setAt, mc]
    rw [e1] at O12
    refine Dp.nil ?_
    simp (disch := first | assumption | omega | (simp only [wkD, oneCell, Option.isSome_some, *]; done) | (simp only [wkE, ne_eq]; omega)) only [g3, g5, g58, g59, y1, wkF, X_region, X_seq, X_block, X_loop, X_cond, Y_box, Y_un, Y_store, Y_append, Y_makeMap, Y_buildSlice, ibin_shl, ibin_shr, ibin_and, ↓reduceIte, reduceCtorEq, oneCell, setAt, readN, Nat.reduceAdd, Nat.reduceLeDiff, Nat.reduceMul, layAt, Nat.reduceLT, Nat.reduceEqDiff, setParams, Int.reduceLT, Int.reduceLE, Int.reduceGT, Int.reduceGE, Int.reduceEq, Int.reduceNe]
    refine Is_in ⟨N - (i + 1), by omega, i + 1, rfl, rfl, rfl, rfl, rfl, rfl, rfl, by omega, ?_⟩
    rw [hx1]
    exact Has.mx.2 ⟨w, ((O12.rid 1 rfl).at 1 rfl).at 3 rfl |>.at 2 rfl |>.at 3 rfl⟩
  · have hlt' : ¬ (i : Int) < (N : Int) := by omega
    have hiN : i = N := by omega
    subst hiN
    simp (disch := first | assumption | omega | (simp only [wkD, oneCell, Option.isSome_some, *]; done) | (simp only [wkE, ne_eq]; omega)) only [g3, g5, g58, g59, hlt', wkF, X_region, X_seq, X_block, X_loop, X_cond, Y_box, Y_un, Y_store, Y_append, Y_makeMap, Y_buildSlice, ibin_shl, ibin_shr, ibin_and, ↓reduceIte, reduceCtorEq, oneCell, setAt, readN, Nat.reduceAdd, Nat.reduceLeDiff, Nat.reduceMul, layAt, Nat.reduceLT, Nat.reduceEqDiff, setParams, Int.reduceLT, Int.reduceLE, Int.reduceGT, Int.reduceGE, Int.reduceEq, Int.reduceNe]
    refine Is_in ?_
    simp (disch := first | assumption | omega | (simp only [wkD, oneCell, Option.isSome_some, *]; done) | (simp only [wkE, ne_eq]; omega)) only [wkF, X_region, X_seq, X_block, X_loop, X_cond, Y_box, Y_un, Y_store, Y_append, Y_makeMap, Y_buildSlice, ibin_shl, ibin_shr, ibin_and, ↓reduceIte, reduceCtorEq, oneCell, setAt, readN, Nat.reduceAdd, Nat.reduceLeDiff, Nat.reduceMul, layAt, Nat.reduceLT, Nat.reduceEqDiff, setParams, Int.reduceLT, Int.reduceLE, Int.reduceGT, Int.reduceGE, Int.reduceEq, Int.reduceNe]
    refine Is_in ⟨_, _, O.at 3 rfl, fun h7 O7 => ⟨rfl, ?_⟩⟩
    replace O7 : Has ro h7 (Ob lp0 (.loop { lq with state := .ready, pending := .normal }) :: Mx mb m (clS i (l, s1)).1 :: Ob cb (.cells [.func (.func 33) #[] #[.pointer (some ⟨fb, 0, none⟩), .pointer (some ⟨lb, 0, none⟩)]] 1 false) :: Tk fb lb (clS i (l, s1)).2 :: R) := O7
    rw [l5] at O7
    exact O7
end
end Go.Proofs.YtpodmgbnldmlcaaDoor
