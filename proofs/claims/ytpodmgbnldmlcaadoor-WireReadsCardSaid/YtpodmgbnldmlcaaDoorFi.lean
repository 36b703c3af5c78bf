/-
  THE START: whatever memory a call begins in is one that the ideal machine may read.
-/
import Derived.Test.YtpodmgbnldmlcaaDoorFh
import Derived.LaidMore
import Derived.Lay
import Derived.SevenTiedAt
namespace Go.Ideal
open Go Go.RowKit Go.ChangeShapes

/-- A cell of the model's as the ideal machine has it: the block b is the one with the number 2b + 1. -/
noncomputable def up1 : Value → Value
  | .pointer (some a) => .pointer (some ⟨2 * a.block + 1, a.off, none⟩)
  | .slice (some a) l c => .slice (some ⟨2 * a.block + 1, a.off, none⟩) l c
  | v => v

noncomputable def ok1 : Value → Bool
  | .bool _ | .int _ _ | .float _ _ | .complex _ _ _ | .string _ | .pointer none | .nilFunc | .nilIface | .map none | .slice none 0 0 => true
  | .pointer (some a) => a.spot.isNone
  | .slice (some a) l c => a.spot.isNone && decide (l ≤ c)
  | _ => false

noncomputable def up : Value → Value
  | .agg cs => .agg (cs.map up1)
  | v => up1 v

/-- What may be read of a world. -/
noncomputable def roW (W : World) (b : Nat) : Option (List Value × Nat) :=
  match W.heap[b]? with
  | some (.cells C _ _) => if C.toList.all ok1 then some (C.toList.map up1, 1) else none
  | _ => none

section
variable {P : Program} {W : World}

end
end Go.Ideal

/-
  VARIABLES THAT ARE LAID: what their cells hold, out of what they read as.
-/
namespace Go.Ideal
open Go Go.RowKit Go.ChangeShapes

/-- The cells of a datum of whole numbers, Bools, texts, and arrays and structs of these. -/
noncomputable def flatD {H : Type} (P : Program) : Nat → TypeId → DataW H → Option (List Value)
  | 0, _, _ => none
  | n + 1, t, d =>
    match P.underlying t, d with
    | some .bool, .lit (.bool b) => some [.bool b]
    | some (.int _), .lit (.int k z) => some [.int k z]
    | some .string, .lit (.string bs) => some [.string ⟨bs.toArray⟩]
    | some (.array m e), .agg ds => match ds.mapM (flatD P n e) with
      | some cs => if ds.length = m ∧ cs.all (fun c => c.length == P.cellsOf e) && P.cellsOf t == m * P.cellsOf e then some cs.flatten else none
      | none => none
    | some (.struct fs), .agg ds => match (fs.toList.zip ds).mapM (fun p => flatD P n p.1.type p.2) with
      | some cs => if ds.length = fs.size ∧ (fs.toList.zip cs).all (fun p => p.2.length == P.cellsOf p.1.type) ∧ (fs.toList.zipIdx.all fun p => p.1.offset == ((cs.take p.2).map List.length).sum) && P.cellsOf t == (cs.map List.length).sum then some cs.flatten else none
      | none => none
    | _, _ => none

/-- Pieces that follow one another make the whole. -/
theorem pieces : ∀ (cs : List (List Value)) (l : List Value) (o : Nat), (∀ i c, cs[i]? = some c → (l.drop (o + ((cs.take i).map List.length).sum)).take c.length = c) → l.length = o + (cs.map List.length).sum → l.drop o = cs.flatten
  | [], l, o, _, hl => by simp at hl ⊢; omega
  | c :: cs, l, o, h, hl => by
    have h0 := h 0 c rfl
    simp only [List.take_zero, List.map_nil, List.sum_nil, Nat.add_zero] at h0
    have ih := pieces cs l (o + c.length) (fun i x hx => by
      have := h (i + 1) x (by simpa using hx)
      simp only [List.take_succ_cons, List.map_cons, List.sum_cons] at this
      rw [← Nat.add_assoc] at this
      exact this) (by simp only [List.map_cons, List.sum_cons] at hl; omega)
    rw [List.flatten_cons, ← ih, ← List.take_append_drop c.length (l.drop o), h0, List.drop_drop]

theorem mapM_some {α β : Type} {f : α → Option β} : ∀ {l : List α} {r : List β}, l.mapM f = some r → r.length = l.length ∧ ∀ (i : Nat) (x : α), l[i]? = some x → ∃ y, r[i]? = some y ∧ f x = some y
  | [], r, h => by simp at h; subst h; exact ⟨rfl, fun i x hx => by simp at hx⟩
  | a :: l, r, h => by
    simp only [List.mapM_cons, Option.bind_eq_bind, Option.bind_eq_some_iff, Option.pure_def, Option.some.injEq] at h
    obtain ⟨b, hb, bs, hbs, rfl⟩ := h
    obtain ⟨h1, h2⟩ := mapM_some hbs
    refine ⟨by simp [h1], fun i x hx => ?_⟩
    cases i with
    | zero => simp at hx; subst hx; exact ⟨b, by simp, hb⟩
    | succ i => simp at hx ⊢; exact h2 i x hx

theorem sum_all : ∀ {cs : List (List Value)} {z : Nat}, cs.all (fun c => c.length == z) = true → (cs.map List.length).sum = cs.length * z
  | [], z, _ => by simp
  | c :: cs, z, h => by
    simp only [List.all_cons, Bool.and_eq_true, beq_iff_eq] at h
    simp only [List.map_cons, List.sum_cons, List.length_cons, sum_all h.2, h.1, Nat.add_mul]
    omega

theorem all_take {cs : List (List Value)} {z : Nat} (h : cs.all (fun c => c.length == z) = true) (i : Nat) : (cs.take i).all (fun c => c.length == z) = true := by
  simp only [List.all_eq_true] at h ⊢
  exact fun c hc => h c (List.mem_of_mem_take hc)

section
variable {P : Program} {H : Type} {enc : TypeId × Value → H} {W : World}

theorem trod_flat : ∀ {n fuel : Nat} {t : TypeId} {d : DataW H} {b : Nat} {sp : Nat → Bool} {hd : Bool} {cs c : List Value} {ps : List MemPlace}, DataW.trod enc P W b sp hd fuel t cs = some (d, ps) → flatD P n t d = some c → cs = c
  | 0, _, _, _, _, _, _, _, _, _, _, h => by simp [flatD] at h
  | n + 1, 0, _, _, _, _, _, _, _, _, h, _ => by simp [DataW.trod] at h
  | n + 1, fuel + 1, t, d, b, sp, hd, cs, c, ps, h, hf => by
    simp only [flatD] at hf
    split at hf
    · rename_i v hu
      cases hf
      simp only [DataW.trod, hu] at h
      split at h <;> first | (rename_i e _; cases e; done) | (cases h; done) | skip
      all_goals (rename_i e; cases e)
      cases h; rfl
    · rename_i k z hu
      cases hf
      simp only [DataW.trod, hu] at h
      split at h <;> first | (rename_i e _; cases e; done) | (cases h; done) | skip
      all_goals (rename_i e; cases e)
      split at h
      · rename_i hk; obtain ⟨rfl, _⟩ := hk; cases h; rfl
      · cases h
    · rename_i bs hu
      cases hf
      simp only [DataW.trod, hu] at h
      split at h <;> first | (rename_i e _; cases e; done) | (cases h; done) | skip
      all_goals (rename_i e; cases e)
      split at h
      · cases h; simp
      · cases h
    · rename_i m e ds hu
      simp only [DataW.trod, hu] at h
      split at h
      · rename_i hlen
        simp only [Option.map_eq_some_iff, Prod.mk.injEq, DataW.agg.injEq] at h
        obtain ⟨xs, hxs, hds, _⟩ := h
        obtain ⟨x1, x2⟩ := mapM_some hxs
        split at hf
        · rename_i cs0 hcs
          obtain ⟨c1, c2⟩ := mapM_some hcs
          split at hf
          · rename_i hc
            obtain ⟨hm, hc⟩ := hc
            simp only [Bool.and_eq_true, beq_iff_eq] at hc
            obtain ⟨hall, hsz⟩ := hc
            cases hf
            have hp := pieces cs0 cs 0 (fun i ci hi => ?_) (by rw [sum_all hall, Nat.zero_add, hlen, hsz, c1, hm])
            · simpa using hp
            · have hil := (List.getElem?_eq_some_iff.1 hi).1
              obtain ⟨x, e1, e2⟩ := x2 i i (List.getElem?_range (by omega))
              have hdi : ds[i]? = some x.1 := by rw [← hds]; simp [e1]
              obtain ⟨c', e3, e4⟩ := c2 i x.1 hdi
              rw [hi] at e3; cases e3
              have ih := trod_flat (n := n) (fuel := fuel) (d := x.1) (ps := x.2) e2 e4
              have hz : ci.length = P.cellsOf e := by simpa using List.all_eq_true.1 hall ci (List.mem_of_getElem? hi)
              rw [sum_all (all_take hall i), Nat.zero_add, List.length_take, Nat.min_eq_left (Nat.le_of_lt hil), hz]
              exact ih
          · cases hf
        · cases hf
      · cases h
    · rename_i fs ds hu
      simp only [DataW.trod, hu] at h
      split at h
      · rename_i hlen
        simp only [Option.map_eq_some_iff, Prod.mk.injEq, DataW.agg.injEq] at h
        obtain ⟨xs, hxs, hds, _⟩ := h
        obtain ⟨x1, x2⟩ := mapM_some hxs
        split at hf
        · rename_i cs0 hcs
          obtain ⟨c1, c2⟩ := mapM_some hcs
          split at hf
          · rename_i hc
            obtain ⟨hm, hall, hc⟩ := hc
            simp only [Bool.and_eq_true, beq_iff_eq] at hc
            obtain ⟨hoff, hsz⟩ := hc
            cases hf
            have hp := pieces cs0 cs 0 (fun i ci hi => ?_) (by rw [Nat.zero_add, hlen, hsz])
            · simpa using hp
            · have hil := (List.getElem?_eq_some_iff.1 hi).1
              have hif : i < fs.size := by rw [c1, List.length_zip, Array.length_toList] at hil; omega
              have hfi : fs.toList[i]? = some fs[i] := by simp [hif]
              obtain ⟨x, e1, e2⟩ := x2 i fs[i] hfi
              have hdi : ds[i]? = some x.1 := by rw [← hds, List.getElem?_map, e1]; rfl
              obtain ⟨c', e3, e4⟩ := c2 i (fs[i], x.1) (by rw [List.getElem?_zip_eq_some]; exact ⟨hfi, hdi⟩)
              rw [hi] at e3; cases e3
              have ih := trod_flat (n := n) (fuel := fuel) (d := x.1) (ps := x.2) e2 e4
              have hz : ci.length = P.cellsOf fs[i].type := by
                have := List.all_eq_true.1 hall (fs[i], ci) (List.mem_of_getElem? (i := i) (by rw [List.getElem?_zip_eq_some]; exact ⟨hfi, hi⟩))
                simpa using this
              have ho : fs[i].offset = ((cs0.take i).map List.length).sum := by
                have := List.all_eq_true.1 hoff (fs[i], i) (List.mem_of_getElem? (i := i) (by rw [List.getElem?_zipIdx, hfi]; simp))
                simpa using this
              rw [Nat.zero_add, hz, ← ho]
              exact ih
          · cases hf
        · cases hf
      · cases h
    · cases hf

theorem laid_var : ∀ {laid : List (String × DataW Unit)} {ps : List MemPlace} {n : String} {d : DataW Unit}, DataW.LaidVars P W laid ps → (n, d) ∈ laid →
    ∃ g t cs fuel p, P.globalNamed n = some g ∧ (P.globals[g]?).map (·.type) = some t ∧ W.var? P n = some cs ∧ DataW.trod (fun _ => ()) P W 0 (fun _ => true) false fuel t cs.toList = some (d, p)
  | [], _, _, _, _, hm => by cases hm
  | (n0, d0) :: r, ps, n, d, h, hm => by
    obtain ⟨g, t, cs, fuel, p, q, h1, h2, h3, h4, h5, _⟩ := h
    rcases List.mem_cons.1 hm with e | e
    · cases e; exact ⟨g, t, cs, fuel, p, h1, h2, h3, h4⟩
    · exact laid_var h5 e

/-- What may be read of a variable that is laid. -/
theorem laid_ro {laid : List (String × DataW Unit)} {n : String} {d : DataW Unit} {g k : Nat} {t : TypeId} {c : List Value} (hL : laidMet P laid W) (hm : (n, d) ∈ laid) (hg : P.globalNamed n = some g) (ht : (P.globals[g]?).map (·.type) = some t) (hf : flatD P k t d = some c) (hok : c.all ok1 = true) :
    roW W g = some (c.map up1, 1) := by
  obtain ⟨ps, hv, _⟩ := hL
  obtain ⟨g', t', cs, fuel, p, h1, h2, h3, h4⟩ := laid_var hv hm
  rw [hg] at h1; cases h1
  rw [ht] at h2; cases h2
  have hc := trod_flat h4 hf
  simp only [World.var?, hg, Option.bind_some] at h3
  split at h3
  · rename_i C e fr hC
    cases h3
    unfold roW
    rw [hC]
    simp only [hc, hok, if_true]
  · cases h3

/-- Tables that a run reads are pinned: the reading is as if each was written out. -/
noncomputable def pin (l : List (Nat × (List Value × Nat))) (ro : Nat → Option (List Value × Nat)) (b : Nat) : Option (List Value × Nat) :=
  match l with
  | [] => ro b
  | (g, x) :: r => if b = g then some x else pin r ro b

theorem pin_eq : ∀ {l : List (Nat × (List Value × Nat))} {ro : Nat → Option (List Value × Nat)}, (∀ p ∈ l, ro p.1 = some p.2) → pin l ro = ro
  | [], _, _ => rfl
  | (g, x) :: r, ro, h => by
    funext b
    simp only [pin]
    split
    · rename_i e; subst e; exact (h (b, x) (by simp)).symm
    · rw [pin_eq fun p hp => h p (by simp [hp])]

end
end Go.Ideal
