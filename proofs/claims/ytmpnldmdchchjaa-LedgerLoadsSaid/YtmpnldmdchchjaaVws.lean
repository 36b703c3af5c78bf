import Derived.Test.YtmpnldmdchchjaaFk
import Derived.Test.YtmpnldmdchchjaaWri
namespace Go.Proofs.Ytmpnldmdchchjaa
open Go Go.Ideal Go.ChangeShapes Go.RowKit
set_option maxHeartbeats 0
set_option linter.unusedSimpArgs false
set_option linter.unusedVariables false
set_option maxRecDepth 100000
attribute [local irreducible] callV T.All T.Is run
def bE (e : En) : List Nat := if e = e0 then [] else b5 e
def sE (e : En) : ByteArray := strB (bE e)
theorem sE_ne (e : En) : ibin .neq (.string (sE e)) (.string ⟨#[]⟩) = some (.bool (decide (e ≠ e0))) := by
  unfold sE bE
  by_cases h : e = e0
  · rw [if_pos h]
    simp only [h, ne_eq, not_true, decide_false]
    exact str_ne _
  · rw [if_neg h]
    have h1 : ibin .neq (.string (strB (b5 e))) (.string ⟨#[]⟩) = some (.bool (!((strB (b5 e)).toList == (⟨#[]⟩ : ByteArray).toList))) := by rfl
    have h2 : (strB (b5 e)).toList ≠ (⟨#[]⟩ : ByteArray).toList := by
      rw [ByteArray.toList_eq, ByteArray.toList_eq]
      intro hh
      have := congrArg List.length hh
      simp [strB, b5] at this
    rw [h1, beq_false_of_ne h2, decide_eq_true h]
    rfl
def sl (f : Int → En) (C : Nat) : List Value := (List.range C).map fun c : Nat => .string (sE (f (c : Int)))
theorem sl_len (f : Int → En) (C : Nat) : (sl f C).length = C := by unfold sl; simp
theorem sl_get (f : Int → En) {C n : Nat} (h : n < C) : (sl f C)[n]? = some (.string (sE (f (n : Int)))) := by unfold sl; simp [h]
theorem sl_rd (f : Int → En) {C n : Nat} (h : n < C) {z : Nat} {t : Bool} : readC (some (.cells (sl f C) z t)) n 1 = some [.string (sE (f (n : Int)))] := by
  have hl := sl_len f C
  have hg := sl_get f h
  simp only [readC, readN]
  rw [if_pos (by omega)]
  congr 1
  rw [List.take_one, List.head?_drop, hg]
  rfl
theorem sl_set (f : Int → En) {C n : Nat} (h : n < C) (e : En) : (sl f C).set n (.string (sE e)) = sl (fun x => if x = (n : Int) then e else f x) C := by
  refine List.ext_getElem? fun k => ?_
  rw [List.getElem?_set]
  by_cases hk : k < C
  · rw [sl_len]
    by_cases e1 : n = k
    · subst e1
      rw [if_pos rfl, if_pos h, sl_get _ h, if_pos rfl]
    · rw [if_neg e1, sl_get _ hk, sl_get _ hk, if_neg (by omega)]
  · have h1 : (sl f C)[k]? = none := List.getElem?_eq_none (by rw [sl_len]; omega)
    have h2 : (sl (fun x => if x = (n : Int) then e else f x) C)[k]? = none := List.getElem?_eq_none (by rw [sl_len]; omega)
    rw [if_neg (by omega), h1, h2]
theorem sl_congr {f g : Int → En} (h : ∀ x, f x = g x) (C : Nat) : sl f C = sl g C := by
  have : f = g := funext h
  rw [this]
theorem sl_zero (C : Nat) : (List.replicate C [(.string ⟨#[]⟩ : Value)]).flatten = sl (fun _ => e0) C := by
  refine List.ext_getElem? fun k => ?_
  have hs : sE e0 = ⟨#[]⟩ := rfl
  have hfl : ∀ C : Nat, (List.replicate C [(.string ⟨#[]⟩ : Value)]).flatten = List.replicate C (.string ⟨#[]⟩) := by
    intro C
    induction C with
    | zero => rfl
    | succ C ih => rw [List.replicate_succ, List.flatten_cons, ih, List.replicate_succ]; rfl
  rw [hfl]
  by_cases hk : k < C
  · rw [sl_get _ hk, hs]
    simp [hk]
  · rw [List.getElem?_eq_none (by simp; omega), List.getElem?_eq_none (by rw [sl_len]; omega)]
section
variable {ro : Nat → Option (List Value × Nat)} {h : Heap} {R : List Rs} {n : Nat}
theorem Has.dtVw {d : Option Nat} {e : En} (O : Has ro h (Dt d e :: R)) : Vw 1 bx h (dvv d) (bE e) := by
  cases d with
  | none =>
    obtain ⟨he, _⟩ := Has.and.1 O
    unfold bE
    rw [if_pos he]
    exact Vw.nil h none 0
  | some b =>
    obtain ⟨he, O1⟩ := Has.and.1 O
    unfold bE
    rw [if_neg he]
    have g := O1.get 0 rfl
    have i := O1.info (i := 0) rfl
    rw [e5_eq] at g
    exact ⟨some ⟨b, 0, none⟩, 5, rfl, Nat.le_refl _, fun _ => ⟨b, 0, none, [], [], 1, false, rfl, Or.inl rfl, rfl, by rw [g, List.nil_append, List.append_nil], Or.inr i.2.2.2.1⟩⟩
theorem Has.dtsVw {ws : List Wr} (O : Has ro h (Dts ws :: R)) : ∀ w ∈ ws, Vw 1 bx h (dvv w.d) (bE w.e) := by
  intro w hw
  obtain ⟨i, hi, rfl⟩ := List.getElem_of_mem hw
  have O1 := Has.all.1 O
  have hg : ((ws.map fun w => Dt w.d w.e) ++ R)[i]? = some (Dt ws[i].d ws[i].e) := by
    rw [List.getElem?_append_left (by rw [List.length_map]; exact hi), List.getElem?_map, List.getElem?_eq_getElem hi]
    rfl
  exact Has.dtVw (O1.at i hg)
theorem Vw.mapV {α β : Type} {z : Nat} {g : α → List Value} {g' : β → List Value} {v : Value} {l : List α} (f : α → β) (V : Vw z g h v l) (hg : ∀ x, g x = g' (f x)) : Vw z g' h v (l.map f) := by
  obtain ⟨p, c, e, hc, k⟩ := V
  have hf : ∀ l : List α, (l.map f).flatMap g' = l.flatMap g := by
    intro l
    induction l with
    | nil => rfl
    | cons x l ih => rw [List.map_cons, List.flatMap_cons, List.flatMap_cons, ih, hg]
  refine ⟨p, c, by rw [List.length_map]; exact e, by rw [List.length_map]; exact hc, fun h0 => ?_⟩
  rw [List.length_map] at h0
  obtain ⟨b, off, sp, A, B, zz, t, k1, k2, k3, k4, k5⟩ := k h0
  exact ⟨b, off, sp, A, B, zz, t, k1, k2, k3, by rw [hf]; exact k4, k5⟩
def toR (w : Wr) : Rq := ⟨3, w.c, dvv w.d, bE w.e⟩
theorem wc_rq (w : Wr) : wc w = rq (toR w) := rfl
theorem bE_lt (e : En) (i : Nat) : at8 (bE e) i < 256 := by
  unfold bE
  split
  · unfold at8; simp
  · exact b5_lt e i
theorem okR_of {ws : List Wr} {v : Value} (O0 : Has ro h (Sc 3 wc v ws :: Dts ws :: R)) : ∀ x ∈ ws.map toR, OkR ro (Sc 3 wc v ws :: Dts ws :: R) x := by
  intro x hx
  obtain ⟨w, hw, rfl⟩ := List.mem_map.1 hx
  have hv : ∀ (M : List Rs) (h : Heap), Has ro h (M ++ (Sc 3 wc v ws :: Dts ws :: R)) → Vw 1 bx h (dvv w.d) (bE w.e) := by
    intro M h O
    have O1 : Has ro h (Dts ws :: (M ++ (Sc 3 wc v ws :: R))) := O.perm (by
      refine List.Perm.trans ?_ (List.perm_middle (a := Dts ws) (l₁ := M) (l₂ := Sc 3 wc v ws :: R))
      exact List.Perm.append_left M (List.Perm.swap _ _ _))
    exact Has.dtsVw O1 w hw
  refine ⟨?_, hv, bE_lt w.e⟩
  show ∃ p c, dvv w.d = .slice p (bE w.e).length c
  obtain ⟨p, c, e, _⟩ := hv [] h O0
  exact ⟨p, c, e⟩
theorem scVw {ws : List Wr} {v : Value} (M : List Rs) (h : Heap) (O : Has ro h (M ++ (Sc 3 wc v ws :: R))) : Vw 3 rq h v (ws.map toR) := by
  have O1 : Has ro h (Sc 3 wc v ws :: (M ++ R)) := O.perm List.perm_middle
  exact Vw.mapV toR (O1.vw 0 rfl) wc_rq
end
end Go.Proofs.Ytmpnldmdchchjaa
