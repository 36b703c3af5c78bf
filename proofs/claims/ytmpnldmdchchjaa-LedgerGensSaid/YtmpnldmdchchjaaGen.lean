/-
  Whatever is called: generations never fall; who waits does not hold.
-/
import Derived.Test.YtmpnldmdchchjaaFk
import Derived.Test.YtmpnldmdchchjaaAli
namespace Go.Proofs.Ytmpnldmdchchjaa
open Go Go.Ideal Go.ChangeShapes Go.RowKit
set_option maxHeartbeats 0
set_option linter.unusedSimpArgs false
set_option linter.unusedVariables false
set_option maxRecDepth 100000
attribute [local irreducible] callV T.All T.Is run
/-- Robots that wait, each once. -/
def Once (l : List It) : Prop := (l.map (·.r)).Nodup
/-- What holds of a cell. -/
structure Gc (e : En) (l : List It) : Prop where
  o : Once l
  x : ∀ x ∈ l, x.r ≠ e.o ∧ 0 ≤ x.r
  m : l ≠ [] → e.o = -1 → e.g = 4294967295
/-- A cell's entry behind a call. -/
structure Ge (a b : En) : Prop where
  up : a.g ≤ b.g
  new : b.o ≠ a.o → b.o ≠ -1 → a.g < b.g
  old : b.o = a.o → b.o ≠ -1 → b.g = a.g
theorem Ge.refl (a : En) : Ge a a := ⟨Int.le_refl _, fun h => absurd rfl h, fun _ _ => rfl⟩
structure Gi (S : Ls) : Prop where
  w : Wf S
  c : ∀ c, Gc (S.E c) (S.W c)
theorem Gc.sub {e : En} {l l' : List It} (g : Gc e l) (h : l'.Sublist l) : Gc e l' := by
  refine ⟨g.o.sublist (h.map _), fun x hx => g.x x (h.subset hx), fun hn he => g.m (fun e => ?_) he⟩
  rw [e] at h
  exact hn (List.sublist_nil.1 h)
theorem cutis_sub {l l' : List It} {r : Int} {a : Bool} (h : CutIs l r a l') : l'.Sublist l := by
  rcases h with ⟨_, _, rfl⟩ | ⟨_, i, _, _, rfl⟩
  · exact List.Sublist.refl _
  · exact List.eraseIdx_sublist _ _
theorem gi_lz {a b c : Int} (h : Szs a b c) : Gi (lz a b c) := ⟨lz_wf h, fun x => ⟨List.nodup_nil, fun y hy => (by cases hy), fun h => absurd rfl h⟩⟩
theorem gi_gone {S : Ls} {r : Int} {W : Int → List It} (g : Gi S) (h : Gn S r S.N W) : Gi { S with W := W } := by
  refine ⟨gn_wf g.w h, fun c => ?_⟩
  show Gc (S.E c) (W c)
  by_cases h1 : ∃ i, i < S.N ∧ c = S.at i
  · obtain ⟨i, hi, rfl⟩ := h1
    obtain ⟨a, hc⟩ := h.on i hi
    exact (g.c _).sub (cutis_sub hc)
  · rw [h.off c fun i hi e => h1 ⟨i, hi, e⟩]
    exact g.c c
theorem gi_free {S S' : Ls} {o o' : Ou} {c : Int} (g : Gi S) (h : FreeTo S o c S' o') : Gi S' ∧ (∀ x, Ge (S.E x) (S'.E x)) ∧ ∀ x, x ≠ c → S'.E x = S.E x := by
  have hw := (free_wf g.w h).1
  have gc := g.c c
  obtain ⟨d, ⟨hm, rfl, _⟩ | ⟨hm, hW, rfl, _⟩ | ⟨hm, w, rest, d2, hW, rfl, _⟩⟩ := h
  · refine ⟨⟨hw, fun x => ?_⟩, fun x => ?_, fun x hx => ?_⟩
    · rw [E_setW, E_set, W_setW, W_set]
      by_cases e : x = c
      · rw [if_pos e, if_pos e]
        exact ⟨List.nodup_nil, fun y hy => (by cases hy), fun h => absurd rfl h⟩
      · rw [if_neg e, if_neg e]
        exact g.c x
    · rw [E_setW, E_set]
      by_cases e : x = c
      · subst e
        rw [if_pos rfl]
        exact ⟨Int.le_refl _, fun _ h => absurd rfl h, fun _ _ => rfl⟩
      · rw [if_neg e]
        exact Ge.refl _
    · rw [E_setW, E_set, if_neg hx]
  · refine ⟨⟨hw, fun x => ?_⟩, fun x => ?_, fun x hx => ?_⟩
    · rw [E_set, W_set]
      by_cases e : x = c
      · subst e
        rw [if_pos rfl, hW]
        exact ⟨List.nodup_nil, fun y hy => (by cases hy), fun h => absurd rfl h⟩
      · rw [if_neg e]
        exact g.c x
    · rw [E_set]
      by_cases e : x = c
      · subst e
        rw [if_pos rfl]
        exact ⟨Int.le_refl _, fun _ h => absurd rfl h, fun _ _ => rfl⟩
      · rw [if_neg e]
        exact Ge.refl _
    · rw [E_set, if_neg hx]
  · rw [hW] at gc
    have hx := gc.x w (by simp)
    have hnd : (∀ y ∈ rest, y.r ≠ w.r) ∧ Once rest := by
      have h1 := gc.o
      unfold Once at h1
      rw [List.map_cons, List.nodup_cons] at h1
      exact ⟨fun y hy e => h1.1 (List.mem_map.2 ⟨y, hy, e⟩), h1.2⟩
    refine ⟨⟨hw, fun x => ?_⟩, fun x => ?_, fun x hx => ?_⟩
    · rw [E_set, E_setW, E_set, W_set, W_setW, W_set]
      by_cases e : x = c
      · subst e
        rw [if_pos rfl, if_pos rfl]
        exact ⟨hnd.2, fun y hy => ⟨hnd.1 y hy, (gc.x y (by simp [hy])).2⟩, fun _ he => absurd he (by have := hx.2; show w.r ≠ -1; omega)⟩
      · rw [if_neg e, if_neg e, if_neg e]
        exact g.c x
    · rw [E_set, E_setW, E_set]
      by_cases e : x = c
      · subst e
        rw [if_pos rfl]
        exact ⟨by show (S.E x).g ≤ (S.E x).g + 1; omega, fun _ _ => by show (S.E x).g < (S.E x).g + 1; omega, fun h _ => absurd h hx.1⟩
      · rw [if_neg e, if_neg e]
        exact Ge.refl _
    · rw [E_set, E_setW, E_set, if_neg hx, if_neg hx]
theorem stto_gi {S0 : Ls} {r : Int} {L : List En} (g0 : Gi S0) : ∀ {k : Nat} {S' : Ls} {o' : Ou}, StTo S0 r L k S' o' → Gi S' ∧ (∀ x, Ge (S0.E x) (S'.E x)) ∧ ∀ x, (∀ i, i < k → x ≠ S0.at i) → S'.E x = S0.E x
  | 0, S', o', ⟨h1, h2⟩ => by
    subst h1
    exact ⟨g0, fun x => Ge.refl _, fun x _ => rfl⟩
  | k + 1, S', o', ⟨S1, o1, h, hs⟩ => by
    obtain ⟨g1, e1, n1⟩ := stto_gi g0 h
    rcases hs with ⟨_, hf⟩ | ⟨_, rfl, _⟩
    · obtain ⟨g2, e2, n2⟩ := gi_free g1 hf
      refine ⟨g2, fun x => ?_, fun x hx => ?_⟩
      · by_cases e : x = S0.at k
        · have := e2 x
          rw [n1 x fun i hi e3 => at_ne g0.w.z (Nat.lt_of_lt_of_le hi (Nat.le_refl k)) (e3.symm.trans e)] at this
          exact this
        · rw [n2 x e]
          exact e1 x
      · rw [n2 x (hx k (by omega)), n1 x fun i hi => hx i (by omega)]
    · exact ⟨g1, e1, fun x hx => n1 x fun i hi => hx i (by omega)⟩
theorem count_perm {l l' : List It} (h : ∀ y, l'.count y = l.count y) : l'.Perm l := List.perm_iff_count.2 h
theorem put_gc {e : En} {l l' : List It} {w : It} {a : Bool} {er : Int} (g : Gc e l) (hw : w.r ≠ e.o ∧ 0 ≤ w.r) (ho : e.o ≠ -1) (h : PutIs l w a er l') : Gc e l' := by
  rcases h with ⟨_, _, _, rfl⟩ | ⟨_, _, _, _, _, rfl⟩ | ⟨_, _, _, l2, hp, _, hc, _⟩
  · exact g
  · exact g
  · have pm := count_perm hc
    have g2 : Once l2 ∧ ∀ x ∈ l2, x.r ≠ e.o ∧ 0 ≤ x.r := by
      rcases hp with ⟨hn, _, rfl⟩ | ⟨i, hi, hlt, ⟨_, rfl⟩ | ⟨_, rfl⟩⟩
      · refine ⟨?_, fun x hx => ?_⟩
        · unfold Once
          rw [List.map_append, List.nodup_append]
          refine ⟨g.o, by simp, fun a ha b hb => ?_⟩
          rcases hn with ⟨_, hn⟩ | ⟨j, e, _⟩
          · obtain ⟨x, hx, rfl⟩ := List.mem_map.1 ha
            simp at hb
            subst hb
            obtain ⟨j, hj, e⟩ := List.getElem_of_mem hx
            have := hn j hj
            have e2 := nth_get hj
            rw [List.getElem?_eq_getElem hj, e] at e2
            rw [← Option.some.inj e2] at this
            exact this
          · omega
        · rcases List.mem_append.1 hx with hx | hx
          · exact g.x x hx
          · simp at hx
            subst hx
            exact hw
      · rcases hi with ⟨e, _⟩ | ⟨j, e, hj, hr, _⟩
        · omega
        · have : i = j := by omega
          subst this
          have hm : (l.set i w).map (·.r) = l.map (·.r) := by
            rw [List.map_set]
            refine List.ext_getElem? fun k => ?_
            rw [List.getElem?_set]
            split
            · rename_i e
              subst e
              rw [if_pos (by rw [List.length_map]; exact hlt), List.getElem?_map, nth_get hlt, Option.map_some, hr]
            · rfl
          refine ⟨by unfold Once; rw [hm]; exact g.o, fun x hx => ?_⟩
          rcases List.mem_or_eq_of_mem_set hx with h | rfl
          · exact g.x x h
          · exact hw
      · exact ⟨g.o, g.x⟩
    refine ⟨(pm.map _).nodup_iff.2 g2.1, fun x hx => g2.2 x (pm.subset hx), fun _ h => absurd h ho⟩
theorem gi_told {S : Ls} (g : Gi S) (t : List (Int × Int)) : Gi { S with told := t } := ⟨g.w.told t, g.c⟩
theorem gi_set {S : Ls} (g : Gi S) {c : Int} {e : En} (he : 0 ≤ e.g ∧ e.g ≤ 4294967295) (hW : S.W c = []) : Gi (S.set c e) := by
  refine ⟨g.w.set c e he, fun x => ?_⟩
  rw [E_set, W_set]
  by_cases h : x = c
  · subst h
    rw [if_pos rfl, hW]
    exact ⟨List.nodup_nil, fun y hy => (by cases hy), fun h => absurd rfl h⟩
  · rw [if_neg h]
    exact g.c x
/-- What a call may do to a ledger. -/
def Stp (S S' : Ls) : Prop := Gi S' ∧ S.Same S' ∧ ∀ x, Ge (S.E x) (S'.E x)
theorem Stp.refl {S : Ls} (g : Gi S) : Stp S S := ⟨g, Ls.Same.refl S, fun x => Ge.refl _⟩
theorem stp_rel {S S' : Ls} {r c k e : Int} {o' : Ou} (g : Gi S) (h : RelIs S r c k e S' o') : Stp S S' := by
  have hw := rel_wf g.w h
  rcases h with ⟨_, _, rfl, _⟩ | ⟨_, _, _, h⟩ | ⟨_, _, _, rfl, _⟩
  · exact Stp.refl g
  · obtain ⟨h1, h2, _⟩ := gi_free g h
    exact ⟨h1, hw.2, h2⟩
  · exact Stp.refl g
theorem stp_stat {S S' : Ls} {r e : Int} {L : List En} {o' : Ou} (g : Gi S) (h : StatIs S r L e S' o') : Stp S S' := by
  have hw := stat_wf g.w h
  rcases h with ⟨_, _, rfl, _⟩ | ⟨_, _, W0, Sk, h1, h2, rfl⟩
  · exact Stp.refl g
  · obtain ⟨h3, h4, _⟩ := stto_gi (gi_gone g h1) h2
    exact ⟨gi_told h3 _, hw.2, h4⟩
theorem stp_ren {S S' : Ls} {r : Int} (g : Gi S) (h : RenIs S r S') : Stp S S' := by
  have hw := ren_wf g.w h
  rcases h with ⟨_, rfl⟩ | ⟨_, W, h1, rfl⟩
  · exact Stp.refl g
  · exact ⟨gi_told (gi_gone g h1) _, hw.2, fun x => Ge.refl _⟩
theorem stp_set {S : Ls} {c r k : Int} (g : Gi S) (ho : (S.E c).o = -1) (hk : (S.E c).g < k) (hk2 : k ≤ 4294967295) (hW : S.W c = []) : Stp S (S.set c ⟨r, k⟩) := by
  have := g.w.g c
  refine ⟨gi_set g ⟨by show 0 ≤ k; omega, hk2⟩ hW, ⟨rfl, rfl, rfl⟩, fun x => ?_⟩
  rw [E_set]
  by_cases e : x = c
  · subst e
    rw [if_pos rfl]
    exact ⟨by show (S.E x).g ≤ k; omega, fun _ _ => hk, fun h1 h2 => by
      have h3 : r = (S.E x).o := h1
      have h4 : r ≠ -1 := h2
      omega⟩
  · rw [if_neg e]
    exact Ge.refl _
theorem stp_pla {S S' : Ls} {c r e : Int} {rv : Value} {D : Rs} (g : Gi S) (h : PlaIs S c r e S' rv D) : Stp S S' := by
  rcases h with ⟨_, _, rfl, _⟩ | ⟨_, _, _, rfl, _⟩ | ⟨_, he, _, rfl, _⟩
  · exact Stp.refl g
  · exact Stp.refl g
  · have ho : (S.E c).o = -1 := by rw [he]; rfl
    have hg : (S.E c).g = 0 := by rw [he]; rfl
    have hW : S.W c = [] := by
      refine Classical.byContradiction fun hn => ?_
      have := (g.c c).m hn ho
      omega
    exact stp_set g ho (by omega) (by omega) hW
theorem stp_req {S S' : Ls} {w : It} {c e : Int} {o' : Ou} (g : Gi S) (h : ReqIs S w c e S' o') : Stp S S' := by
  have hw := req_wf g.w h
  rcases h with ⟨_, _, rfl, _⟩ | ⟨_, _, _, rfl, _⟩ | ⟨hf, _, _, ⟨_, rfl, _⟩ | ⟨ho, d, rfl, _⟩ | ⟨h1, h2, qs', a, er, l', h3, h4, rfl, _⟩⟩
  · exact Stp.refl g
  · exact Stp.refl g
  · exact Stp.refl g
  · unfold Ls.grant
    split
    · exact Stp.refl g
    · rename_i hm
      have hW : S.W c = [] := Classical.byContradiction fun hn => hm ((g.c c).m hn ho)
      have := g.w.g c
      exact stp_set g ho (by omega) (by omega) hW
  · refine ⟨⟨hw.1, fun x => ?_⟩, hw.2, fun x => Ge.refl _⟩
    show Gc (S.E x) (updW S.W c l' x)
    unfold updW
    by_cases e : x = c
    · subst e
      rw [if_pos rfl]
      exact put_gc (g.c x) ⟨fun e => h1 e.symm, hf.1.2.1⟩ h2 h4
    · rw [if_neg e]
      exact g.c x
end Go.Proofs.Ytmpnldmdchchjaa
