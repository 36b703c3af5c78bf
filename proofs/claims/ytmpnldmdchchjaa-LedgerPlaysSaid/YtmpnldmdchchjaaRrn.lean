import Derived.Test.YtmpnldmdchchjaaFk
import Derived.Test.YtmpnldmdchchjaaWri
namespace Go.Proofs.Ytmpnldmdchchjaa
open Go Go.Ideal Go.ChangeShapes Go.RowKit
set_option maxHeartbeats 0
set_option linter.unusedSimpArgs false
set_option linter.unusedVariables false
set_option maxRecDepth 100000
attribute [local irreducible] callV T.All T.Is run
def bE (e : En) : List Nat := if e = e0 then [] else b5 e
def sE (e : En) : ByteArray := strB (bE e)
def sl (f : Int → En) (C : Nat) : List Value := (List.range C).map fun c : Nat => .string (sE (f (c : Int)))
section
variable {ro : Nat → Option (List Value × Nat)} {h : Heap} {R : List Rs} {n : Nat}
theorem Has.dtVw {d : Option Nat} {e : En} (O : Has ro h (Dt d e :: R)) : Vw 1 bx h (dvv d) (bE e) := by
  cases d with
  | none =>
    obtain ⟨he, _⟩ := Has.and.1 O
    unfold bE
    rw [if_pos he]
    exact Vw.nil h none 0
  | some b =>
    obtain ⟨he, O1⟩ := Has.and.1 O
    unfold bE
    rw [if_neg he]
    have g := O1.get 0 rfl
    have i := O1.info (i := 0) rfl
    rw [e5_eq] at g
    exact ⟨some ⟨b, 0, none⟩, 5, rfl, Nat.le_refl _, fun _ => ⟨b, 0, none, [], [], 1, false, rfl, Or.inl rfl, rfl, by rw [g, List.nil_append, List.append_nil], Or.inr i.2.2.2.1⟩⟩
theorem Has.dtsVw {ws : List Wr} (O : Has ro h (Dts ws :: R)) : ∀ w ∈ ws, Vw 1 bx h (dvv w.d) (bE w.e) := by
  intro w hw
  obtain ⟨i, hi, rfl⟩ := List.getElem_of_mem hw
  have O1 := Has.all.1 O
  have hg : ((ws.map fun w => Dt w.d w.e) ++ R)[i]? = some (Dt ws[i].d ws[i].e) := by
    rw [List.getElem?_append_left (by rw [List.length_map]; exact hi), List.getElem?_map, List.getElem?_eq_getElem hi]
    rfl
  exact Has.dtVw (O1.at i hg)
theorem Vw.mapV {α β : Type} {z : Nat} {g : α → List Value} {g' : β → List Value} {v : Value} {l : List α} (f : α → β) (V : Vw z g h v l) (hg : ∀ x, g x = g' (f x)) : Vw z g' h v (l.map f) := by
  obtain ⟨p, c, e, hc, k⟩ := V
  have hf : ∀ l : List α, (l.map f).flatMap g' = l.flatMap g := by
    intro l
    induction l with
    | nil => rfl
    | cons x l ih => rw [List.map_cons, List.flatMap_cons, List.flatMap_cons, ih, hg]
  refine ⟨p, c, by rw [List.length_map]; exact e, by rw [List.length_map]; exact hc, fun h0 => ?_⟩
  rw [List.length_map] at h0
  obtain ⟨b, off, sp, A, B, zz, t, k1, k2, k3, k4, k5⟩ := k h0
  exact ⟨b, off, sp, A, B, zz, t, k1, k2, k3, by rw [hf]; exact k4, k5⟩
def toR (w : Wr) : Rq := ⟨3, w.c, dvv w.d, bE w.e⟩
theorem wc_rq (w : Wr) : wc w = rq (toR w) := rfl
theorem scVw {ws : List Wr} {v : Value} (M : List Rs) (h : Heap) (O : Has ro h (M ++ (Sc 3 wc v ws :: R))) : Vw 3 rq h v (ws.map toR) := by
  have O1 : Has ro h (Sc 3 wc v ws :: (M ++ R)) := O.perm List.perm_middle
  exact Vw.mapV toR (O1.vw 0 rfl) wc_rq
end
theorem len_stat {S S' : Ls} {r e : Int} {L : List En} {o' : Ou} (w : Wf S) (h : StatIs S r L e S' o') : o'.ws.length ≤ 2048 := by
  rcases h with ⟨_, _, rfl, rfl⟩ | ⟨_, _, W0, Sk, h1, h2, rfl⟩
  · exact Nat.zero_le _
  · have h3 := (stto_wf (gn_wf w h1) h2).2.2.1
    have h4 := N_le w.z
    omega
theorem len_rel {S S' : Ls} {r c k e : Int} {o' : Ou} (w : Wf S) (h : RelIs S r c k e S' o') : o'.ws.length ≤ 2048 := by
  rcases h with ⟨_, _, rfl, rfl⟩ | ⟨hr, _, _, h⟩ | ⟨_, _, _, rfl, rfl⟩
  · exact Nat.zero_le _
  · have h3 := (free_len w h).1
    have h4 : oz.ws.length = 0 := rfl
    omega
  · exact Nat.zero_le _
theorem len_req {S S' : Ls} {w : It} {c e : Int} {o' : Ou} (h : ReqIs S w c e S' o') : o'.ws.length ≤ 2048 := by
  rcases h with ⟨_, _, rfl, rfl⟩ | ⟨_, _, _, rfl, rfl⟩ | ⟨hf, _, _, ⟨_, rfl, rfl⟩ | ⟨ho, d, rfl, rfl⟩ | ⟨h1, h2, qs', a, er, l', h3, h4, rfl, rfl⟩⟩
  · exact Nat.zero_le _
  · exact Nat.zero_le _
  · exact Nat.zero_le _
  · unfold Ou.grant
    split
    · exact Nat.zero_le _
    · show 1 ≤ 2048
      omega
  · unfold Ou.waits
    split
    · exact Nat.zero_le _
    · exact Nat.zero_le _
section
variable {ro : Nat → Option (List Value × Nat)} {h : Heap} {R : List Rs}
end
theorem env44 : env 44 = some ir44 := rfl
theorem env59 : env 59 = some ir59 := rfl
structure Rf where
  home : Int
  rob : Nat
  C : Nat
  E : Nat → En
  W : Nat → List It
  T : Nat → Int
def rcell (x : En × Value) : List Value := [.int .i64 x.1.o, .int .u32 x.1.g, x.2]
theorem rcell_len (x : En × Value) : (rcell x).length = 3 := rfl
def rcs (F : Rf) (q : Nat → Value) : List (En × Value) := (List.range F.C).map fun c => (F.E c, q c)
def rts (F : Rf) : List Int := (List.range F.rob).map F.T
theorem rcs_len (F : Rf) (q : Nat → Value) : (rcs F q).length = F.C := by unfold rcs; simp
theorem rts_len (F : Rf) : (rts F).length = F.rob := by unfold rts; simp
theorem rcs_get (F : Rf) (q : Nat → Value) {c : Nat} (h : c < F.C) : (rcs F q)[c]? = some (F.E c, q c) := by unfold rcs; simp [h]
theorem rts_get (F : Rf) {r : Nat} (h : r < F.rob) : (rts F)[r]? = some (F.T r) := by unfold rts; simp [h]
def rfc (F : Rf) (cb tb : Nat) : List Value := [.int .i64 F.home, .int .i64 (F.rob : Int), .slice (some ⟨cb, 0, none⟩) F.C F.C, .slice (some ⟨tb, 0, none⟩) F.rob F.rob]
def Rqs (W : Nat → List It) (q : Nat → Value) (C : Nat) : Rs := Rs.all ((List.range C).map fun c => Sc 3 ic (q c) (W c))
def Rg (rb : Nat) (F : Rf) : Rs := Rs.ex fun x : Nat × Nat × (Nat → Value) => Rs.all [Ob rb (.cells (rfc F x.1 x.2.1) 1 false), Ob x.1 (.cells ((rcs F x.2.2).flatMap rcell) 3 false), Ob x.2.1 (.cells ((rts F).flatMap zc) 1 false), Rqs F.W x.2.2 F.C]
def Rf.Is (F : Rf) (c : Int) : Prop := 0 ≤ c ∧ c < (F.C : Int) ∧ c.tmod (F.rob : Int) = F.home
instance (F : Rf) (c : Int) : Decidable (F.Is c) := by unfold Rf.Is; infer_instance
def Rf.Rob (F : Rf) (r : Int) : Prop := 0 ≤ r ∧ r < (F.rob : Int)
instance (F : Rf) (r : Int) : Decidable (F.Rob r) := by unfold Rf.Rob; infer_instance
structure Rz (F : Rf) : Prop where
  r1 : 1 ≤ F.rob
  r2 : F.rob ≤ 64
  c1 : 1 ≤ F.C
  c2 : F.C ≤ 1024
  g : ∀ c, 0 ≤ (F.E c).g ∧ (F.E c).g ≤ 4294967295
  o : ∀ c, -1 ≤ (F.E c).o ∧ (F.E c).o < (F.rob : Int)
  w : ∀ c, (F.W c).length ≤ 8
section
variable {ro : Nat → Option (List Value × Nat)} {h : Heap} {R : List Rs} {rb : Nat} {F : Rf} {n : Nat}
theorem Has.rgOpen (O : Has ro h (Rg rb F :: R)) : ∃ cb tb q, Has ro h (Ob rb (.cells (rfc F cb tb) 1 false) :: Ob cb (.cells ((rcs F q).flatMap rcell) 3 false) :: Ob tb (.cells ((rts F).flatMap zc) 1 false) :: Rqs F.W q F.C :: R) := by
  obtain ⟨⟨cb, tb, q⟩, O⟩ := Has.ex.1 O
  exact ⟨cb, tb, q, Has.all.1 O⟩
theorem Has.rgClose {cb tb : Nat} {q : Nat → Value} (O : Has ro h (Ob rb (.cells (rfc F cb tb) 1 false) :: Ob cb (.cells ((rcs F q).flatMap rcell) 3 false) :: Ob tb (.cells ((rts F).flatMap zc) 1 false) :: Rqs F.W q F.C :: R)) : Has ro h (Rg rb F :: R) :=
  Has.ex.2 ⟨(cb, tb, q), Has.all.2 O⟩
theorem Has.rqOut {W : Nat → List It} {q : Nat → Value} {C c : Nat} (hc : c < C) (O : Has ro h (Rqs W q C :: R)) : Has ro h (Sc 3 ic (q c) (W c) :: Rs.all (((List.range C).map fun c => Sc 3 ic (q c) (W c)).eraseIdx c) :: R) := by
  have O1 := Has.all.1 O
  have hl : c < ((List.range C).map fun c => Sc 3 ic (q c) (W c)).length := by simpa using hc
  have hg : (((List.range C).map fun c => Sc 3 ic (q c) (W c)) ++ R)[c]? = some (Sc 3 ic (q c) (W c)) := by
    rw [List.getElem?_append_left hl, List.getElem?_map, List.getElem?_range hc]
    rfl
  have O2 := O1.at c hg
  rw [List.eraseIdx_append_of_lt_length hl] at O2
  have O3 : Has ro h ((((List.range C).map fun c => Sc 3 ic (q c) (W c)).eraseIdx c) ++ (Sc 3 ic (q c) (W c) :: R)) := O2.perm (List.perm_middle.symm)
  exact (Has.all.2 O3).swap2
theorem Has.rqBack {W W' : Nat → List It} {q q' : Nat → Value} {C c : Nat} (hc : c < C) (hw : ∀ x, x ≠ c → W' x = W x) (hq : ∀ x, x ≠ c → q' x = q x) (O : Has ro h (Sc 3 ic (q' c) (W' c) :: Rs.all (((List.range C).map fun c => Sc 3 ic (q c) (W c)).eraseIdx c) :: R)) : Has ro h (Rqs W' q' C :: R) := by
  have O1 := Has.all.1 O.swap2
  have hl : c < ((List.range C).map fun c => Sc 3 ic (q c) (W c)).length := by simpa using hc
  have O2 : Has ro h (Sc 3 ic (q' c) (W' c) :: (((List.range C).map fun c => Sc 3 ic (q c) (W c)) ++ R).eraseIdx c) := by
    rw [List.eraseIdx_append_of_lt_length hl]
    exact O1.perm List.perm_middle
  have O3 := Has.back O2 (by rw [List.length_append]; omega)
  rw [List.set_append_left _ _ hl] at O3
  refine Has.all.2 ?_
  have e : ((List.range C).map fun c => Sc 3 ic (q c) (W c)).set c (Sc 3 ic (q' c) (W' c)) = (List.range C).map fun c => Sc 3 ic (q' c) (W' c) := by
    refine List.ext_getElem? fun k => ?_
    rw [List.getElem?_set]
    by_cases hk : k < C
    · by_cases e1 : c = k
      · subst e1
        rw [if_pos rfl, if_pos hl, List.getElem?_map, List.getElem?_range hk]
        rfl
      · rw [if_neg e1, List.getElem?_map, List.getElem?_map, List.getElem?_range hk]
        show some (Sc 3 ic (q k) (W k)) = some (Sc 3 ic (q' k) (W' k))
        rw [hq k (fun h => e1 h.symm), hw k (fun h => e1 h.symm)]
    · rw [if_neg (by omega), List.getElem?_eq_none (by simpa using hk), List.getElem?_eq_none (by simpa using hk)]
  rw [e] at O3
  exact O3
theorem Has.rqVal {W : Nat → List It} {q : Nat → Value} {C c : Nat} (hc : c < C) (O : Has ro h (Rqs W q C :: R)) : ∃ p cap, q c = .slice p (W c).length cap := by
  obtain ⟨p, cap, e, _⟩ := (Has.rqOut hc O).scVal 0 rfl
  exact ⟨p, cap, e⟩
theorem readC_flat {α : Type} {g : α → List Value} {z : Nat} (hg : ∀ x, (g x).length = z) {l : List α} {i : Nat} {x : α} (hi : l[i]? = some x) {zz : Nat} {t : Bool} {k m : Nat} (hk : k + m ≤ z) : readC (some (.cells (l.flatMap g) zz t)) (i * z + k) m = readN (g x) k m := by
  rw [← readN_flatMap hg l i x k m hi hk]
  rfl
theorem readC_flatA {α : Type} {g : α → List Value} {z : Nat} (hg : ∀ x, (g x).length = z) {l : List α} {i : Nat} {x : α} (hi : l[i]? = some x) {zz : Nat} {t : Bool} : readC (some (.cells (l.flatMap g) zz t)) (i * z) z = some (g x) := by
  have := readC_flat hg hi (zz := zz) (t := t) (k := 0) (m := z) (by omega)
  rw [Nat.add_zero] at this
  rw [this]
  have h0 := hg x
  simp only [readN]
  rw [if_pos (by omega), List.drop_zero, List.take_of_length_le (by omega)]
theorem setAt_flat {α : Type} {g : α → List Value} {z : Nat} (hg : ∀ x, (g x).length = z) (l : List α) (i : Nat) (x : α) (hi : i < l.length) : setAt (l.flatMap g) (i * z) (g x) = (l.set i x).flatMap g := by
  have := setAt_flatMap hg l i x [] hi
  rw [List.append_nil, List.append_nil] at this
  exact this
def Rf.put (F : Rf) (c : Nat) (e : En) (l : List It) : Rf := { F with E := fun x => if x = c then e else F.E x, W := fun x => if x = c then l else F.W x }
theorem rcs_set (F : Rf) (q : Nat → Value) {c : Nat} (hc : c < F.C) (e : En) (v : Value) (l : List It) : (rcs F q).set c (e, v) = rcs (F.put c e l) fun x => if x = c then v else q x := by
  refine List.ext_getElem? fun k => ?_
  rw [List.getElem?_set]
  by_cases hk : k < F.C
  · rw [rcs_len, rcs_get (F.put c e l) _ hk]
    by_cases e1 : c = k
    · subst e1
      rw [if_pos rfl, if_pos hc]
      show _ = some ((if c = c then e else F.E c), _)
      rw [if_pos rfl, if_pos rfl]
    · rw [if_neg e1, rcs_get F q hk]
      have e2 : ¬ k = c := fun h => e1 h.symm
      show _ = some ((if k = c then e else F.E k), _)
      rw [if_neg e2, if_neg e2]
  · have h1 : (rcs F q)[k]? = none := List.getElem?_eq_none (by rw [rcs_len]; omega)
    have h2 : (rcs (F.put c e l) fun x => if x = c then v else q x)[k]? = none := List.getElem?_eq_none (by rw [rcs_len]; show F.C ≤ k; omega)
    rw [if_neg (by omega), h1, h2]
theorem rcs_put (F : Rf) (q : Nat → Value) {c : Nat} (hc : c < F.C) (e : En) (v : Value) (l : List It) : setAt ((rcs F q).flatMap rcell) (c * 3) (rcell (e, v)) = (rcs (F.put c e l) fun x => if x = c then v else q x).flatMap rcell := by
  rw [setAt_flat rcell_len _ _ _ (by rw [rcs_len]; exact hc), rcs_set F q hc e v l]
theorem rcs_flen (F : Rf) (q : Nat → Value) : ((rcs F q).flatMap rcell).length = F.C * 3 := by rw [flatMap_len rcell_len, rcs_len]
theorem rts_flen (F : Rf) : ((rts F).flatMap zc).length = F.rob := by rw [flatMap_len zc_len, rts_len, Nat.mul_one]
theorem ris_h (c : Int) (z : 1 ≤ F.rob) (O : Has ro h (Rg rb F :: R)) : (callV env (n + 1) (.func (.func 44) #[] #[]) [.pointer (some ⟨rb, 0, none⟩), .int .i64 c] h).Is fun p => p = (.bool (decide (F.Is c)), h) := by
  obtain ⟨cb, tb, q, O1⟩ := Has.rgOpen O
  have g := O1.get 0 rfl
  unfold rfc at g
  have hr : ¬ (F.rob : Int) = 0 := by omega
  refine call_is env44 ?_
  simp only [ir44, Nat.reduceAdd, Nat.reduceSub, wkF, ↓reduceIte, reduceCtorEq, wkN, wkG, wkH]
  refine X_drawn _ fun an => ?_
  unfold Rf.Is
  by_cases h1 : 0 ≤ c
  · by_cases h2 : c < (F.C : Int)
    · simp only [h1, h2, g, seen0_nil_get, bin_rem c (F.rob : Int) hr, wkF, ↓reduceIte, reduceCtorEq, Nat.reduceAdd, Nat.reduceLeDiff, Nat.reduceMul, Nat.reduceLT, Nat.reduceEqDiff, wkG, wkH]
      exact leaf1 (by simp [h1, h2])
    · simp only [h1, h2, g, wkF, ↓reduceIte, reduceCtorEq, Nat.reduceAdd, Nat.reduceLeDiff, Nat.reduceMul, Nat.reduceLT, Nat.reduceEqDiff, wkG, wkH]
      exact leaf1 (by simp [h1, h2])
  · simp only [h1, wkF, ↓reduceIte, reduceCtorEq, Nat.reduceAdd, wkG, wkH]
    exact leaf1 (by simp [h1])
theorem rrobot_h (r : Int) (O : Has ro h (Rg rb F :: R)) : (callV env (n + 1) (.func (.func 59) #[] #[]) [.pointer (some ⟨rb, 0, none⟩), .int .i64 r] h).Is fun p => p = (.bool (decide (F.Rob r)), h) := by
  obtain ⟨cb, tb, q, O1⟩ := Has.rgOpen O
  have g := O1.get 0 rfl
  unfold rfc at g
  refine call_is env59 ?_
  unfold Rf.Rob
  by_cases h1 : 0 ≤ r
  · simp only [ir59, Nat.reduceAdd, Nat.reduceSub, h1, g, wkF, ↓reduceIte, reduceCtorEq, Nat.reduceLeDiff, Nat.reduceMul, Nat.reduceLT, Nat.reduceEqDiff, wkN, wkG, wkH]
    exact leaf1 (by simp [h1])
  · simp only [ir59, Nat.reduceAdd, Nat.reduceSub, h1, wkF, ↓reduceIte, reduceCtorEq, wkN, wkG, wkH]
    exact leaf1 (by simp [h1])
end
theorem env60 : env 60 = some ir60 := rfl
theorem env63 : env 63 = some ir63 := rfl
theorem env71 : env 71 = some ir71 := rfl
theorem u8_of {x y : Int} (h : x % 256 = y % 256) : (Value.int .u8 (IntKind.u8.wrap x)) = u8v y := by
  unfold u8v
  rw [wrap_u8_mod, wrap_u8_mod, h]
theorem u8_quo {g : Int} (h : 0 ≤ g ∧ g ≤ 4294967295) {k : Int} (hk : 0 < k) : IntKind.i64.wrap (g.tdiv k) = g / k := by
  rw [Int.tdiv_eq_ediv_of_nonneg h.1]
  have h1 : 0 ≤ g / k := Int.ediv_nonneg h.1 (by omega)
  have h2 : g / k ≤ g := Int.ediv_le_self _ h.1
  exact wrap_i64 (by omega) (by omega)
theorem u8_rem {x : Int} (h : 0 ≤ x) : (x.tmod 256) % 256 = x % 256 := by
  rw [Int.tmod_eq_emod_of_nonneg h]
  omega
section
variable {ro : Nat → Option (List Value × Nat)} {h : Heap} {R : List Rs} {rb ob : Nat} {F : Rf} {o : Ou} {n : Nat}
theorem rrecord_e (c : Int) (e : En) (v : Value) (hv : oneCell v = true) (he : -1 ≤ e.o ∧ e.o < 255) (hg : 0 ≤ e.g ∧ e.g ≤ 4294967295) (hf : h.Fine) : (callV env (n + 1) (.func (.func 60) #[] #[]) [.int .i64 c, .agg (rcell (e, v)).toArray] h).Is fun p => Ext h p.2 ∧ New h p.2 (Rs.ex fun d => Rs.and (p.1 = .agg #[.int .i64 3, .int .i64 c, dvv d]) (Dt d e)) ∧ True := by
  have O : Has h.ro h [] := Has.zero hf rfl
  refine call_is env60 ?_
  simp only [ir60, Nat.reduceAdd, Nat.reduceSub, wkF, X_seq, Y_store, Y_makeMap, Y_buildSlice, ↓reduceIte, reduceCtorEq, wkO, wkS, wkN, wkG]
  refine Y_boxE O ?_
  intro b1 h1 be1 nb1 O1 e1
  replace O1 : Has h.ro h1 [Ob b1 (.cells [.int .i64 e.o, .int .u32 e.g, v] 1 false)] := O1
  simp only [wkF, X_seq, Y_store, Y_makeMap, Y_buildSlice, ↓reduceIte, reduceCtorEq, wkO, wkS, Nat.reduceAdd, Nat.reduceLeDiff, Nat.reduceMul, Nat.reduceLT, Nat.reduceEqDiff, wkG]
  refine Y_boxE O1 ?_
  intro b2 h2 be2 nb2 O2 e2
  replace O2 : Has h.ro h2 [Ob b2 (.cells [.int .i64 0, .int .i64 0, .slice none 0 0] 1 false), Ob b1 (.cells [.int .i64 e.o, .int .u32 e.g, v] 1 false)] := O2
  replace nb2 : 2 * h.next ≤ b2 := by have := e1.next; omega
  have e12 := e1.trans e2
  clear e1 e2 O O1
  have g1 := O2.get 1 rfl
  have g2 := O2.get 0 rfl
  have p2 := O2.can 0 rfl
  by_cases hq : e = e0
  · have a1 : (e.o = -1) = True := eq_true (by rw [hq]; rfl)
    have a2 : (e.g = 0) = True := eq_true (by rw [hq]; rfl)
    simp only [g1, g2, p2, a1, a2, wkF, ↓reduceIte, reduceCtorEq, Nat.reduceAdd, Nat.reduceLeDiff, Nat.reduceMul, Nat.reduceLT, Nat.reduceEqDiff, wkG, wkH]
    have g6 : (h2.setB b2 (.cells [.int .i64 3, .int .i64 c, .slice none 0 0] 1 false)).get b2 = some (.cells [.int .i64 3, .int .i64 c, .slice none 0 0] 1 false) := get_setB_same be2 (by rw [g2]; rfl)
    refine leafC (cs := [.int .i64 3, .int .i64 c, .slice none 0 0]) rfl (by rw [g6]; rfl) ⟨e12.setB b2 _ be2 nb2, New.ex none (New.and rfl (New.and hq New.emp))⟩
  · have s : (e.o = -1 ∧ ¬ e.g = 0) ∨ (¬ e.o = -1 ∧ 0 ≤ e.o) := by
      by_cases h1 : e.o = -1
      · refine Or.inl ⟨h1, fun h2 => hq ?_⟩
        obtain ⟨a, b⟩ := e
        simp only at h1 h2
        subst h1 h2
        rfl
      · exact Or.inr ⟨h1, by omega⟩
    have yg : IntKind.i64.wrap e.g = e.g := wrap_i64 (by omega) (by omega)
    have y1 : IntKind.i64.wrap (e.g.tdiv 16777216) = e.g / 16777216 := u8_quo hg (by decide)
    have y2 : IntKind.i64.wrap (e.g.tdiv 65536) = e.g / 65536 := u8_quo hg (by decide)
    have y3 : IntKind.i64.wrap (e.g.tdiv 256) = e.g / 256 := u8_quo hg (by decide)
    have k5 : ∀ x : Int, x % 256 = e.o % 256 → some [Value.int .u8 (IntKind.u8.wrap x), .int .u8 (IntKind.u8.wrap (e.g / 16777216)), .int .u8 (IntKind.u8.wrap ((e.g / 65536).tmod 256)), .int .u8 (IntKind.u8.wrap ((e.g / 256).tmod 256)), .int .u8 (IntKind.u8.wrap (e.g.tmod 256))] = some (e5 e) := by
      intro x hx
      have h1 : min (Int.toNat 24) IntKind.u32.bits = 24 := rfl
      have h2 : min (Int.toNat 16) IntKind.u32.bits = 16 := rfl
      have h3 : min (Int.toNat 8) IntKind.u32.bits = 8 := rfl
      have p1 : (2 : Int) ^ 24 = 16777216 := by decide
      have p2 : (2 : Int) ^ 16 = 65536 := by decide
      have p3 : (2 : Int) ^ 8 = 256 := by decide
      unfold e5
      rw [h1, h2, h3, fdiv_sh, fdiv_sh, fdiv_sh, p1, p2, p3, u8_of hx, u8_of (y := e.g / 16777216) rfl, u8_of (u8_rem (Int.ediv_nonneg hg.1 (by decide : (0 : Int) ≤ 65536))), u8_of (u8_rem (Int.ediv_nonneg hg.1 (by decide : (0 : Int) ≤ 256))), u8_of (u8_rem hg.1)]
    have fin : ∀ (b6 : Nat) (h6 : Heap), b6 % 2 = 0 → 2 * h2.next ≤ b6 → Has h.ro h6 (Ob b6 (.cells (e5 e) 1 false) :: Ob b2 (.cells [.int .i64 0, .int .i64 0, .slice none 0 0] 1 false) :: Ob b1 (.cells [.int .i64 e.o, .int .u32 e.g, v] 1 false) :: []) → Ext h2 h6 →
        (Ext h (h6.setB b2 (.cells [.int .i64 3, .int .i64 c, .slice (some ⟨b6, 0, none⟩) 5 5] 1 false)) ∧ New h (h6.setB b2 (.cells [.int .i64 3, .int .i64 c, .slice (some ⟨b6, 0, none⟩) 5 5] 1 false)) (Rs.ex fun d => Rs.and ((.agg #[.int .i64 3, .int .i64 c, .slice (some ⟨b6, 0, none⟩) 5 5] : Value) = .agg #[.int .i64 3, .int .i64 c, dvv d]) (Dt d e))) := by
      intro b6 h6 be6 nb6 O6 e6
      have e16 := e12.trans e6
      have O7 := O6.set 1 rfl (.cells [.int .i64 3, .int .i64 c, .slice (some ⟨b6, 0, none⟩) 5 5] 1 false)
      simp only [List.set_cons_zero, List.set_cons_succ] at O7
      refine ⟨e16.setB b2 _ be2 nb2, New.ex (some b6) (New.and rfl (New.and hq (New.ob (O7.get 0 rfl) be6 (by have := e12.next; omega) (O7.info (i := 0) rfl).2.2.2.1)))⟩
    have tail : ∀ (b6 : Nat) (h6 : Heap), Has h.ro h6 (Ob b6 (.cells (e5 e) 1 false) :: Ob b2 (.cells [.int .i64 0, .int .i64 0, .slice none 0 0] 1 false) :: Ob b1 (.cells [.int .i64 e.o, .int .u32 e.g, v] 1 false) :: []) → (h6.setB b2 (.cells [.int .i64 3, .int .i64 c, .slice (some ⟨b6, 0, none⟩) 5 5] 1 false)).get b2 = some (.cells [.int .i64 3, .int .i64 c, .slice (some ⟨b6, 0, none⟩) 5 5] 1 false) := by
      intro b6 h6 O6
      exact get_setB_same be2 (by rw [O6.get 1 rfl]; rfl)
    rcases s with ⟨s1, s2⟩ | ⟨s1, s2⟩
    · have a1 : (e.o = -1) = True := eq_true s1
      have a3 : ¬ 0 ≤ e.o := by omega
      simp (disch := first | assumption | omega | (simp only [wkX, *]; done) | (simp only [wkY]; omega)) only [g1, a1, s2, a3, yg, y1, y2, y3, wkF, X_seq, Y_box, Y_store, Y_makeMap, ↓reduceIte, reduceCtorEq, wkO, wkS, Nat.reduceAdd, Nat.reduceLeDiff, Nat.reduceMul, Nat.reduceLT, Nat.reduceEqDiff, wkG]
      refine Y_buildSliceE O2 (cs := e5 e) (k5 255 (by rw [s1]; rfl)) ?_
      intro b6 h6 be6 nb6 O6 e6
      have g3 := O6.get 1 rfl
      have p3 := O6.can 1 rfl
      simp only [g3, p3, slI, wkF, ↓reduceIte, reduceCtorEq, Nat.reduceAdd, Nat.reduceLeDiff, Nat.reduceMul, Nat.reduceLT, Nat.reduceEqDiff, wkG, wkH]
      refine leafC (cs := [.int .i64 3, .int .i64 c, .slice (some ⟨b6, 0, none⟩) 5 5]) rfl (by rw [tail b6 h6 O6]; rfl) ?_
      exact fin b6 h6 be6 nb6 O6 e6
    · simp (disch := first | assumption | omega | (simp only [wkX, *]; done) | (simp only [wkY]; omega)) only [g1, s1, s2, yg, y1, y2, y3, wkF, X_seq, Y_box, Y_store, Y_makeMap, ↓reduceIte, reduceCtorEq, wkO, wkS, Nat.reduceAdd, Nat.reduceLeDiff, Nat.reduceMul, Nat.reduceLT, Nat.reduceEqDiff, wkG]
      refine Y_buildSliceE O2 (cs := e5 e) (k5 e.o rfl) ?_
      intro b6 h6 be6 nb6 O6 e6
      have g3 := O6.get 1 rfl
      have p3 := O6.can 1 rfl
      simp only [g3, p3, slI, wkF, ↓reduceIte, reduceCtorEq, Nat.reduceAdd, Nat.reduceLeDiff, Nat.reduceMul, Nat.reduceLT, Nat.reduceEqDiff, wkG, wkH]
      refine leafC (cs := [.int .i64 3, .int .i64 c, .slice (some ⟨b6, 0, none⟩) 5 5]) rfl (by rw [tail b6 h6 O6]; rfl) ?_
      exact fin b6 h6 be6 nb6 O6 e6
theorem rwrite_h {c : Nat} (z : Rz F) (hc : c < F.C) (hw : o.ws.length < 1000000) (O : Has ro h (Rg rb F :: Og ob o :: R)) :
    (callV env (n + 2) (.func (.func 71) #[] #[]) [.pointer (some ⟨rb, 0, none⟩), .int .i64 (c : Int), .pointer (some ⟨ob, 0, none⟩)] h).Is fun p => ∃ d, Has ro p.2 (Rg rb F :: Og ob (o.wr (c : Int) (F.E c) d) :: R) := by
  obtain ⟨wv, pv, bv, O1⟩ := Has.ogOpen O.swap2
  obtain ⟨cb, tb, q, O2⟩ := Has.rgOpen (O1.at 5 rfl)
  replace O2 : Has ro h (Ob rb (.cells (rfc F cb tb) 1 false) :: Ob cb (.cells ((rcs F q).flatMap rcell) 3 false) :: Ob tb (.cells ((rts F).flatMap zc) 1 false) :: Rqs F.W q F.C :: Ob ob (.cells [wv, pv, bv] 1 false) :: Sc 3 wc wv o.ws :: Sc 10 pc pv o.ps :: Sc 1 zc bv o.bs :: Dts o.ws :: R) := O2
  obtain ⟨qp, qcap, hqv⟩ := Has.rqVal hc (O2.at 3 rfl)
  have g1 := O2.get 0 rfl
  have g2 := O2.get 4 rfl
  unfold rfc at g1
  have rd : readC (h.get cb) (c * 3) 3 = some (rcell (F.E c, q c)) := by
    rw [O2.get 1 rfl]
    exact readC_flatA rcell_len (rcs_get F q hc)
  have c0 : (0 : Int) ≤ (c : Int) := by omega
  have c1 : (c : Int) < (F.C : Int) := by omega
  have c2 := z.c2
  have r2 := z.r2
  refine call_is env71 ?_
  simp only [ir71, Nat.reduceAdd, Nat.reduceSub, wkF, ↓reduceIte, reduceCtorEq, wkN, wkG, wkH]
  refine X_drawn _ fun an => ?_
  simp only [g1, g2, rd, c0, c1, Int.toNat_natCast, Nat.zero_add, wkF, ↓reduceIte, reduceCtorEq, Nat.reduceAdd, Nat.reduceLeDiff, Nat.reduceMul, Nat.reduceLT, Nat.reduceEqDiff, wkG, wkH]
  have ho := z.o c
  refine DF_newO (R := fun _ => True) (p := fun v => Rs.ex fun d => Rs.and (v = .agg #[.int .i64 3, .int .i64 (c : Int), dvv d]) (Dt d (F.E c))) O2 (rrecord_e (n := n) (c : Int) (F.E c) (q c) (by rw [hqv]; rfl) (by omega) (z.g c) (seen0_fine (fr := []) O2.fine (by intro x hx; cases hx))) ?_
  rintro v h6 f _ O7 e7 hf7
  obtain ⟨d, O7⟩ := Has.ex.1 O7
  obtain ⟨hv, O8⟩ := Has.and.1 O7
  subst hv
  clear O7 O2 g1 g2 rd e7
  have bs : pBuildSlice h6 3 1 [.int .i64 0, .int .i64 0, .slice none 0 0] [(0, 3, .agg #[.int .i64 3, .int .i64 (c : Int), dvv d])] = some (.slice (some ⟨2 * h6.next, 0, none⟩) 1 1, h6.alloc (.cells (wc ⟨(c : Int), F.E c, d⟩) 3 false)) := by cases d <;> rfl
  have O9 := O8.alloc (.cells (wc ⟨(c : Int), F.E c, d⟩) 3 false)
  obtain ⟨wv2, h10, ap, O10⟩ := sc_appendV (bytes := 40) (by decide) wc_len wc_one (O9.at 7 rfl) (Has.one (O9.at 7 rfl) 1 rfl) (by show (o.ws.length + 1) * 40 ≤ roomMost; unfold roomMost; omega) (by decide)
  simp only [List.eraseIdx_cons_succ, List.eraseIdx_cons_zero] at O10
  obtain ⟨wp, wcap, hwv, _⟩ := O10.scVal 0 rfl
  subst hwv
  have g10 := O10.get 7 rfl
  have p10 := O10.can 7 rfl
  have O11 := O10.set 7 rfl (.cells [.slice wp (o.ws ++ [(⟨(c : Int), F.E c, d⟩ : Wr)]).length wcap, pv, bv] 1 false)
  simp only [List.set_cons_zero, List.set_cons_succ] at O11
  simp only [bs, ap, g10, p10, slI, wkF, ↓reduceIte, reduceCtorEq, Nat.reduceAdd, Nat.reduceLeDiff, Nat.reduceMul, Nat.reduceLT, Nat.reduceEqDiff, wkG, wkH]
  refine leaf0n ⟨d, ?_⟩
  have O12 := Has.dtsAdd (w := ⟨(c : Int), F.E c, d⟩) (((O11.rid 1 rfl).at 1 rfl).at 9 rfl).swap2
  have O13 := Has.ogClose (o := o.wr (c : Int) (F.E c) d) ((((O12.at 8 rfl).at 8 rfl).at 3 rfl).at 8 rfl)
  exact Has.rgClose ((((O13.at 4 rfl).at 4 rfl).at 4 rfl).at 4 rfl)
theorem rpost_h (m : Po) (hp : o.ps.length < 1000000) (hb : o.bs.length < 1000000) (O : Has ro h (Og ob o :: R)) :
    (callV env (n + 1) (.func (.func 63) #[] #[]) [.pointer (some ⟨ob, 0, none⟩), .int .i64 m.to, .agg (mc m).toArray] h).Is fun p => Has ro p.2 (Og ob (o.post m) :: R) := by
  refine call_is env63 ?_
  simp only [ir63, Nat.reduceAdd, Nat.reduceSub, wkF, X_seq, Y_store, Y_makeMap, Y_buildSlice, ↓reduceIte, reduceCtorEq, wkO, wkS, wkN, wkG]
  refine Y_boxO O ?_
  intro b1 h1 O1 e1
  replace O1 : Has ro h1 (Og ob o :: Ob b1 (.cells (mc m) 1 false) :: R) := O1.swap2
  obtain ⟨wv, pv, bv, O2⟩ := Has.ogOpen O1
  have g1 := O2.get 0 rfl
  have gm := O2.get 5 rfl
  simp only [wkF, ↓reduceIte, reduceCtorEq, Nat.reduceAdd, wkG, wkH]
  refine X_drawn _ fun an => ?_
  have bs : pBuildSlice h1 10 1 [.int .i64 0, .int .i64 0, .int .i64 0, .int .u32 0, .int .u64 0, .int .i64 0, .int .i64 0, .int .i64 0, .int .i64 0, .slice none 0 0] [(0, 10, .agg (setAt [.int .i64 m.to, .int .i64 0, .int .i64 0, .int .u32 0, .int .u64 0, .int .i64 0, .int .i64 0, .int .i64 0, .int .i64 0, .slice none 0 0] 1 (mc m)).toArray)] = some (.slice (some ⟨2 * h1.next, 0, none⟩) 1 1, h1.alloc (.cells (pc m) 10 false)) := rfl
  have O3 := O2.alloc (.cells (pc m) 10 false)
  obtain ⟨pv2, h3, ap, O4⟩ := sc_appendV (bytes := 96) (by decide) pc_len pc_one (O3.at 3 rfl) (Has.one (O3.at 3 rfl) 1 rfl) (by show (o.ps.length + 1) * 96 ≤ roomMost; unfold roomMost; omega) (by decide)
  simp only [List.eraseIdx_cons_succ, List.eraseIdx_cons_zero] at O4
  obtain ⟨pp, pcap, hpv, _⟩ := O4.scVal 0 rfl
  subst hpv
  have g4 := O4.get 2 rfl
  have p4 := O4.can 2 rfl
  have O5 := O4.set 2 rfl (.cells [wv, .slice pp (o.ps ++ [m]).length pcap, bv] 1 false)
  simp only [List.set_cons_zero, List.set_cons_succ] at O5
  simp only [g1, gm, tk_mc, mc_len, bs, ap, g4, p4, slI, wkF, ↓reduceIte, reduceCtorEq, Nat.reduceAdd, Nat.reduceLeDiff, Nat.reduceMul, Nat.reduceLT, Nat.reduceEqDiff, wkG, wkH]
  clear ap bs g1 gm g4 p4 O O1 O2 O3 O4 e1
  generalize h3.setB ob _ = h5 at O5 ⊢
  refine X_drawn _ fun an => ?_
  have g5 := O5.get 2 rfl
  obtain ⟨wp, wcap, hwv, _⟩ := O5.scVal 3 rfl
  subst hwv
  have bs : pBuildSlice h5 1 1 [.int .i64 0] [(0, 1, .int .i64 (o.ws.length : Int))] = some (.slice (some ⟨2 * h5.next, 0, none⟩) 1 1, h5.alloc (.cells (zc (o.ws.length : Int)) 1 false)) := rfl
  have O6 := O5.alloc (.cells (zc (o.ws.length : Int)) 1 false)
  obtain ⟨bv2, h7, ap, O7⟩ := sc_appendV (bytes := 8) (by decide) zc_len zc_one (O6.at 5 rfl) (Has.one (O6.at 5 rfl) 1 rfl) (by show (o.bs.length + 1) * 8 ≤ roomMost; unfold roomMost; omega) (by decide)
  simp only [List.eraseIdx_cons_succ, List.eraseIdx_cons_zero] at O7
  obtain ⟨bp, bcap, hbv, _⟩ := O7.scVal 0 rfl
  subst hbv
  have g7 := O7.get 4 rfl
  have p7 := O7.can 4 rfl
  have O8 := O7.set 4 rfl (.cells [.slice wp o.ws.length wcap, .slice pp (o.ps ++ [m]).length pcap, .slice bp (o.bs ++ [(o.ws.length : Int)]).length bcap] 1 false)
  simp only [List.set_cons_zero, List.set_cons_succ] at O8
  simp only [g5, bs, ap, g7, p7, slI, wkF, ↓reduceIte, reduceCtorEq, Nat.reduceAdd, Nat.reduceLeDiff, Nat.reduceMul, Nat.reduceLT, Nat.reduceEqDiff, wkG, wkH]
  refine leaf0n ?_
  have O9 := ((((((((O8.rid 7 rfl).rid 3 rfl).rid 1 rfl).at 4 rfl).at 1 rfl).at 2 rfl).at 4 rfl).at 4 rfl)
  exact Has.ogClose (o := o.post m) O9
end
theorem env61 : env 61 = some ir61 := rfl
theorem sub_lt' {a i q : Nat} (hk : q = a - i) (h : i < a) : a - (i + 1) < q := by omega
def Rrest (W : Nat → List It) (q : Nat → Value) (C c : Nat) : Rs := Rs.all (((List.range C).map fun c => Sc 3 ic (q c) (W c)).eraseIdx c)
section
variable {ro : Nat → Option (List Value × Nat)} {h : Heap} {R : List Rs} {rb ob : Nat} {F : Rf} {o : Ou} {n c : Nat}
theorem rg_take (hc : c < F.C) (O : Has ro h (Rg rb F :: R)) : ∃ cb tb q p cap, q c = .slice p (F.W c).length cap ∧ readC (h.get cb) (c * 3) 3 = some [.int .i64 (F.E c).o, .int .u32 (F.E c).g, .slice p (F.W c).length cap] ∧
    readC (h.get cb) (c * 3) 1 = some [.int .i64 (F.E c).o] ∧ readC (h.get cb) (c * 3 + 1) 1 = some [.int .u32 (F.E c).g] ∧ readC (h.get cb) (c * 3 + 2) 1 = some [.slice p (F.W c).length cap] ∧
    Has ro h (Ob rb (.cells (rfc F cb tb) 1 false) :: Ob cb (.cells ((rcs F q).flatMap rcell) 3 false) :: Ob tb (.cells ((rts F).flatMap zc) 1 false) :: Rrest F.W q F.C c :: Sc 3 ic (.slice p (F.W c).length cap) (F.W c) :: R) := by
  obtain ⟨cb, tb, q, O1⟩ := Has.rgOpen O
  have O2 := Has.rqOut hc (O1.at 3 rfl)
  obtain ⟨p, cap, e, _⟩ := O2.scVal 0 rfl
  have g := O1.get 1 rfl
  have hq := rcs_get F q hc
  rw [e] at O2 hq
  have r1 := readC_flat rcell_len hq (zz := 3) (t := false) (k := 0) (m := 1) (by decide)
  have r2 := readC_flat rcell_len hq (zz := 3) (t := false) (k := 1) (m := 1) (by decide)
  have r3 := readC_flat rcell_len hq (zz := 3) (t := false) (k := 2) (m := 1) (by decide)
  have r4 := readC_flatA rcell_len hq (zz := 3) (t := false)
  rw [← g] at r1 r2 r3 r4
  rw [Nat.add_zero] at r1
  refine ⟨cb, tb, q, p, cap, e, r4, r1, r2, r3, ?_⟩
  exact ((O2.swap2.at 4 rfl).at 4 rfl).at 4 rfl
theorem rg_put {cb tb : Nat} {q : Nat → Value} {v : Value} (hc : c < F.C) (e : En) (l : List It) (O : Has ro h (Ob rb (.cells (rfc F cb tb) 1 false) :: Ob cb (.cells ((rcs F q).flatMap rcell) 3 false) :: Ob tb (.cells ((rts F).flatMap zc) 1 false) :: Rrest F.W q F.C c :: Sc 3 ic v l :: R)) : Has ro (h.setB cb (.cells ((rcs (F.put c e l) fun x => if x = c then v else q x).flatMap rcell) 3 false)) (Rg rb (F.put c e l) :: R) := by
  have O1 := O.set 1 rfl (.cells ((rcs (F.put c e l) fun x => if x = c then v else q x).flatMap rcell) 3 false)
  simp only [List.set_cons_zero, List.set_cons_succ] at O1
  have O2 := ((O1.at 4 rfl).at 4 rfl).swap2
  have O3 : Has ro (h.setB cb (.cells ((rcs (F.put c e l) fun x => if x = c then v else q x).flatMap rcell) 3 false)) (Rqs (F.put c e l).W (fun x => if x = c then v else q x) F.C :: _) := Has.rqBack (W := F.W) (q := q) (W' := (F.put c e l).W) (q' := fun x => if x = c then v else q x) hc (fun x hx => if_neg hx) (fun x hx => if_neg hx) (by
    have e1 : (F.put c e l).W c = l := if_pos rfl
    rw [e1, if_pos rfl]
    exact O2)
  exact Has.rgClose (F := F.put c e l) (((O3.at 3 rfl).at 3 rfl).at 3 rfl)
theorem rg_back {cb tb : Nat} {q : Nat → Value} (hc : c < F.C) (O : Has ro h (Ob rb (.cells (rfc F cb tb) 1 false) :: Ob cb (.cells ((rcs F q).flatMap rcell) 3 false) :: Ob tb (.cells ((rts F).flatMap zc) 1 false) :: Rrest F.W q F.C c :: Sc 3 ic (q c) (F.W c) :: R)) : Has ro h (Rg rb F :: R) := by
  have O2 := ((O.at 4 rfl).at 4 rfl).swap2
  have O3 : Has ro h (Rqs F.W q F.C :: _) := Has.rqBack (W := F.W) (q := q) (W' := F.W) (q' := q) hc (fun x hx => rfl) (fun x hx => rfl) O2
  exact Has.rgClose (((O3.at 3 rfl).at 3 rfl).at 3 rfl)
def cutF (l : List It) (r : Int) : List It := l.filter fun x => decide (x.r ≠ r)
theorem cutF_succ {l : List It} {r : Int} {j : Nat} {x : It} (h : l[j]? = some x) : cutF (l.take (j + 1)) r = cutF (l.take j) r ++ if x.r = r then [] else [x] := by
  unfold cutF
  rw [List.take_add_one, h, List.filter_append]
  by_cases e : x.r = r
  · rw [if_pos e]
    simp [e]
  · rw [if_neg e]
    simp [e]
theorem cutF_len (l : List It) (r : Int) : (cutF l r).length ≤ l.length := List.length_filter_le _ _
theorem st3 (a b v : Value) : cellsOf (.agg #[a, b, v]) = [a, b, v] := rfl
theorem rcut_h (r : Int) (z : Rz F) (hc : c < F.C) (hn : 40 < n) (O : Has ro h (Rg rb F :: R)) :
    (callV env (n + 1) (.func (.func 61) #[] #[]) [.pointer (some ⟨rb, 0, none⟩), .int .i64 (c : Int), .int .i64 r] h).Is fun p => Has ro p.2 (Rg rb (F.put c (F.E c) (cutF (F.W c) r)) :: R) := by
  obtain ⟨cb, tb, q, pq, cq, hqc, rd, _, _, _, O1⟩ := rg_take hc O
  have g1 := O1.get 0 rfl
  unfold rfc at g1
  have c0 : (0 : Int) ≤ (c : Int) := by omega
  have c1 : (c : Int) < (F.C : Int) := by omega
  have w8 := z.w c
  refine call_is env61 ?_
  simp only [ir61, Nat.reduceAdd, Nat.reduceSub, g1, rd, c0, c1, Int.toNat_natCast, Nat.zero_add, wkF, X_seq, Y_store, Y_makeMap, Y_buildSlice, ↓reduceIte, reduceCtorEq, wkO, wkS, Nat.reduceLeDiff, Nat.reduceMul, Nat.reduceLT, Nat.reduceEqDiff, wkN, wkG]
  refine Y_boxO O1 ?_
  intro b6 h2 O2 _
  replace O2 : Has ro h2 (Ob b6 (.cells [.int .i64 0, .int .u32 0, .slice none 0 0] 1 false) :: Ob rb (.cells (rfc F cb tb) 1 false) :: Ob cb (.cells ((rcs F q).flatMap rcell) 3 false) :: Ob tb (.cells ((rts F).flatMap zc) 1 false) :: Rrest F.W q F.C c :: Sc 3 ic (.slice pq (F.W c).length cq) (F.W c) :: R) := O2
  have g2 := O2.get 0 rfl
  have p2 := O2.can 0 rfl
  have O3 := O2.set 0 rfl (.cells [.int .i64 (F.E c).o, .int .u32 (F.E c).g, .slice pq (F.W c).length cq] 1 false)
  simp only [List.set_cons_zero] at O3
  simp only [g2, p2, wkF, ↓reduceIte, reduceCtorEq, Nat.reduceAdd, Nat.reduceLeDiff, Nat.reduceMul, Nat.reduceLT, Nat.reduceEqDiff, wkG, wkH]
  replace O3 := Has.scNil (z := 3) (g := ic) O3
  clear g2 p2 O2 rd O1 O
  have e0 : cutF ((F.W c).take 0) r = [] := rfl
  refine L_is (fun q' s => ∃ (j : Nat) (v7 : Value), q' = (F.W c).length - j ∧ s.defers = [] ∧ s.tmps.length = 48 ∧ s.tmps.getD 0 undefV = .pointer (some ⟨rb, 0, none⟩) ∧ s.tmps.getD 1 undefV = .int .i64 (c : Int) ∧ s.tmps.getD 2 undefV = .int .i64 r ∧ s.tmps.getD 6 undefV = .pointer (some ⟨b6, 0, none⟩) ∧ s.tmps.getD 7 undefV = v7 ∧ s.tmps.getD 8 undefV = .int .i64 (j : Int) ∧ j ≤ (F.W c).length ∧ Has ro s.h (Sc 3 ic v7 (cutF ((F.W c).take j) r) :: Ob b6 (.cells [.int .i64 (F.E c).o, .int .u32 (F.E c).g, .slice pq (F.W c).length cq] 1 false) :: Ob rb (.cells (rfc F cb tb) 1 false) :: Ob cb (.cells ((rcs F q).flatMap rcell) 3 false) :: Ob tb (.cells ((rts F).flatMap zc) 1 false) :: Rrest F.W q F.C c :: Sc 3 ic (.slice pq (F.W c).length cq) (F.W c) :: R)) (F.W c).length ?_ (by omega) ?_
  · exact ⟨0, _, rfl, rfl, rfl, rfl, rfl, rfl, rfl, rfl, rfl, Nat.zero_le _, O3⟩
  clear O3
  rintro q' tm df h4 ⟨j, v7, hk, hd, hlen_, g0, g1, g2, g6, g7, g8, hjl, O4⟩
  simp only at hd g0 g1 g2 g6 g7 g8 O4
  subst hd
  obtain ⟨w, hg_, rfl⟩ := explode hlen_
  simp only [hg_] at g0 g1 g2 g6 g7 g8
  clear hlen_ hg_
  have gb := O4.get 1 rfl
  by_cases hj : j < (F.W c).length
  · have hj' : (j : Int) < ((F.W c).length : Int) := by omega
    have hj0 : (0 : Int) ≤ (j : Int) := by omega
    have hq := nth_get hj
    obtain ⟨b2, off2, sp2, c2, hv2, k2, rd⟩ := (O4.vw 6 rfl).rd ic_len hq
    have e2 : pq = some ⟨b2, off2, sp2⟩ := by injection hv2
    subst e2
    have r0 := k2 0 1 (by decide)
    rw [Nat.add_zero] at r0
    have q0 : ∀ x : It, readN (ic x) 0 1 = some [.int .i64 x.r] := fun _ => rfl
    rw [q0] at r0
    have hs := cutF_succ (r := r) hq
    have hcl := cutF_len ((F.W c).take j) r
    have htl : ((F.W c).take j).length ≤ 8 := Nat.le_trans (List.length_take_le' _ _) w8
    generalize nth (F.W c) j = x at r0 rd hs
    have yj : IntKind.i64.wrap ((j : Int) + 1) = ((j + 1 : Nat) : Int) := by rw [wrap_i64 (by omega) (by omega)]; omega
    by_cases hx : x.r = r
    · have hx' := eq_true hx
      rw [if_pos hx, List.append_nil] at hs
      simp only [g0, g1, g2, g6, g7, g8, gb, hj', hj0, Int.toNat_natCast, r0, hx', yj, wkF, ↓reduceIte, reduceCtorEq, Nat.reduceAdd, Nat.reduceLeDiff, Nat.reduceMul, Nat.reduceLT, Nat.reduceEqDiff, wkG, wkH]
      refine Is_in ⟨(F.W c).length - (j + 1), sub_lt' hk hj, j + 1, v7, rfl, rfl, rfl, rfl, rfl, rfl, rfl, rfl, rfl, hj, ?_⟩
      rw [hs]
      exact O4
    · rw [if_neg hx] at hs
      simp only [g0, g1, g2, g6, g7, g8, gb, hj', hj0, Int.toNat_natCast, r0, hx, rd, wkF, X_seq, Y_box, Y_store, Y_makeMap, ↓reduceIte, reduceCtorEq, wkO, wkS, Nat.reduceAdd, Nat.reduceLeDiff, Nat.reduceMul, Nat.reduceLT, Nat.reduceEqDiff, wkG]
      refine Y_buildSliceO O4 (cs := ic x) rfl ?_
      intro b5 h5 O5 _
      obtain ⟨v7', h6, ap, O6⟩ := sc_appendV (bytes := 24) (by decide) ic_len ic_one (O5.at 1 rfl) (Has.one (O5.at 1 rfl) 1 rfl) (by show ((cutF ((F.W c).take j) r).length + 1) * 24 ≤ roomMost; unfold roomMost; omega) (by decide)
      simp only [List.eraseIdx_cons_succ, List.eraseIdx_cons_zero] at O6
      simp only [ap, yj, wkF, ↓reduceIte, reduceCtorEq, Nat.reduceAdd, wkG, wkH]
      refine Is_in ⟨(F.W c).length - (j + 1), sub_lt' hk hj, j + 1, v7', rfl, rfl, rfl, rfl, rfl, rfl, rfl, rfl, rfl, hj, ?_⟩
      rw [hs]
      exact O6.rid 1 rfl
  have hj' : ¬ (j : Int) < ((F.W c).length : Int) := by omega
  have hjw : j = (F.W c).length := by omega
  rw [hjw, List.take_length] at O4
  obtain ⟨p7, c7, rfl, _⟩ := O4.scVal 0 rfl
  generalize hL : cutF (F.W c) r = L at O4 g7 ⊢
  have pb := O4.can 1 rfl
  have O5 := O4.set 1 rfl (.cells [.int .i64 (F.E c).o, .int .u32 (F.E c).g, .slice p7 L.length c7] 1 false)
  simp only [List.set_cons_zero, List.set_cons_succ] at O5
  simp only [g0, g1, g2, g6, g7, g8, gb, hj', wkF, ↓reduceIte, reduceCtorEq, Nat.reduceAdd, Nat.reduceLeDiff, Nat.reduceMul, Nat.reduceLT, Nat.reduceEqDiff, wkG, wkH]
  refine Is_in ?_
  simp only [g0, g1, g2, g6, g7, g8, gb, pb, slI, wkF, ↓reduceIte, reduceCtorEq, Nat.reduceAdd, Nat.reduceLeDiff, Nat.reduceMul, Nat.reduceLT, Nat.reduceEqDiff, wkG, wkH]
  refine X_drawn _ fun an => ?_
  generalize h4.setB b6 _ = h5 at O5 ⊢
  replace O5 : Has ro h5 (Ob rb (.cells (rfc F cb tb) 1 false) :: Ob cb (.cells ((rcs F q).flatMap rcell) 3 false) :: Ob tb (.cells ((rts F).flatMap zc) 1 false) :: Rrest F.W q F.C c :: Sc 3 ic (.slice p7 L.length c7) L :: Ob b6 (.cells [.int .i64 (F.E c).o, .int .u32 (F.E c).g, .slice p7 L.length c7] 1 false) :: R) := ((((((O5.rid 6 rfl).at 1 rfl).at 1 rfl).at 5 rfl).at 5 rfl).at 5 rfl).at 5 rfl
  have q1 := O5.get 0 rfl
  unfold rfc at q1
  have q2 := O5.get 1 rfl
  have p2 := O5.can 1 rfl
  have q3 := O5.get 5 rfl
  have hput : setAt ((rcs F q).flatMap rcell) (c * 3) [.int .i64 (F.E c).o, .int .u32 (F.E c).g, .slice p7 L.length c7] = _ := rcs_put F q hc (F.E c) (.slice p7 L.length c7) L
  have hfl := rcs_flen F q
  have hin : c * 3 + 3 ≤ F.C * 3 := by omega
  have O6 := rg_put hc (F.E c) L O5
  simp only [q1, q2, p2, q3, c0, c1, Int.toNat_natCast, Nat.zero_add, st3, hput, hfl, hin, wkF, X_seq, Y_box, Y_store, Y_makeMap, Y_buildSlice, ↓reduceIte, reduceCtorEq, wkO, Nat.reduceAdd, Nat.reduceLeDiff, Nat.reduceMul, Nat.reduceLT, Nat.reduceEqDiff, wkG]
  exact leaf0n (O6.rid 1 rfl)
end
theorem env65 : env 65 = some ir65 := rfl
theorem env72 : env 72 = some ir72 := rfl
def ahd (a b : It) : Prop := if a.p ≠ b.p then b.p < a.p else if a.s ≠ b.s then a.s < b.s else a.r < b.r
instance (a b : It) : Decidable (ahd a b) := by unfold ahd; infer_instance
theorem ahd_1 {a b : It} (h : ¬ a.p = b.p) : ahd a b ↔ b.p < a.p := by unfold ahd; rw [if_pos h]
theorem ahd_2 {a b : It} (h : a.p = b.p) (k : ¬ a.s = b.s) : ahd a b ↔ a.s < b.s := by unfold ahd; rw [if_neg (fun e => e h), if_pos k]
theorem ahd_3 {a b : It} (h : a.p = b.p) (k : a.s = b.s) : ahd a b ↔ a.r < b.r := by unfold ahd; rw [if_neg (fun e => e h), if_neg (fun e => e k)]
def gput (x : It) (s : List It × Bool) (y : It) : List It × Bool := if s.2 = false ∧ ahd x y then (s.1 ++ [x] ++ [y], true) else (s.1 ++ [y], s.2)
def insS (x : It) (L : List It) : List It × Bool := L.foldl (gput x) ([], false)
def insX (x : It) (L : List It) : List It := if (insS x L).2 then (insS x L).1 else (insS x L).1 ++ [x]
theorem insS_succ {x y : It} {L : List It} {j : Nat} (h : L[j]? = some y) : insS x (L.take (j + 1)) = gput x (insS x (L.take j)) y := by
  unfold insS
  rw [List.take_add_one, h, List.foldl_append]
  rfl
theorem insS_len (x : It) (L : List It) : (insS x L).1.length ≤ L.length + 1 := by
  have k : ∀ (L : List It) (s : List It × Bool), (L.foldl (gput x) s).1.length + (if (L.foldl (gput x) s).2 then 0 else 1) ≤ s.1.length + (if s.2 then 0 else 1) + L.length := by
    intro L
    induction L with
    | nil => intro s; exact Nat.le_refl _
    | cons y L ih =>
      intro s
      rw [List.foldl_cons]
      refine Nat.le_trans (ih _) ?_
      unfold gput
      obtain ⟨a, b⟩ := s
      cases b <;> by_cases h : ahd x y <;> simp [h] <;> omega
  have := k L ([], false)
  unfold insS
  simp at this
  split at this <;> omega
def Hold (l : List It) (x : It) : Prop := ∃ y ∈ l, y.r = x.r ∧ x.p ≤ y.p
section
variable {ro : Nat → Option (List Value × Nat)} {h : Heap} {R : List Rs} {rb ob : Nat} {F : Rf} {o : Ou} {n c : Nat}
theorem ahead_h (a b : It) (O : Has ro h R) : (callV env (n + 1) (.func (.func 72) #[] #[]) [iv a, iv b] h).Is fun p => p.1 = .bool (decide (ahd a b)) ∧ Has ro p.2 R := by
  refine call_is env72 ?_
  simp only [ir72, Nat.reduceAdd, Nat.reduceSub, wkF, X_seq, Y_store, Y_makeMap, Y_buildSlice, ↓reduceIte, reduceCtorEq, wkO, wkS, wkN, wkG]
  refine Y_boxO O ?_
  intro b2 h1 O1 _
  replace O1 : Has ro h1 (Ob b2 (.cells (ic a) 1 false) :: R) := O1
  simp only [wkF, X_seq, Y_store, Y_makeMap, Y_buildSlice, ↓reduceIte, reduceCtorEq, wkO, wkS, Nat.reduceAdd, wkG]
  refine Y_boxO O1 ?_
  intro b3 h2 O2 _
  replace O2 : Has ro h2 (Ob b3 (.cells (ic b) 1 false) :: Ob b2 (.cells (ic a) 1 false) :: R) := O2
  have g1 := O2.get 0 rfl
  have g2 := O2.get 1 rfl
  by_cases h1 : a.p = b.p
  · have h1' := eq_true h1
    by_cases h2 : a.s = b.s
    · have h2' := eq_true h2
      rw [decide_eq_decide.2 (ahd_3 h1 h2)]
      simp only [g1, g2, h1', h2', ic_len, tk_ic, tk_ic1, dr_ic1, dr_ic2, agg_ic, iv_cells, set_ic, ic_one, wkF, ↓reduceIte, reduceCtorEq, Nat.reduceAdd, Nat.reduceLeDiff, Nat.reduceMul, Nat.reduceLT, Nat.reduceEqDiff, wkG, wkH]
      exact leaf1 ⟨rfl, (O2.drop).drop⟩
    · rw [decide_eq_decide.2 (ahd_2 h1 h2)]
      simp only [g1, g2, h1', h2, ic_len, tk_ic, tk_ic1, dr_ic1, dr_ic2, agg_ic, iv_cells, set_ic, ic_one, wkF, ↓reduceIte, reduceCtorEq, Nat.reduceAdd, Nat.reduceLeDiff, Nat.reduceMul, Nat.reduceLT, Nat.reduceEqDiff, wkG, wkH]
      exact leaf1 ⟨rfl, (O2.drop).drop⟩
  · rw [decide_eq_decide.2 (ahd_1 h1)]
    simp only [g1, g2, h1, ic_len, tk_ic, tk_ic1, dr_ic1, dr_ic2, agg_ic, iv_cells, set_ic, ic_one, wkF, ↓reduceIte, reduceCtorEq, Nat.reduceAdd, Nat.reduceLeDiff, Nat.reduceMul, Nat.reduceLT, Nat.reduceEqDiff, wkG, wkH]
    exact leaf1 ⟨rfl, (O2.drop).drop⟩
theorem rput_h {l : List It} {pl : Option Addr} {cl : Nat} (x : It) (hl : l.length ≤ 8) (hn : 40 < n) (O : Has ro h (Sc 3 ic (.slice pl l.length cl) l :: R)) :
    (callV env (n + 2) (.func (.func 65) #[] #[]) [.slice pl l.length cl, iv x] h).Is fun p => (Hold l x ∧ p.1 = .tuple #[.slice pl l.length cl, .bool true] ∧ Has ro p.2 (Sc 3 ic (.slice pl l.length cl) l :: R)) ∨
      (¬ Hold l x ∧ 8 ≤ (cutF l x.r).length ∧ p.1 = .tuple #[.slice pl l.length cl, .bool false] ∧ Has ro p.2 (Sc 3 ic (.slice pl l.length cl) l :: R)) ∨
      (¬ Hold l x ∧ (cutF l x.r).length < 8 ∧ ∃ v', p.1 = .tuple #[v', .bool true] ∧ Has ro p.2 (Sc 3 ic v' (insX x (cutF l x.r)) :: Sc 3 ic (.slice pl l.length cl) l :: R)) := by
  refine call_is env65 ?_
  simp only [ir65, Nat.reduceAdd, Nat.reduceSub, wkF, X_seq, Y_store, Y_makeMap, Y_buildSlice, ↓reduceIte, reduceCtorEq, wkO, wkS, wkN, wkG]
  refine Y_boxO O ?_
  intro b3 h1 O1 _
  replace O1 : Has ro h1 (Ob b3 (.cells (ic x) 1 false) :: Sc 3 ic (.slice pl l.length cl) l :: R) := O1
  simp only [wkF, ↓reduceIte, reduceCtorEq, Nat.reduceAdd, wkG, wkH]
  replace O1 := Has.scNil (z := 3) (g := ic) O1
  clear O
  refine L_is (fun q' s => ∃ (j : Nat) (v6 : Value), q' = l.length - j ∧ s.defers = [] ∧ s.tmps.length = 79 ∧ s.tmps.getD 0 undefV = .slice pl l.length cl ∧ s.tmps.getD 3 undefV = .pointer (some ⟨b3, 0, none⟩) ∧ s.tmps.getD 6 undefV = v6 ∧ s.tmps.getD 7 undefV = .int .i64 (j : Int) ∧ j ≤ l.length ∧ (∀ y ∈ l.take j, ¬ (y.r = x.r ∧ x.p ≤ y.p)) ∧ Has ro s.h (Sc 3 ic v6 (cutF (l.take j) x.r) :: Ob b3 (.cells (ic x) 1 false) :: Sc 3 ic (.slice pl l.length cl) l :: R)) l.length ?_ (by omega) ?_
  · exact ⟨0, _, rfl, rfl, rfl, rfl, rfl, rfl, rfl, Nat.zero_le _, (fun y hy => by cases hy), O1⟩
  clear O1
  rintro q' tm df h4 ⟨j, v6, hk, hd, hlen_, g0, g3, g6, g7, hjl, hno, O4⟩
  simp only at hd g0 g3 g6 g7 O4
  subst hd
  obtain ⟨w, hg_, rfl⟩ := explode hlen_
  simp only [hg_] at g0 g3 g6 g7
  clear hlen_ hg_
  have gb := O4.get 1 rfl
  by_cases hj : j < l.length
  · have hj' : (j : Int) < (l.length : Int) := by omega
    have hj0 : (0 : Int) ≤ (j : Int) := by omega
    have hq := nth_get hj
    obtain ⟨b2, off2, sp2, c2, hv2, k2, rd⟩ := (O4.vw 2 rfl).rd ic_len hq
    have e2 : pl = some ⟨b2, off2, sp2⟩ := by injection hv2
    subst e2
    have r0 := k2 0 1 (by decide)
    rw [Nat.add_zero] at r0
    have r2 := k2 2 1 (by decide)
    have q0 : ∀ x : It, readN (ic x) 0 1 = some [.int .i64 x.r] := fun _ => rfl
    have q2 : ∀ x : It, readN (ic x) 2 1 = some [.int .i64 x.p] := fun _ => rfl
    rw [q0] at r0
    rw [q2] at r2
    have hs := cutF_succ (r := x.r) hq
    have hcl := cutF_len (l.take j) x.r
    have htl : (l.take j).length ≤ 8 := Nat.le_trans (List.length_take_le' _ _) hl
    have hmem : nth l j ∈ l := List.mem_of_getElem? hq
    have htk : l.take (j + 1) = l.take j ++ [nth l j] := by rw [List.take_add_one, hq]; rfl
    generalize nth l j = y at r0 r2 rd hs hmem htk
    have yj : IntKind.i64.wrap ((j : Int) + 1) = ((j + 1 : Nat) : Int) := by rw [wrap_i64 (by omega) (by omega)]; omega
    have ho6 : ∀ y' ∈ l.take (j + 1), ¬ (y'.r = x.r ∧ x.p ≤ y'.p) ↔ ¬ (y'.r = x.r ∧ x.p ≤ y'.p) := fun _ _ => Iff.rfl
    simp only [g0, g3, g6, g7, hj', wkF, ↓reduceIte, reduceCtorEq, Nat.reduceAdd, wkG, wkH]
    refine X_drawn _ fun an => ?_
    by_cases hx : y.r = x.r
    · have hx' := eq_true hx
      rw [if_pos hx, List.append_nil] at hs
      simp only [gb, hj', hj0, Int.toNat_natCast, r0, hx', ic_len, tk_ic, tk_ic1, dr_ic1, dr_ic2, agg_ic, iv_cells, set_ic, ic_one, wkF, ↓reduceIte, reduceCtorEq, Nat.reduceAdd, Nat.reduceLeDiff, Nat.reduceMul, Nat.reduceLT, Nat.reduceEqDiff, wkG, wkH]
      refine X_drawn _ fun an => ?_
      by_cases hp : x.p ≤ y.p
      · simp only [gb, hj', hj0, Int.toNat_natCast, r2, hp, ic_len, tk_ic, tk_ic1, dr_ic1, dr_ic2, agg_ic, iv_cells, set_ic, ic_one, wkF, ↓reduceIte, reduceCtorEq, Nat.reduceAdd, Nat.reduceLeDiff, Nat.reduceMul, Nat.reduceLT, Nat.reduceEqDiff, wkG, wkH]
        refine Is_in ?_
        simp only [wkF, ↓reduceIte, reduceCtorEq, Nat.reduceAdd, wkG, wkH]
        exact leaf2 (Or.inl ⟨⟨y, hmem, hx, hp⟩, rfl, (O4.drop).drop⟩)
      · simp only [gb, hj', hj0, Int.toNat_natCast, r2, hp, ic_len, tk_ic, tk_ic1, dr_ic1, dr_ic2, agg_ic, iv_cells, set_ic, ic_one, yj, wkF, ↓reduceIte, reduceCtorEq, Nat.reduceAdd, Nat.reduceLeDiff, Nat.reduceMul, Nat.reduceLT, Nat.reduceEqDiff, wkG, wkH]
        refine Is_in ⟨l.length - (j + 1), sub_lt' hk hj, j + 1, v6, rfl, rfl, rfl, rfl, rfl, rfl, rfl, hj, ?_, ?_⟩
        · intro z hz
          rw [htk] at hz
          rcases List.mem_append.1 hz with hz | hz
          · exact hno z hz
          · rw [List.mem_singleton] at hz
            subst hz
            exact fun h => hp h.2
        · rw [hs]
          exact O4
    · rw [if_neg hx] at hs
      simp only [gb, hj', hj0, Int.toNat_natCast, r0, hx, ic_len, tk_ic, tk_ic1, dr_ic1, dr_ic2, agg_ic, iv_cells, set_ic, ic_one, rd, wkF, X_seq, Y_box, Y_store, Y_makeMap, ↓reduceIte, reduceCtorEq, wkO, wkS, Nat.reduceAdd, Nat.reduceLeDiff, Nat.reduceMul, Nat.reduceLT, Nat.reduceEqDiff, wkG]
      refine Y_buildSliceO O4 (cs := ic y) rfl ?_
      intro b5 h5 O5 _
      obtain ⟨v6', h6, ap, O6⟩ := sc_appendV (bytes := 24) (by decide) ic_len ic_one (O5.at 1 rfl) (Has.one (O5.at 1 rfl) 1 rfl) (by show ((cutF (l.take j) x.r).length + 1) * 24 ≤ roomMost; unfold roomMost; omega) (by decide)
      simp only [List.eraseIdx_cons_succ, List.eraseIdx_cons_zero] at O6
      simp only [ap, yj, wkF, ↓reduceIte, reduceCtorEq, Nat.reduceAdd, wkG, wkH]
      refine Is_in ⟨l.length - (j + 1), sub_lt' hk hj, j + 1, v6', rfl, rfl, rfl, rfl, rfl, rfl, rfl, hj, ?_, ?_⟩
      · intro z hz
        rw [htk] at hz
        rcases List.mem_append.1 hz with hz | hz
        · exact hno z hz
        · rw [List.mem_singleton] at hz
          subst hz
          exact fun h => hx h.1
      · rw [hs]
        exact O6.rid 1 rfl
  have hj' : ¬ (j : Int) < (l.length : Int) := by omega
  have hjw : j = l.length := by omega
  rw [hjw, List.take_length] at O4 hno
  have hH : ¬ Hold l x := fun ⟨y, hy, h⟩ => hno y hy h
  obtain ⟨p6, c6, rfl, _⟩ := O4.scVal 0 rfl
  generalize hL : cutF l x.r = L at O4 g6 ⊢
  have hLl : L.length ≤ 8 := by rw [← hL]; exact Nat.le_trans (cutF_len _ _) hl
  simp only [g0, g3, g6, g7, hj', wkF, ↓reduceIte, reduceCtorEq, Nat.reduceAdd, wkG, wkH]
  refine Is_in ?_
  by_cases h8 : 8 ≤ L.length
  · have h8' : (8 : Int) ≤ (L.length : Int) := by omega
    simp only [g0, g3, g6, g7, h8', wkF, ↓reduceIte, reduceCtorEq, Nat.reduceAdd, wkG, wkH]
    exact leaf2 (Or.inr (Or.inl ⟨hH, h8, rfl, (O4.drop).drop⟩))
  have h8' : ¬ (8 : Int) ≤ (L.length : Int) := by omega
  simp only [g0, g3, g6, g7, h8', wkF, ↓reduceIte, reduceCtorEq, Nat.reduceAdd, wkG, wkH]
  replace O4 := Has.scNil (z := 3) (g := ic) O4
  refine L_is (fun q' s => ∃ (j : Nat) (v8 : Value), q' = L.length - j ∧ s.defers = [] ∧ s.tmps.length = 79 ∧ s.tmps.getD 0 undefV = .slice pl l.length cl ∧ s.tmps.getD 3 undefV = .pointer (some ⟨b3, 0, none⟩) ∧ s.tmps.getD 6 undefV = .slice p6 L.length c6 ∧ s.tmps.getD 8 undefV = v8 ∧ s.tmps.getD 9 undefV = .bool (insS x (L.take j)).2 ∧ s.tmps.getD 10 undefV = .int .i64 (j : Int) ∧ j ≤ L.length ∧ Has ro s.h (Sc 3 ic v8 (insS x (L.take j)).1 :: Sc 3 ic (.slice p6 L.length c6) L :: Ob b3 (.cells (ic x) 1 false) :: Sc 3 ic (.slice pl l.length cl) l :: R)) L.length ?_ (by omega) ?_
  · exact ⟨0, _, rfl, rfl, rfl, rfl, rfl, rfl, rfl, rfl, rfl, Nat.zero_le _, O4⟩
  clear O4 g0 g3 g6 g7 w gb hk
  rintro q' tm df h5 ⟨j2, v8, hk, hd, hlen_, g0, g3, g6, g8, g9, g10, hjl2, O5⟩
  simp only at hd g0 g3 g6 g8 g9 g10 O5
  subst hd
  obtain ⟨w, hg_, rfl⟩ := explode hlen_
  simp only [hg_] at g0 g3 g6 g8 g9 g10
  clear hlen_ hg_
  have gb := O5.get 2 rfl
  by_cases hj2 : j2 < L.length
  · have hj' : (j2 : Int) < (L.length : Int) := by omega
    have hj0 : (0 : Int) ≤ (j2 : Int) := by omega
    have hq := nth_get hj2
    obtain ⟨b2, off2, sp2, c2, hv2, k2, rd⟩ := (O5.vw 1 rfl).rd ic_len hq
    have e2 : p6 = some ⟨b2, off2, sp2⟩ := by injection hv2
    subst e2
    have hs := insS_succ (x := x) hq
    have hcl := insS_len x (L.take j2)
    have htl : (L.take j2).length ≤ 8 := Nat.le_trans (List.length_take_le' _ _) hLl
    have hqy := hq
    generalize nth L j2 = y at rd hs hqy
    generalize insS x (L.take j2) = S at hs hcl O5 g9
    obtain ⟨A, B⟩ := S
    simp only at O5 g9 hcl
    have yj : IntKind.i64.wrap ((j2 : Int) + 1) = ((j2 + 1 : Nat) : Int) := by rw [wrap_i64 (by omega) (by omega)]; omega
    have fin : ∀ (h6 : Heap) (tm : List Value), True := fun _ _ => trivial
    simp only [g0, g3, g6, g8, g9, g10, hj', wkF, ↓reduceIte, reduceCtorEq, Nat.reduceAdd, wkG, wkH]
    refine X_drawn _ fun an => ?_
    cases B with
    | true =>
      have hs' : insS x (L.take (j2 + 1)) = (A ++ [y], true) := by rw [hs]; unfold gput; rw [if_neg (fun h => by cases h.1)]
      simp only [g9, hj', hj0, Int.toNat_natCast, rd, ic_len, tk_ic, tk_ic1, dr_ic1, dr_ic2, agg_ic, iv_cells, set_ic, ic_one, wkF, X_seq, Y_box, Y_store, Y_makeMap, ↓reduceIte, reduceCtorEq, wkO, wkS, Nat.reduceAdd, wkG]
      refine Y_buildSliceO O5 (cs := ic y) rfl ?_
      intro b6 h6 O6 _
      obtain ⟨v8', h7, ap, O7⟩ := sc_appendV (bytes := 24) (by decide) ic_len ic_one (O6.at 1 rfl) (Has.one (O6.at 1 rfl) 1 rfl) (by show (A.length + 1) * 24 ≤ roomMost; unfold roomMost; omega) (by decide)
      simp only [List.eraseIdx_cons_succ, List.eraseIdx_cons_zero] at O7
      simp only [ap, yj, wkF, ↓reduceIte, reduceCtorEq, Nat.reduceAdd, wkG, wkH]
      refine Is_in ⟨L.length - (j2 + 1), sub_lt' hk hj2, j2 + 1, v8', rfl, rfl, ?_⟩
      rw [hs']
      exact ⟨rfl, rfl, rfl, rfl, rfl, rfl, rfl, hj2, O7.rid 1 rfl⟩
    | false =>
      simp only [g9, gb, hj', hj0, Int.toNat_natCast, rd, ic_len, tk_ic, tk_ic1, dr_ic1, dr_ic2, agg_ic, iv_cells, set_ic, ic_one, wkF, ↓reduceIte, reduceCtorEq, Nat.reduceAdd, Nat.reduceLeDiff, Nat.reduceMul, Nat.reduceLT, Nat.reduceEqDiff, wkG, wkH]
      refine DB_is (ahead_h (n := n) x y O5) ?_
      rintro v h6 ⟨rfl, O6⟩
      simp only at O6
      have gb6 := O6.get 2 rfl
      have rdy : ∀ {h' : Heap} {R' : List Rs}, Has ro h' (Sc 3 ic (.slice (some ⟨b2, off2, sp2⟩) L.length c6) L :: R') → readC (h'.get b2) (off2 + j2 * 3) 3 = some (ic y) := by
        intro h' R' O'
        obtain ⟨b2', off2', sp2', c2', hv2', _, rd'⟩ := (O'.vw 0 rfl).rd ic_len hqy
        have e2 : some (⟨b2, off2, sp2⟩ : Addr) = some ⟨b2', off2', sp2'⟩ := by injection hv2'
        obtain ⟨rfl, rfl, rfl⟩ : b2 = b2' ∧ off2 = off2' ∧ sp2 = sp2' := by simpa using e2
        exact rd'
      by_cases ha : ahd x y
      · have hd : decide (ahd x y) = true := decide_eq_true ha
        have hs' : insS x (L.take (j2 + 1)) = (A ++ [x] ++ [y], true) := by rw [hs]; unfold gput; rw [if_pos ⟨rfl, ha⟩]
        simp only [hd, gb6, ic_len, tk_ic, tk_ic1, dr_ic1, dr_ic2, agg_ic, iv_cells, set_ic, ic_one, wkF, X_seq, Y_box, Y_store, Y_makeMap, ↓reduceIte, reduceCtorEq, wkO, wkS, Nat.reduceAdd, Nat.reduceLeDiff, Nat.reduceMul, Nat.reduceLT, Nat.reduceEqDiff, wkG]
        refine Y_buildSliceO O6 (cs := ic x) rfl ?_
        intro b7 h7 O7 _
        obtain ⟨v8', h8, ap, O8⟩ := sc_appendV (bytes := 24) (by decide) ic_len ic_one (O7.at 1 rfl) (Has.one (O7.at 1 rfl) 1 rfl) (by show (A.length + 1) * 24 ≤ roomMost; unfold roomMost; omega) (by decide)
        simp only [List.eraseIdx_cons_succ, List.eraseIdx_cons_zero] at O8
        have rd8 := rdy (O8.at 2 rfl)
        simp only [ap, hj', hj0, Int.toNat_natCast, rd8, ic_len, tk_ic, tk_ic1, dr_ic1, dr_ic2, agg_ic, iv_cells, set_ic, ic_one, wkF, X_seq, Y_box, Y_store, Y_makeMap, ↓reduceIte, reduceCtorEq, wkO, wkS, Nat.reduceAdd, wkG]
        refine Y_buildSliceO O8 (cs := ic y) rfl ?_
        intro b9 h9 O9 _
        obtain ⟨v8'', h10, ap, O10⟩ := sc_appendV (bytes := 24) (by decide) ic_len ic_one (O9.at 1 rfl) (Has.one (O9.at 1 rfl) 1 rfl) (by show ((A ++ [x]).length + 1) * 24 ≤ roomMost; rw [List.length_append]; show (A.length + 1 + 1) * 24 ≤ roomMost; unfold roomMost; omega) (by decide)
        simp only [List.eraseIdx_cons_succ, List.eraseIdx_cons_zero] at O10
        simp only [ap, yj, wkF, ↓reduceIte, reduceCtorEq, Nat.reduceAdd, wkG, wkH]
        refine Is_in ⟨L.length - (j2 + 1), sub_lt' hk hj2, j2 + 1, v8'', rfl, rfl, ?_⟩
        rw [hs']
        exact ⟨rfl, rfl, rfl, rfl, rfl, rfl, rfl, hj2, (O10.rid 1 rfl).rid 1 rfl⟩
      · have hd : decide (ahd x y) = false := decide_eq_false ha
        have hs' : insS x (L.take (j2 + 1)) = (A ++ [y], false) := by rw [hs]; unfold gput; rw [if_neg (fun h => ha h.2)]
        have rd8 := rdy (O6.at 1 rfl)
        simp only [hd, hj', hj0, Int.toNat_natCast, rd8, ic_len, tk_ic, tk_ic1, dr_ic1, dr_ic2, agg_ic, iv_cells, set_ic, ic_one, wkF, X_seq, Y_box, Y_store, Y_makeMap, ↓reduceIte, reduceCtorEq, wkO, wkS, Nat.reduceAdd, wkG]
        refine Y_buildSliceO O6 (cs := ic y) rfl ?_
        intro b9 h9 O9 _
        obtain ⟨v8', h10, ap, O10⟩ := sc_appendV (bytes := 24) (by decide) ic_len ic_one (O9.at 1 rfl) (Has.one (O9.at 1 rfl) 1 rfl) (by show (A.length + 1) * 24 ≤ roomMost; unfold roomMost; omega) (by decide)
        simp only [List.eraseIdx_cons_succ, List.eraseIdx_cons_zero] at O10
        simp only [ap, yj, wkF, ↓reduceIte, reduceCtorEq, Nat.reduceAdd, wkG, wkH]
        refine Is_in ⟨L.length - (j2 + 1), sub_lt' hk hj2, j2 + 1, v8', rfl, rfl, ?_⟩
        rw [hs']
        exact ⟨rfl, rfl, rfl, rfl, rfl, rfl, rfl, hj2, O10.rid 1 rfl⟩
  have hj' : ¬ (j2 : Int) < (L.length : Int) := by omega
  have hjw : j2 = L.length := by omega
  rw [hjw, List.take_length] at O5 g9
  have h8L : L.length < 8 := by omega
  have hcl := insS_len x L
  have hX : insX x L = if (insS x L).2 then (insS x L).1 else (insS x L).1 ++ [x] := rfl
  generalize insS x L = S at hX hcl O5 g9
  obtain ⟨A, B⟩ := S
  simp only at O5 g9 hcl hX
  cases B with
  | true =>
    rw [if_pos rfl] at hX
    simp only [g0, g3, g6, g8, g9, g10, hj', wkF, ↓reduceIte, reduceCtorEq, Nat.reduceAdd, wkG, wkH]
    refine Is_in ?_
    simp only [g0, g3, g6, g8, g9, g10, wkF, ↓reduceIte, reduceCtorEq, Nat.reduceAdd, wkG, wkH]
    refine leaf2 (Or.inr (Or.inr ⟨hH, h8L, v8, rfl, ?_⟩))
    rw [hX]
    exact (O5.rid 1 rfl).rid 1 rfl
  | false =>
    rw [if_neg (by decide)] at hX
    simp only [g0, g3, g6, g8, g9, g10, hj', wkF, ↓reduceIte, reduceCtorEq, Nat.reduceAdd, wkG, wkH]
    refine Is_in ?_
    simp only [g0, g3, g6, g8, g9, g10, gb, ic_len, tk_ic, tk_ic1, dr_ic1, dr_ic2, agg_ic, iv_cells, set_ic, ic_one, wkF, X_seq, Y_box, Y_store, Y_makeMap, ↓reduceIte, reduceCtorEq, wkO, wkS, Nat.reduceAdd, Nat.reduceLeDiff, Nat.reduceMul, Nat.reduceLT, Nat.reduceEqDiff, wkG]
    refine Y_buildSliceO O5 (cs := ic x) rfl ?_
    intro b7 h7 O7 _
    obtain ⟨v8', h8, ap, O8⟩ := sc_appendV (bytes := 24) (by decide) ic_len ic_one (O7.at 1 rfl) (Has.one (O7.at 1 rfl) 1 rfl) (by show (A.length + 1) * 24 ≤ roomMost; unfold roomMost; omega) (by decide)
    simp only [List.eraseIdx_cons_succ, List.eraseIdx_cons_zero] at O8
    simp only [ap, wkF, ↓reduceIte, reduceCtorEq, Nat.reduceAdd, wkG, wkH]
    refine leaf2 (Or.inr (Or.inr ⟨hH, h8L, v8', rfl, ?_⟩))
    rw [hX]
    exact ((O8.rid 1 rfl).rid 1 rfl).rid 1 rfl
end
theorem env64 : env 64 = some ir64 := rfl
theorem rz_put {F : Rf} (z : Rz F) {c : Nat} {e : En} {l : List It} (hg : 0 ≤ e.g ∧ e.g ≤ 4294967295) (ho : -1 ≤ e.o ∧ e.o < (F.rob : Int)) (hl : l.length ≤ 8) : Rz (F.put c e l) := by
  obtain ⟨z1, z2, z3, z4, z5, z6, z7⟩ := z
  refine ⟨z1, z2, z3, z4, fun x => ?_, fun x => ?_, fun x => ?_⟩
  · show 0 ≤ (if x = c then e else F.E x).g ∧ (if x = c then e else F.E x).g ≤ 4294967295
    split
    · exact hg
    · exact z5 x
  · show -1 ≤ (if x = c then e else F.E x).o ∧ (if x = c then e else F.E x).o < (F.rob : Int)
    split
    · exact ho
    · exact z6 x
  · show (if x = c then l else F.W x).length ≤ 8
    split
    · exact hl
    · exact z7 x
section
variable {ro : Nat → Option (List Value × Nat)} {h : Heap} {R : List Rs} {rb ob : Nat} {F : Rf} {o : Ou} {n c : Nat}
theorem rgrant_h (w : It) (z : Rz F) (hc : c < F.C) (hr : -1 ≤ w.r ∧ w.r < (F.rob : Int)) (h1 : o.ws.length < 900000) (h2 : o.ps.length < 900000) (h3 : o.bs.length < 900000) (O : Has ro h (Rg rb F :: Og ob o :: R)) :
    (callV env (n + 4) (.func (.func 64) #[] #[]) [.pointer (some ⟨rb, 0, none⟩), .int .i64 (c : Int), iv w, .pointer (some ⟨ob, 0, none⟩)] h).Is fun p =>
      ((F.E c).g = 4294967295 ∧ p.1 = .bool false ∧ Has ro p.2 (Rg rb F :: Og ob (o.post (dny w (c : Int) (-1))) :: R)) ∨
        ((F.E c).g ≠ 4294967295 ∧ p.1 = .bool true ∧ ∃ d, Has ro p.2 (Rg rb (F.put c ⟨w.r, (F.E c).g + 1⟩ (F.W c)) :: Og ob ((o.wr (c : Int) ⟨w.r, (F.E c).g + 1⟩ d).post (grt w (c : Int) ((F.E c).g + 1))) :: R)) := by
  have c0 : (0 : Int) ≤ (c : Int) := by omega
  have c1 : (c : Int) < (F.C : Int) := by omega
  refine call_is env64 ?_
  simp only [ir64, Nat.reduceAdd, Nat.reduceSub, wkF, X_seq, Y_store, Y_makeMap, Y_buildSlice, ↓reduceIte, reduceCtorEq, wkO, wkS, Nat.reduceLeDiff, Nat.reduceMul, Nat.reduceLT, Nat.reduceEqDiff, wkN, wkG]
  refine Y_boxO O ?_
  intro b6 h4 O1 _
  replace O1 : Has ro h4 (Rg rb F :: Ob b6 (.cells (ic w) 1 false) :: Og ob o :: R) := O1.at 1 rfl
  obtain ⟨cb, tb, q, pq, cq, hqc, rd, _, _, _, O2⟩ := rg_take hc O1
  have g1 := O2.get 0 rfl
  unfold rfc at g1
  simp only [g1, rd, c0, c1, Int.toNat_natCast, Nat.zero_add, wkF, X_seq, Y_store, Y_makeMap, Y_buildSlice, ↓reduceIte, reduceCtorEq, wkO, wkS, Nat.reduceAdd, Nat.reduceLeDiff, Nat.reduceMul, Nat.reduceLT, Nat.reduceEqDiff, wkG]
  refine Y_boxO O2 ?_
  intro b9 h5 O3 _
  replace O3 : Has ro h5 (Ob b9 (.cells [.int .i64 0, .int .u32 0, .slice none 0 0] 1 false) :: Ob rb (.cells (rfc F cb tb) 1 false) :: Ob cb (.cells ((rcs F q).flatMap rcell) 3 false) :: Ob tb (.cells ((rts F).flatMap zc) 1 false) :: Rrest F.W q F.C c :: Sc 3 ic (.slice pq (F.W c).length cq) (F.W c) :: Ob b6 (.cells (ic w) 1 false) :: Og ob o :: R) := O3
  have g2 := O3.get 0 rfl
  have p2 := O3.can 0 rfl
  have g6 := O3.get 6 rfl
  have O4 := O3.set 0 rfl (.cells [.int .i64 (F.E c).o, .int .u32 (F.E c).g, .slice pq (F.W c).length cq] 1 false)
  simp only [List.set_cons_zero] at O4
  simp only [g2, p2, wkF, Y_box, Y_store, Y_makeMap, Y_buildSlice, ↓reduceIte, reduceCtorEq, wkO, wkS, Nat.reduceAdd, Nat.reduceLeDiff, Nat.reduceMul, Nat.reduceLT, Nat.reduceEqDiff, wkG]
  generalize h5.setB b9 _ = h6 at O4 ⊢
  clear g2 p2 g6 g1 rd O3 O2 O1 O
  have g4 := O4.get 0 rfl
  have p4 := O4.can 0 rfl
  have g6 := O4.get 6 rfl
  rw [X_seq, X_seq]
  by_cases hm : (F.E c).g = 4294967295
  · have hm' := eq_true hm
    simp only [g4, g6, hm', ic_len, tk_ic, tk_ic1, dr_ic1, dr_ic2, agg_ic, iv_cells, set_ic, ic_one, wkF, ↓reduceIte, reduceCtorEq, Nat.reduceAdd, Nat.reduceLeDiff, Nat.reduceMul, Nat.reduceLT, Nat.reduceEqDiff, wkG, wkH]
    refine Z_is (rpost_h (n := n + 2) (dny w (c : Int) (-1)) (by omega) (by omega) (O4.at 7 rfl)) ?_
    rintro v h7 O5
    simp only at O5
    simp only [wkF, ↓reduceIte, reduceCtorEq, Nat.reduceAdd, Nat.reduceLeDiff, Nat.reduceMul, Nat.reduceLT, Nat.reduceEqDiff, wkG, wkH]
    refine leaf1 (Or.inl ⟨rfl, ?_⟩)
    have O6 := (O5.rid 1 rfl).rid 6 rfl
    rw [← hqc] at O6
    replace O6 : Has ro h7 (Ob rb (.cells (rfc F cb tb) 1 false) :: Ob cb (.cells ((rcs F q).flatMap rcell) 3 false) :: Ob tb (.cells ((rts F).flatMap zc) 1 false) :: Rrest F.W q F.C c :: Sc 3 ic (q c) (F.W c) :: Og ob (o.post (dny w (c : Int) (-1))) :: R) := (((((O6.at 5 rfl).at 5 rfl).at 5 rfl).at 5 rfl).at 5 rfl)
    exact rg_back hc O6
  · have hg := z.g c
    have y1 : IntKind.u32.wrap ((F.E c).g + 1) = (F.E c).g + 1 := by rw [wrap_u32_mod]; omega
    simp only [g4, g6, hm, ic_len, tk_ic, tk_ic1, dr_ic1, dr_ic2, agg_ic, iv_cells, set_ic, ic_one, wkF, Y_box, Y_store, Y_makeMap, Y_buildSlice, ↓reduceIte, reduceCtorEq, wkO, wkS, Nat.reduceAdd, Nat.reduceLeDiff, Nat.reduceMul, Nat.reduceLT, Nat.reduceEqDiff, wkG]
    have O5 := O4.set 0 rfl (.cells [.int .i64 w.r, .int .u32 (F.E c).g, .slice pq (F.W c).length cq] 1 false)
    simp only [List.set_cons_zero] at O5
    rw [X_seq]
    simp only [g4, g6, p4, ic_len, tk_ic, tk_ic1, dr_ic1, dr_ic2, agg_ic, iv_cells, set_ic, ic_one, wkF, Y_box, Y_store, Y_makeMap, Y_buildSlice, ↓reduceIte, reduceCtorEq, wkO, wkS, Nat.reduceAdd, Nat.reduceLeDiff, Nat.reduceMul, Nat.reduceLT, Nat.reduceEqDiff, wkG]
    generalize h6.setB b9 _ = h7 at O5 ⊢
    clear g4 p4 g6 O4
    have g4 := O5.get 0 rfl
    have p4 := O5.can 0 rfl
    have O6 := O5.set 0 rfl (.cells [.int .i64 w.r, .int .u32 ((F.E c).g + 1), .slice pq (F.W c).length cq] 1 false)
    simp only [List.set_cons_zero] at O6
    rw [X_seq]
    simp only [g4, p4, y1, wkF, Y_box, Y_store, Y_makeMap, Y_buildSlice, ↓reduceIte, reduceCtorEq, wkO, wkS, Nat.reduceAdd, Nat.reduceLeDiff, Nat.reduceMul, Nat.reduceLT, Nat.reduceEqDiff, wkG]
    generalize h7.setB b9 _ = h8 at O6 ⊢
    clear g4 p4 O5
    rw [X_seq]
    refine X_drawn _ fun an => ?_
    replace O6 : Has ro h8 (Ob rb (.cells (rfc F cb tb) 1 false) :: Ob cb (.cells ((rcs F q).flatMap rcell) 3 false) :: Ob tb (.cells ((rts F).flatMap zc) 1 false) :: Rrest F.W q F.C c :: Sc 3 ic (.slice pq (F.W c).length cq) (F.W c) :: Ob b9 (.cells [.int .i64 w.r, .int .u32 ((F.E c).g + 1), .slice pq (F.W c).length cq] 1 false) :: Ob b6 (.cells (ic w) 1 false) :: Og ob o :: R) := (((((O6.at 5 rfl).at 5 rfl).at 5 rfl).at 5 rfl).at 5 rfl)
    have q1 := O6.get 0 rfl
    unfold rfc at q1
    have q2 := O6.get 1 rfl
    have p2 := O6.can 1 rfl
    have q3 := O6.get 5 rfl
    have hput : setAt ((rcs F q).flatMap rcell) (c * 3) [.int .i64 w.r, .int .u32 ((F.E c).g + 1), .slice pq (F.W c).length cq] = _ := rcs_put F q hc (En.mk w.r ((F.E c).g + 1)) (.slice pq (F.W c).length cq) (F.W c)
    have hfl := rcs_flen F q
    have hin : c * 3 + 3 ≤ F.C * 3 := by omega
    have O7 := rg_put hc (En.mk w.r ((F.E c).g + 1)) (F.W c) O6
    simp only [q1, q2, p2, q3, c0, c1, Int.toNat_natCast, Nat.zero_add, st3, hput, hfl, hin, wkF, X_seq, Y_box, Y_store, Y_makeMap, Y_buildSlice, ↓reduceIte, reduceCtorEq, wkO, Nat.reduceAdd, Nat.reduceLeDiff, Nat.reduceMul, Nat.reduceLT, Nat.reduceEqDiff, wkG]
    clear q1 q2 p2 q3 hput hfl hin
    generalize h8.setB cb _ = h9 at O7 ⊢
    have z' := rz_put z (c := c) (e := ⟨w.r, (F.E c).g + 1⟩) (l := F.W c) (by show 0 ≤ (F.E c).g + 1 ∧ (F.E c).g + 1 ≤ 4294967295; omega) hr (z.w c)
    have hE : (F.put c ⟨w.r, (F.E c).g + 1⟩ (F.W c)).E c = ⟨w.r, (F.E c).g + 1⟩ := if_pos rfl
    refine Z_is (rwrite_h (n := n + 1) (c := c) z' hc (by omega) ((O7.at 3 rfl).at 1 rfl)) ?_
    rintro v h10 ⟨d, O8⟩
    simp only at O8
    rw [hE] at O8
    have g4 := O8.get 2 rfl
    have g6 := O8.get 3 rfl
    simp only [g4, g6, ic_len, tk_ic, tk_ic1, dr_ic1, dr_ic2, agg_ic, iv_cells, set_ic, ic_one, wkF, ↓reduceIte, reduceCtorEq, Nat.reduceAdd, Nat.reduceLeDiff, Nat.reduceMul, Nat.reduceLT, Nat.reduceEqDiff, wkG, wkH]
    refine Z_is (rpost_h (n := n + 2) (o := o.wr (c : Int) ⟨w.r, (F.E c).g + 1⟩ d) (grt w (c : Int) ((F.E c).g + 1)) (by show o.ps.length < 1000000; omega) (by show o.bs.length < 1000000; omega) (O8.at 1 rfl)) ?_
    rintro v h11 O9
    simp only at O9
    simp only [wkF, ↓reduceIte, reduceCtorEq, Nat.reduceAdd, wkG, wkH]
    have O10 := ((O9.rid 3 rfl).rid 2 rfl).swap2
    first
      | exact leaf1 (Or.inr ⟨hm, rfl, d, O10⟩)
      | exact leaf1 ⟨hm, rfl, d, O10⟩
      | exact leaf1 (Or.inr ⟨rfl, d, O10⟩)
      | exact leaf1 ⟨rfl, d, O10⟩
end
theorem env62 : env 62 = some ir62 := rfl
theorem put_E (F : Rf) (c : Nat) (e : En) (l : List It) : (F.put c e l).E c = e := if_pos rfl
theorem put_W (F : Rf) (c : Nat) (e : En) (l : List It) : (F.put c e l).W c = l := if_pos rfl
theorem put_put (F : Rf) (c : Nat) (e e' : En) (l l' : List It) : (F.put c e l).put c e' l' = F.put c e' l' := by
  unfold Rf.put
  congr 1
  · funext x
    by_cases h : x = c
    · simp only [if_pos h]
    · simp only [if_neg h]
  · funext x
    by_cases h : x = c
    · simp only [if_pos h]
    · simp only [if_neg h]
def Apt (l : List It) : Prop := l.Pairwise fun x y => x.r ≠ y.r
theorem cutF_head {w : It} {l : List It} (h : Apt (w :: l)) : cutF (w :: l) w.r = l := by
  unfold cutF
  have h1 := (List.pairwise_cons.1 h).1
  rw [List.filter_cons_of_neg (by simp)]
  exact List.filter_eq_self.2 fun y hy => decide_eq_true fun e => h1 y hy e.symm
def RFree (F : Rf) (o : Ou) (c : Nat) (F' : Rf) (o' : Ou) : Prop :=
  ∃ d, ((F.E c).g = 4294967295 ∧ F' = F.put c ⟨-1, (F.E c).g⟩ [] ∧ o' = (o.wr (c : Int) ⟨-1, (F.E c).g⟩ d).denies (c : Int) (F.W c)) ∨
    ((F.E c).g ≠ 4294967295 ∧ F.W c = [] ∧ F' = F.put c ⟨-1, (F.E c).g⟩ [] ∧ o' = o.wr (c : Int) ⟨-1, (F.E c).g⟩ d) ∨
    ((F.E c).g ≠ 4294967295 ∧ ∃ w rest d2, F.W c = w :: rest ∧ F' = F.put c ⟨w.r, (F.E c).g + 1⟩ rest ∧ o' = ((o.wr (c : Int) ⟨-1, (F.E c).g⟩ d).wr (c : Int) ⟨w.r, (F.E c).g + 1⟩ d2).post (grt w (c : Int) ((F.E c).g + 1)))
section
variable {ro : Nat → Option (List Value × Nat)} {h : Heap} {R : List Rs} {rb ob : Nat} {F : Rf} {o : Ou} {n c : Nat}
theorem rfree_h (z : Rz F) (hc : c < F.C) (ha : Apt (F.W c)) (hr : ∀ w ∈ F.W c, -1 ≤ w.r ∧ w.r < (F.rob : Int)) (hn : 100 < n) (h1 : o.ws.length < 800000) (h2 : o.ps.length < 800000) (h3 : o.bs.length < 800000) (O : Has ro h (Rg rb F :: Og ob o :: R)) :
    (callV env (n + 5) (.func (.func 62) #[] #[]) [.pointer (some ⟨rb, 0, none⟩), .int .i64 (c : Int), .pointer (some ⟨ob, 0, none⟩)] h).Is fun p => ∃ F' o', RFree F o c F' o' ∧ Has ro p.2 (Rg rb F' :: Og ob o' :: R) := by
  have c0 : (0 : Int) ≤ (c : Int) := by omega
  have c1 : (c : Int) < (F.C : Int) := by omega
  have w8 := z.w c
  have hg := z.g c
  obtain ⟨cb, tb, q, pq, cq, hqc, rd, _, _, _, O2⟩ := rg_take hc O
  have g1 := O2.get 0 rfl
  unfold rfc at g1
  refine call_is env62 ?_
  simp only [ir62, Nat.reduceAdd, Nat.reduceSub, g1, rd, c0, c1, Int.toNat_natCast, Nat.zero_add, wkF, X_seq, Y_store, Y_makeMap, Y_buildSlice, ↓reduceIte, reduceCtorEq, wkO, wkS, Nat.reduceLeDiff, Nat.reduceMul, Nat.reduceLT, Nat.reduceEqDiff, wkN, wkG]
  refine Y_boxO O2 ?_
  intro b6 h5 O3 _
  replace O3 : Has ro h5 (Ob b6 (.cells [.int .i64 0, .int .u32 0, .slice none 0 0] 1 false) :: Ob rb (.cells (rfc F cb tb) 1 false) :: Ob cb (.cells ((rcs F q).flatMap rcell) 3 false) :: Ob tb (.cells ((rts F).flatMap zc) 1 false) :: Rrest F.W q F.C c :: Sc 3 ic (.slice pq (F.W c).length cq) (F.W c) :: Og ob o :: R) := O3
  have g2 := O3.get 0 rfl
  have p2 := O3.can 0 rfl
  have O4 := O3.set 0 rfl (.cells [.int .i64 (F.E c).o, .int .u32 (F.E c).g, .slice pq (F.W c).length cq] 1 false)
  simp only [List.set_cons_zero] at O4
  simp only [g2, p2, wkF, Y_box, Y_store, Y_makeMap, Y_buildSlice, ↓reduceIte, reduceCtorEq, wkO, wkS, Nat.reduceAdd, Nat.reduceLeDiff, Nat.reduceMul, Nat.reduceLT, Nat.reduceEqDiff, wkG]
  generalize h5.setB b6 _ = h6 at O4 ⊢
  clear g2 p2 g1 rd O3 O2 O
  have g4 := O4.get 0 rfl
  have p4 := O4.can 0 rfl
  have O5 := O4.set 0 rfl (.cells [.int .i64 (-1), .int .u32 (F.E c).g, .slice pq (F.W c).length cq] 1 false)
  simp only [List.set_cons_zero] at O5
  rw [X_seq]
  simp only [g4, p4, wkF, Y_box, Y_store, Y_makeMap, Y_buildSlice, ↓reduceIte, reduceCtorEq, wkO, wkS, Nat.reduceAdd, Nat.reduceLeDiff, Nat.reduceMul, Nat.reduceLT, Nat.reduceEqDiff, wkG]
  generalize h6.setB b6 _ = h7 at O5 ⊢
  clear g4 p4 O4
  rw [X_seq]
  refine X_drawn _ fun an => ?_
  replace O5 : Has ro h7 (Ob rb (.cells (rfc F cb tb) 1 false) :: Ob cb (.cells ((rcs F q).flatMap rcell) 3 false) :: Ob tb (.cells ((rts F).flatMap zc) 1 false) :: Rrest F.W q F.C c :: Sc 3 ic (.slice pq (F.W c).length cq) (F.W c) :: Ob b6 (.cells [.int .i64 (-1), .int .u32 (F.E c).g, .slice pq (F.W c).length cq] 1 false) :: Og ob o :: R) := (((((O5.at 5 rfl).at 5 rfl).at 5 rfl).at 5 rfl).at 5 rfl)
  have q1 := O5.get 0 rfl
  unfold rfc at q1
  have q2 := O5.get 1 rfl
  have p2 := O5.can 1 rfl
  have q3 := O5.get 5 rfl
  have hput : setAt ((rcs F q).flatMap rcell) (c * 3) [.int .i64 (-1), .int .u32 (F.E c).g, .slice pq (F.W c).length cq] = _ := rcs_put F q hc (En.mk (-1) (F.E c).g) (.slice pq (F.W c).length cq) (F.W c)
  have hfl := rcs_flen F q
  have hin : c * 3 + 3 ≤ F.C * 3 := by omega
  have O6 := rg_put hc (En.mk (-1) (F.E c).g) (F.W c) O5
  simp only [q1, q2, p2, q3, c0, c1, Int.toNat_natCast, Nat.zero_add, st3, hput, hfl, hin, wkF, X_seq, Y_box, Y_store, Y_makeMap, Y_buildSlice, ↓reduceIte, reduceCtorEq, wkO, Nat.reduceAdd, Nat.reduceLeDiff, Nat.reduceMul, Nat.reduceLT, Nat.reduceEqDiff, wkG]
  clear q1 q2 p2 q3 hput hfl hin
  generalize h7.setB cb _ = h8 at O6 ⊢
  have z' := rz_put z (c := c) (e := ⟨-1, (F.E c).g⟩) (l := F.W c) hg (by show -1 ≤ (-1 : Int) ∧ (-1 : Int) < (F.rob : Int); have := z.r1; omega) w8
  refine Z_is (rwrite_h (n := n + 2) (c := c) z' hc (by omega) (O6.rid 1 rfl)) ?_
  rintro v h9 ⟨d, O7⟩
  simp only at O7
  rw [put_E] at O7
  simp only [wkF, ↓reduceIte, reduceCtorEq, Nat.reduceAdd, Nat.reduceLeDiff, Nat.reduceMul, Nat.reduceLT, Nat.reduceEqDiff, wkG, wkH]
  clear O6 O5 q hqc z'
  refine L_is (fun q' s => ∃ (i : Nat) (G : Rf), q' = (F.W c).length - i ∧ s.defers = [] ∧ s.tmps.length = 66 ∧ s.tmps.getD 0 undefV = .pointer (some ⟨rb, 0, none⟩) ∧ s.tmps.getD 1 undefV = .int .i64 (c : Int) ∧ s.tmps.getD 2 undefV = .pointer (some ⟨ob, 0, none⟩) ∧ s.tmps.getD 7 undefV = .int .i64 (i : Int) ∧ i ≤ (F.W c).length ∧ (0 < i → (F.E c).g = 4294967295) ∧ G = F.put c ⟨-1, (F.E c).g⟩ ((F.W c).drop i) ∧ Has ro s.h (Rg rb G :: Og ob ((o.wr (c : Int) ⟨-1, (F.E c).g⟩ d).denies (c : Int) ((F.W c).take i)) :: R)) (F.W c).length ?_ (by omega) ?_
  · exact ⟨0, _, rfl, rfl, rfl, rfl, rfl, rfl, rfl, Nat.zero_le _, (fun h => absurd h (by decide)), rfl, O7⟩
  clear O7
  rintro q' tm df h10 ⟨i, G, hk, hd, hlen_, g0, g1, g2, g7, hil, hi, hG, O8⟩
  simp only at hd g0 g1 g2 g7 O8
  subst hd
  obtain ⟨w, hg_, rfl⟩ := explode hlen_
  simp only [hg_] at g0 g1 g2 g7
  clear hlen_ hg_
  have hGE : G.E c = ⟨-1, (F.E c).g⟩ := by rw [hG]; exact put_E _ _ _ _
  have hGW : G.W c = (F.W c).drop i := by rw [hG]; exact put_W _ _ _ _
  have hGC : G.C = F.C := by rw [hG]; rfl
  have zG : Rz G := by
    rw [hG]
    refine rz_put z hg ⟨Int.le_refl _, ?_⟩ (by rw [List.length_drop]; omega)
    show (-1 : Int) < (F.rob : Int)
    have := z.r1
    omega
  have hcG : c < G.C := by rw [hGC]; exact hc
  have c1' : (c : Int) < (G.C : Int) := by omega
  obtain ⟨cb, tb, q, pq, cq, hqc, _, _, _, rd2, O9⟩ := rg_take hcG O8
  have m1 := O9.get 0 rfl
  unfold rfc at m1
  have i9 : (i : Int) < 9 := by omega
  by_cases hl : i < (F.W c).length
  · have hq := nth_get hl
    have hdr : (F.W c).drop i = nth (F.W c) i :: (F.W c).drop (i + 1) := by
      rw [List.drop_eq_getElem_cons hl]
      rw [List.getElem?_eq_getElem hl] at hq
      rw [Option.some.inj hq]
    have htk : (F.W c).take (i + 1) = (F.W c).take i ++ [nth (F.W c) i] := by rw [List.take_add_one, hq]; rfl
    have hmem : nth (F.W c) i ∈ F.W c := List.mem_of_getElem? hq
    have hrw := hr _ hmem
    generalize nth (F.W c) i = x at hdr htk hrw
    have haG : Apt (x :: (F.W c).drop (i + 1)) := by rw [← hdr]; exact ha.sublist (List.drop_sublist _ _)
    have hG0 : (G.W c)[0]? = some x := by rw [hGW, hdr]; rfl
    have hpos : 0 < (G.W c).length := by rw [hGW, List.length_drop]; omega
    have hpos' : (0 : Int) < ((G.W c).length : Int) := by omega
    obtain ⟨b2, off2, sp2, c2, hv2, _, rdw⟩ := (O9.vw 4 rfl).rd ic_len hG0
    have e2 : pq = some ⟨b2, off2, sp2⟩ := by injection hv2
    subst e2
    rw [Nat.zero_mul, Nat.add_zero] at rdw
    simp only [g0, g1, g2, g7, i9, m1, rd2, hpos', c0, c1', Int.toNat_natCast, Int.toNat_zero, Nat.zero_mul, Nat.zero_add, Nat.add_zero, Int.le_refl, rdw, wkF, X_seq, Y_store, Y_makeMap, Y_buildSlice, ↓reduceIte, reduceCtorEq, wkO, wkS, Nat.reduceAdd, Nat.reduceLeDiff, Nat.reduceMul, Nat.reduceLT, Nat.reduceEqDiff, wkG]
    refine Y_boxO O9 ?_
    intro b8 h11 O10 _
    replace O10 : Has ro h11 (Ob b8 (.cells [.int .i64 0, .int .u64 0, .int .i64 0] 1 false) :: Ob rb (.cells (rfc G cb tb) 1 false) :: Ob cb (.cells ((rcs G q).flatMap rcell) 3 false) :: Ob tb (.cells ((rts G).flatMap zc) 1 false) :: Rrest G.W q G.C c :: Sc 3 ic (.slice (some ⟨b2, off2, sp2⟩) (G.W c).length cq) (G.W c) :: Og ob ((o.wr (c : Int) ⟨-1, (F.E c).g⟩ d).denies (c : Int) ((F.W c).take i)) :: R) := O10
    have m2 := O10.get 0 rfl
    have p2 := O10.can 0 rfl
    have O11 := O10.set 0 rfl (.cells (ic x) 1 false)
    simp only [List.set_cons_zero] at O11
    simp only [m2, p2, ic_len, tk_ic, tk_ic1, dr_ic1, dr_ic2, agg_ic, iv_cells, set_ic, ic_one, wkF, Y_box, Y_store, Y_makeMap, Y_buildSlice, ↓reduceIte, reduceCtorEq, wkO, wkS, Nat.reduceAdd, Nat.reduceLeDiff, Nat.reduceMul, Nat.reduceLT, Nat.reduceEqDiff, wkG]
    generalize h11.setB b8 _ = h12 at O11 ⊢
    clear m1 m2 p2 rd2 rdw O10 O9 O8
    rw [← hqc] at O11
    have O12 := (((((O11.at 5 rfl).at 5 rfl).at 5 rfl).at 5 rfl).at 5 rfl)
    replace O12 := rg_back hcG O12
    have m3 := O12.get 1 rfl
    rw [X_seq]
    simp only [m3, ic_len, tk_ic, tk_ic1, dr_ic1, dr_ic2, agg_ic, iv_cells, set_ic, ic_one, wkF, Y_box, Y_store, Y_makeMap, Y_buildSlice, ↓reduceIte, reduceCtorEq, wkO, wkS, Nat.reduceAdd, Nat.reduceLeDiff, Nat.reduceMul, Nat.reduceLT, Nat.reduceEqDiff, wkG]
    refine Z_is (rcut_h (n := n + 3) x.r zG hcG (by omega) O12) ?_
    rintro v h13 O13
    simp only at O13
    have hcut : cutF (G.W c) x.r = (F.W c).drop (i + 1) := by rw [hGW, hdr]; exact cutF_head haG
    rw [hcut, hGE] at O13
    have hG2 : G.put c ⟨-1, (F.E c).g⟩ ((F.W c).drop (i + 1)) = F.put c ⟨-1, (F.E c).g⟩ ((F.W c).drop (i + 1)) := by rw [hG]; exact put_put _ _ _ _ _ _
    rw [hG2] at O13
    have m4 := O13.get 1 rfl
    have zG2 : Rz (F.put c ⟨-1, (F.E c).g⟩ ((F.W c).drop (i + 1))) := by
      refine rz_put z hg ⟨Int.le_refl _, ?_⟩ (by rw [List.length_drop]; omega)
      show (-1 : Int) < (F.rob : Int)
      have := z.r1
      omega
    have hE2 := put_E F c ⟨-1, (F.E c).g⟩ ((F.W c).drop (i + 1))
    have hW2 := put_W F c ⟨-1, (F.E c).g⟩ ((F.W c).drop (i + 1))
    have hpp := fun e l => put_put F c ⟨-1, (F.E c).g⟩ e ((F.W c).drop (i + 1)) l
    obtain ⟨dl1, dl2, dl3⟩ := denies_len (c := (c : Int)) ((F.W c).take i) (o.wr (c : Int) ⟨-1, (F.E c).g⟩ d)
    have dl4 : (o.wr (c : Int) ⟨-1, (F.E c).g⟩ d).ws.length = o.ws.length + 1 := by unfold Ou.wr; simp
    have dl5 : (o.wr (c : Int) ⟨-1, (F.E c).g⟩ d).ps.length = o.ps.length := rfl
    have dl6 : (o.wr (c : Int) ⟨-1, (F.E c).g⟩ d).bs.length = o.bs.length := rfl
    have dl7 : ((F.W c).take i).length ≤ 8 := Nat.le_trans (List.length_take_le' _ _) w8
    generalize hF2 : F.put c ⟨-1, (F.E c).g⟩ ((F.W c).drop (i + 1)) = F2 at O13 zG2 hE2 hW2 hpp
    have hF2r : F2.rob = F.rob := by rw [← hF2]; rfl
    have hF2c : c < F2.C := by rw [← hF2]; exact hc
    simp only [m4, ic_len, tk_ic, tk_ic1, dr_ic1, dr_ic2, agg_ic, iv_cells, set_ic, ic_one, wkF, ↓reduceIte, reduceCtorEq, Nat.reduceAdd, Nat.reduceLeDiff, Nat.reduceMul, Nat.reduceLT, Nat.reduceEqDiff, wkG, wkH]
    refine Z_is (rgrant_h (n := n) (F := F2) x zG2 hF2c (by rw [hF2r]; exact hrw) (by rw [dl1]; omega) (by omega) (by omega) (O13.rid 1 rfl)) ?_
    rintro v2 h14 hv
    rw [hE2, hW2] at hv
    simp only at hv
    rcases hv with ⟨hm, rfl, O14⟩ | ⟨hm, rfl, d2, O14⟩
    · have yi : IntKind.i64.wrap ((i : Int) + 1) = ((i + 1 : Nat) : Int) := by rw [wrap_i64 (by omega) (by omega)]; omega
      simp only [yi, wkF, ↓reduceIte, reduceCtorEq, Nat.reduceAdd, wkG, wkH]
      refine Is_in ⟨(F.W c).length - (i + 1), sub_lt' hk hl, i + 1, F2, rfl, rfl, rfl, rfl, rfl, rfl, rfl, hl, (fun _ => hm), hF2.symm, ?_⟩
      have e1 : (o.wr (c : Int) ⟨-1, (F.E c).g⟩ d).denies (c : Int) ((F.W c).take (i + 1)) = ((o.wr (c : Int) ⟨-1, (F.E c).g⟩ d).denies (c : Int) ((F.W c).take i)).post (dny x (c : Int) (-1)) := by
        rw [htk]
        unfold Ou.denies
        rw [List.foldl_append]
        rfl
      rw [e1]
      exact O14
    · have hi0 : i = 0 := by
        rcases Nat.eq_zero_or_pos i with h | h
        · exact h
        · exact absurd (hi h) hm
      simp only [wkF, ↓reduceIte, reduceCtorEq, Nat.reduceAdd, wkG, wkH]
      refine Is_in ?_
      simp only [wkF, ↓reduceIte, reduceCtorEq, Nat.reduceAdd, wkG, wkH]
      subst hi0
      have hW1 : F.W c = x :: (F.W c).drop 1 := by
        have := hdr
        rw [List.drop_zero] at this
        exact this
      refine leaf0 ⟨_, _, ⟨d, Or.inr (Or.inr ⟨hm, x, (F.W c).drop 1, d2, hW1, rfl, rfl⟩)⟩, ?_⟩
      rw [hpp] at O14
      exact O14
  · have hl0 : (F.W c).drop i = [] := List.drop_eq_nil_of_le (by omega)
    have hpos' : ¬ (0 : Int) < ((G.W c).length : Int) := by rw [hGW, hl0]; decide
    have hil' : i = (F.W c).length := by omega
    simp only [g0, g1, g2, g7, i9, m1, rd2, hpos', c0, c1', Int.toNat_natCast, Nat.zero_add, wkF, ↓reduceIte, reduceCtorEq, Nat.reduceAdd, Nat.reduceLeDiff, Nat.reduceMul, Nat.reduceLT, Nat.reduceEqDiff, wkG, wkH]
    refine Is_in ?_
    simp only [wkF, ↓reduceIte, reduceCtorEq, Nat.reduceAdd, wkG, wkH]
    by_cases hm : (F.E c).g = 4294967295
    · refine leaf0n ⟨_, _, ⟨d, Or.inl ⟨hm, rfl, rfl⟩⟩, ?_⟩
      rw [hG, hl0, hil', List.take_length] at O8
      exact O8
    · have hi0 : i = 0 := by
        rcases Nat.eq_zero_or_pos i with h | h
        · exact h
        · exact absurd (hi h) hm
      have hW0 : F.W c = [] := List.length_eq_zero_iff.1 (by omega)
      refine leaf0n ⟨_, _, ⟨d, Or.inr (Or.inl ⟨hm, hW0, rfl, rfl⟩)⟩, ?_⟩
      rw [hG, hl0, hi0] at O8
      exact O8
end
theorem env21 : env 21 = some ir21 := rfl
theorem set_noop {α : Type} {l : List α} {i : Nat} {v : α} (h : l[i]? = some v) : l.set i v = l := by
  refine List.ext_getElem? fun k => ?_
  rw [List.getElem?_set]
  by_cases e : i = k
  · subst e
    rw [if_pos rfl, if_pos (List.getElem?_eq_some_iff.1 h).1, h]
  · rw [if_neg e]
theorem read1 {l : List Value} {i : Nat} {v : Value} (h : readN l i 1 = some [v]) : l[i]? = some v := by
  unfold readN at h
  split at h
  · have h1 := Option.some.inj h
    rw [List.take_one, List.head?_drop] at h1
    cases h2 : l[i]? with
    | none => rw [h2] at h1; cases h1
    | some x => rw [h2] at h1; injection h1 with h3 _; rw [h3]
  · cases h
theorem rcs_own (F : Rf) (q : Nat → Value) {c : Nat} (hc : c < F.C) (o : Int) : ((rcs F q).flatMap rcell).set (c * 3) (.int .i64 o) = (rcs (F.put c ⟨o, (F.E c).g⟩ (F.W c)) q).flatMap rcell := by
  have h := rcs_put F q hc ⟨o, (F.E c).g⟩ (q c) (F.W c)
  have hq := rcs_get F q hc
  have r1 := read1 (readC_flat (rcell_len) hq (zz := 3) (t := false) (k := 1) (m := 1) (by decide) : readN ((rcs F q).flatMap rcell) (c * 3 + 1) 1 = some [.int .u32 (F.E c).g])
  have r2 := read1 (readC_flat (rcell_len) hq (zz := 3) (t := false) (k := 2) (m := 1) (by decide) : readN ((rcs F q).flatMap rcell) (c * 3 + 2) 1 = some [q c])
  have e : setAt ((rcs F q).flatMap rcell) (c * 3) (rcell (⟨o, (F.E c).g⟩, q c)) = ((((rcs F q).flatMap rcell).set (c * 3) (.int .i64 o)).set (c * 3 + 1) (.int .u32 (F.E c).g)).set (c * 3 + 2) (q c) := rfl
  rw [e, set_noop (i := c * 3 + 1), set_noop (i := c * 3 + 2)] at h
  · rw [h]
    have hq' : (fun x => if x = c then q c else q x) = q := by
      funext x
      show (if x = c then q c else q x) = q x
      by_cases e : x = c
      · rw [if_pos e, e]
      · rw [if_neg e]
    rw [hq']
  · rw [List.getElem?_set_ne (by omega)]
    exact r2
  · rw [List.getElem?_set_ne (by omega)]
    exact r1
theorem rcs_congr {F G : Rf} (q : Nat → Value) (hC : F.C = G.C) (hE : ∀ x, x < F.C → F.E x = G.E x) : rcs F q = rcs G q := by
  unfold rcs
  rw [← hC]
  refine List.map_congr_left fun x hx => ?_
  rw [hE x (List.mem_range.1 hx)]
def rzI (a : Int) (b C i : Nat) : Rf := ⟨a, b, C, fun x => if x < i then e0 else ⟨0, 0⟩, fun _ => [], fun _ => 0⟩
def rz0 (a : Int) (b C : Nat) : Rf := ⟨a, b, C, fun _ => e0, fun _ => [], fun x => if (x : Int) = a then 1 else 0⟩
theorem rzI_succ (a : Int) (b C i : Nat) (q : Nat → Value) (h : i < C) : rcs ((rzI a b C i).put i ⟨-1, ((rzI a b C i).E i).g⟩ ((rzI a b C i).W i)) q = rcs (rzI a b C (i + 1)) q := by
  refine rcs_congr q rfl fun x _ => ?_
  show (if x = i then (⟨-1, (if i < i then e0 else (⟨0, 0⟩ : En)).g⟩ : En) else if x < i then e0 else ⟨0, 0⟩) = if x < i + 1 then e0 else ⟨0, 0⟩
  by_cases h1 : x = i
  · rw [if_pos h1, if_neg (Nat.lt_irrefl i), if_pos (by omega)]
    rfl
  · rw [if_neg h1]
    by_cases h2 : x < i
    · rw [if_pos h2, if_pos (by omega)]
    · rw [if_neg h2, if_neg (by omega)]
theorem rzI_zero (a : Int) (b C : Nat) : (List.replicate C [(.int .i64 0 : Value), .int .u32 0, .slice none 0 0]).flatten = (rcs (rzI a b C 0) fun _ => .slice none 0 0).flatMap rcell := by
  unfold rcs
  rw [List.flatMap_map]
  have k : ∀ l : List Nat, (List.replicate l.length [(.int .i64 0 : Value), .int .u32 0, .slice none 0 0]).flatten = l.flatMap fun x => rcell ((rzI a b C 0).E x, .slice none 0 0) := by
    intro l
    induction l with
    | nil => rfl
    | cons x l ih => rw [List.length_cons, List.replicate_succ, List.flatten_cons, List.flatMap_cons, ih]; rfl
  have := k (List.range C)
  rw [List.length_range] at this
  exact this
theorem rt_zero (b : Nat) : (List.replicate b [(.int .i64 0 : Value)]).flatten = (List.replicate b (0 : Int)).flatMap zc := by
  induction b with
  | zero => rfl
  | succ b ih => rw [List.replicate_succ, List.flatten_cons, ih, List.replicate_succ, List.flatMap_cons]; rfl
theorem rt_one (a : Int) (b C : Nat) {r : Nat} (hr : (r : Int) = a) (hb : r < b) : ((List.replicate b (0 : Int)).flatMap zc).set r (.int .i64 1) = (rts (rz0 a b C)).flatMap zc := by
  have h := setAt_flat (g := zc) zc_len (List.replicate b (0 : Int)) r 1 (by simpa using hb)
  rw [Nat.mul_one] at h
  have e : setAt ((List.replicate b (0 : Int)).flatMap zc) r (zc 1) = ((List.replicate b (0 : Int)).flatMap zc).set r (.int .i64 1) := rfl
  rw [← e, h]
  congr 1
  unfold rts
  show _ = (List.range b).map fun x : Nat => if (x : Int) = a then (1 : Int) else 0
  refine List.ext_getElem? fun k => ?_
  rw [List.getElem?_set, List.length_replicate]
  by_cases hk : k < b
  · rw [List.getElem?_map, List.getElem?_range hk, List.getElem?_replicate, if_pos hk, if_pos hb]
    show (if r = k then some (1 : Int) else some 0) = some (if (k : Int) = a then 1 else 0)
    by_cases e1 : r = k
    · rw [if_pos e1, if_pos (by omega)]
    · rw [if_neg e1, if_neg (by omega)]
  · rw [List.getElem?_eq_none (by simpa using hk), List.getElem?_eq_none (by simpa using hk), if_neg (by omega)]
section
variable {ro : Nat → Option (List Value × Nat)} {h : Heap} {R : List Rs} {rb ob : Nat} {F : Rf} {o : Ou} {n c : Nat}
theorem Has.rqNil (C : Nat) (O : Has ro h R) : Has ro h (Rqs (fun _ => []) (fun _ => .slice none 0 0) C :: R) := by
  refine Has.all.2 ?_
  have k : ∀ l : List Nat, Has ro h ((l.map fun _ => Sc 3 ic (.slice none 0 0) []) ++ R) := by
    intro l
    induction l with
    | nil => exact O
    | cons x l ih => exact Has.scNil ih
  exact k _
theorem rnew_h (a b c : Int) (hn : 1030 < n) (O : Has ro h R) : (callV env (n + 1) (.func (.func 21) #[] #[]) [.int .i64 a, .int .i64 b, .int .i64 c] h).Is fun p =>
    (¬ Szs a b c ∧ p.1 = .tuple #[.pointer none, .int .i64 2] ∧ Has ro p.2 R) ∨ (Szs a b c ∧ ∃ rb, p.1 = .tuple #[.pointer (some ⟨rb, 0, none⟩), .int .i64 0] ∧ Has ro p.2 (Rg rb (rz0 a b.toNat c.toNat) :: R)) := by
  refine call_is env21 ?_
  by_cases h1 : b < 1
  · simp only [ir21, Nat.reduceAdd, Nat.reduceSub, h1, wkF, ↓reduceIte, reduceCtorEq, wkN, wkG, wkH]
    exact leaf2 (Or.inl ⟨fun x => by have := x.1; omega, rfl, O⟩)
  by_cases h2 : 64 < b
  · simp only [ir21, Nat.reduceAdd, Nat.reduceSub, h1, h2, wkF, ↓reduceIte, reduceCtorEq, wkN, wkG, wkH]
    exact leaf2 (Or.inl ⟨fun x => by have := x.2.1; omega, rfl, O⟩)
  by_cases h3 : a < 0
  · simp only [ir21, Nat.reduceAdd, Nat.reduceSub, h1, h2, h3, wkF, ↓reduceIte, reduceCtorEq, wkN, wkG, wkH]
    exact leaf2 (Or.inl ⟨fun x => by have := x.2.2.1; omega, rfl, O⟩)
  by_cases h4 : b ≤ a
  · simp only [ir21, Nat.reduceAdd, Nat.reduceSub, h1, h2, h3, h4, wkF, ↓reduceIte, reduceCtorEq, wkN, wkG, wkH]
    exact leaf2 (Or.inl ⟨fun x => by have := x.2.2.2.1; omega, rfl, O⟩)
  by_cases h5 : c < 1
  · simp only [ir21, Nat.reduceAdd, Nat.reduceSub, h1, h2, h3, h4, h5, wkF, ↓reduceIte, reduceCtorEq, wkN, wkG, wkH]
    exact leaf2 (Or.inl ⟨fun x => by have := x.2.2.2.2.1; omega, rfl, O⟩)
  by_cases h6 : 1024 < c
  · simp only [ir21, Nat.reduceAdd, Nat.reduceSub, h1, h2, h3, h4, h5, h6, wkF, ↓reduceIte, reduceCtorEq, wkN, wkG, wkH]
    exact leaf2 (Or.inl ⟨fun x => by have := x.2.2.2.2.2; omega, rfl, O⟩)
  have hsz : Szs a b c := ⟨by omega, by omega, by omega, by omega, by omega, by omega⟩
  obtain ⟨C, rfl⟩ : ∃ C : Nat, c = (C : Int) := ⟨c.toNat, by omega⟩
  obtain ⟨b, rfl⟩ : ∃ k : Nat, b = (k : Int) := ⟨b.toNat, by omega⟩
  obtain ⟨r, rfl⟩ : ∃ k : Nat, a = (k : Int) := ⟨a.toNat, by omega⟩
  simp only [ir21, Nat.reduceAdd, Nat.reduceSub, h1, h2, h3, h4, h5, h6, wkF, ↓reduceIte, reduceCtorEq, wkN, wkG, wkH]
  refine X_plan [] O.fine ?_
  refine Dp.move (Dp.move (Dp.move ?_))
  refine Dp.makeFree O (m := C) rfl rfl (by unfold roomMost; omega) (by unfold roomMost; omega) ?_
  intro cb h7 O7 n7 _
  refine Dp.move ?_
  refine Dp.makeFree O7 (m := b) rfl rfl (by unfold roomMost; omega) (by unfold roomMost; omega) ?_
  intro tb h8 O8 n8 _
  refine Dp.pure (v := .agg (rfc (rz0 (r : Int) b C) cb tb).toArray) rfl rfl ?_
  refine Dp.fixed (v := .pointer (some ⟨2 * h8.next, 0, none⟩)) (h' := h8.alloc (.cells (rfc (rz0 (r : Int) b C) cb tb) 1 false)) rfl rfl ?_
  have O9 := O8.alloc (.cells (rfc (rz0 (r : Int) b C) cb tb) 1 false)
  generalize h8.alloc _ = h9 at O9 ⊢
  generalize hrb : 2 * h8.next = rb at O9 ⊢
  refine Dp.move (Dp.nil ?_)
  simp only [putDst_some, putDst_none, List.set_cons_succ, List.set_cons_zero]
  rw [rzI_zero (r : Int) b C, rt_zero b] at O9
  clear O8 O7 O hrb
  simp only [wkF, ↓reduceIte, reduceCtorEq, Nat.reduceAdd, wkG, wkH]
  refine L_is (fun q' s => ∃ (i : Nat), q' = C - i ∧ s.defers = [] ∧ s.tmps.length = 60 ∧ s.tmps.getD 0 undefV = .int .i64 (r : Int) ∧ s.tmps.getD 2 undefV = .int .i64 (C : Int) ∧ s.tmps.getD 8 undefV = .pointer (some ⟨rb, 0, none⟩) ∧ s.tmps.getD 9 undefV = .int .i64 (i : Int) ∧ i ≤ C ∧ Has ro s.h (Ob rb (.cells (rfc (rz0 (r : Int) b C) cb tb) 1 false) :: Ob tb (.cells ((List.replicate b (0 : Int)).flatMap zc) 1 false) :: Ob cb (.cells ((rcs (rzI (r : Int) b C i) fun _ => .slice none 0 0).flatMap rcell) 3 false) :: R)) C ?_ (by omega) ?_
  · exact ⟨0, rfl, rfl, rfl, rfl, rfl, rfl, rfl, Nat.zero_le _, O9⟩
  clear O9
  rintro q' tm df h4 ⟨i, hk, hd, hlen_, g0, g2, g8, g9, hil, O4⟩
  simp only at hd g0 g2 g8 g9 O4
  subst hd
  obtain ⟨w, hg_, rfl⟩ := explode hlen_
  simp only [hg_] at g0 g2 g8 g9
  clear hlen_ hg_
  have m1 : h4.get rb = some (.cells [.int .i64 (r : Int), .int .i64 (b : Int), .slice (some ⟨cb, 0, none⟩) C C, .slice (some ⟨tb, 0, none⟩) b b] 1 false) := O4.get 0 rfl
  by_cases hi : i < C
  · have hi' : (i : Int) < (C : Int) := by omega
    have hi0 : (0 : Int) ≤ (i : Int) := by omega
    have m2 := O4.get 2 rfl
    have p2 := O4.can 2 rfl
    have hset := rcs_own (rzI (r : Int) b C i) (fun _ => .slice none 0 0) (c := i) hi (-1)
    rw [rzI_succ (r : Int) b C i _ hi] at hset
    have O5 := O4.set 2 rfl (.cells ((rcs (rzI (r : Int) b C (i + 1)) fun _ => .slice none 0 0).flatMap rcell) 3 false)
    simp only [List.set_cons_zero, List.set_cons_succ] at O5
    have hfl : ((rcs (rzI (r : Int) b C i) fun _ => .slice none 0 0).flatMap rcell).length = C * 3 := rcs_flen _ _
    have hin : i * 3 + 1 ≤ C * 3 := by omega
    have yi : IntKind.i64.wrap ((i : Int) + 1) = ((i + 1 : Nat) : Int) := by rw [wrap_i64 (by omega) (by omega)]; omega
    simp only [g0, g2, g8, g9, m1, hi', hi0, Int.toNat_natCast, Nat.zero_add, m2, p2, hset, hfl, hin, yi, wkF, ↓reduceIte, reduceCtorEq, Nat.reduceAdd, Nat.reduceLeDiff, Nat.reduceMul, Nat.reduceLT, Nat.reduceEqDiff, wkG, wkH]
    refine Is_in ⟨C - (i + 1), sub_lt' hk hi, i + 1, rfl, rfl, rfl, rfl, rfl, rfl, rfl, hi, O5⟩
  have hi' : ¬ (i : Int) < (C : Int) := by omega
  have hiC : i = C := by omega
  subst hiC
  have hb : r < b := by omega
  have hb' : (r : Int) < (b : Int) := by omega
  have hr0 : (0 : Int) ≤ (r : Int) := by omega
  have m2 := O4.get 1 rfl
  have p2 := O4.can 1 rfl
  have hset := rt_one (r : Int) b i (r := r) rfl hb
  have O5 := O4.set 1 rfl (.cells ((rts (rz0 (r : Int) b i)).flatMap zc) 1 false)
  simp only [List.set_cons_zero, List.set_cons_succ] at O5
  have hfl : ((List.replicate b (0 : Int)).flatMap zc).length = b := by rw [flatMap_len zc_len, List.length_replicate, Nat.mul_one]
  have hin : r + 1 ≤ b := by omega
  simp only [g0, g2, g8, g9, hi', wkF, ↓reduceIte, reduceCtorEq, Nat.reduceAdd, wkG, wkH]
  refine Is_in ?_
  simp only [g0, g2, g8, g9, m1, hb', hr0, Int.toNat_natCast, Nat.zero_add, Nat.mul_one, m2, p2, hset, hfl, hin, wkF, ↓reduceIte, reduceCtorEq, Nat.reduceAdd, Nat.reduceLeDiff, Nat.reduceMul, Nat.reduceLT, Nat.reduceEqDiff, wkG, wkH]
  refine leaf2 (Or.inr ⟨hsz, rb, rfl, ?_⟩)
  rw [rcs_congr (F := rzI (r : Int) b i i) (G := rz0 (r : Int) b i) (fun _ => Value.slice none 0 0) rfl (fun x hx => if_pos hx)] at O5
  have O6 := Has.rqNil i O5
  exact Has.rgClose (F := rz0 (r : Int) b i) (q := fun _ => .slice none 0 0) (((O6.at 2 rfl).at 3 rfl).at 3 rfl)
end
theorem env45 : env 45 = some ir45 := rfl
def RPla (F : Rf) (c r e : Int) (F' : Rf) (rv : Value) (D : Rs) : Prop :=
  (¬ (F.Is c ∧ F.Rob r) ∧ e = 2 ∧ F' = F ∧ rv = .agg #[.int .i64 0, .int .i64 0, .slice none 0 0] ∧ D = Rs.emp) ∨
    ((F.Is c ∧ F.Rob r) ∧ F.E c.toNat ≠ e0 ∧ e = 140 ∧ F' = F ∧ rv = .agg #[.int .i64 0, .int .i64 0, .slice none 0 0] ∧ D = Rs.emp) ∨
    ((F.Is c ∧ F.Rob r) ∧ F.E c.toNat = e0 ∧ e = 0 ∧ F' = F.put c.toNat ⟨r, 1⟩ (F.W c.toNat) ∧ ∃ d, rv = .agg (wc ⟨c, ⟨r, 1⟩, d⟩).toArray ∧ D = Dt d ⟨r, 1⟩)
theorem rd_take {L x : List Value} {off m : Nat} (h : readN L off m = some x) : List.take m (List.drop off L) = x := by
  unfold readN at h
  split at h
  · exact Option.some.inj h
  · cases h
theorem en_split (e : En) : e = e0 ∨ (¬ e.o = -1) ∨ (e.o = -1 ∧ ¬ e.g = 0) := by
  obtain ⟨a, b⟩ := e
  by_cases h : a = -1
  · by_cases k : b = 0
    · subst h k
      exact Or.inl rfl
    · exact Or.inr (Or.inr ⟨h, k⟩)
  · exact Or.inr (Or.inl h)
section
variable {ro : Nat → Option (List Value × Nat)} {h : Heap} {R : List Rs} {rb ob : Nat} {F : Rf} {o : Ou} {n : Nat}
theorem rplace_h (c r : Int) (z : Rz F) (O : Has ro h (Rg rb F :: R)) :
    (callV env (n + 5) (.func (.func 45) #[] #[]) [.pointer (some ⟨rb, 0, none⟩), .int .i64 c, .int .i64 r] h).Is fun p => ∃ rv e F' D, p.1 = .tuple #[rv, .int .i64 e] ∧ RPla F c r e F' rv D ∧ Has ro p.2 (Rg rb F' :: D :: R) := by
  have z1 := z.r1
  have zr2 := z.r2
  refine call_is env45 ?_
  simp only [ir45, Nat.reduceAdd, Nat.reduceSub, wkF, X_seq, Y_store, Y_makeMap, Y_buildSlice, ↓reduceIte, reduceCtorEq, wkO, wkS, wkN, wkG]
  refine Y_boxO O ?_
  intro b6 h1 O1 _
  replace O1 : Has ro h1 (Ob b6 (.cells [.int .i64 0, .int .i64 0, .slice none 0 0] 1 false) :: Rg rb F :: R) := O1
  replace O1 := O1.swap2
  simp only [wkF, ↓reduceIte, reduceCtorEq, Nat.reduceAdd, wkG, wkH]
  refine Z_is (ris_h (n := n + 3) c z1 O1) ?_
  rintro v h2 ⟨rfl, rfl⟩
  have g6 := O1.get 1 rfl
  have p6 := O1.can 1 rfl
  have zc3 : cellsOf (.agg #[.int .i64 0, .int .i64 0, .slice none 0 0]) = [.int .i64 0, .int .i64 0, .slice none 0 0] := rfl
  have zs3 : setAt [Value.int .i64 0, .int .i64 0, .slice none 0 0] 0 [.int .i64 0, .int .i64 0, .slice none 0 0] = [.int .i64 0, .int .i64 0, .slice none 0 0] := rfl
  have zo : ∀ {h : Heap} (O1 : Has ro h (Rg rb F :: Ob b6 (.cells [.int .i64 0, .int .i64 0, .slice none 0 0] 1 false) :: R)), Has ro (h.setB b6 (.cells [.int .i64 0, .int .i64 0, .slice none 0 0] 1 false)) (Ob b6 (.cells [.int .i64 0, .int .i64 0, .slice none 0 0] 1 false) :: Rg rb F :: R) := fun O1 => (O1.set 1 rfl (.cells [.int .i64 0, .int .i64 0, .slice none 0 0] 1 false)).swap2
  by_cases hi : F.Is c
  · simp only [hi, wkF, ↓reduceIte, reduceCtorEq, Nat.reduceAdd, Nat.reduceLeDiff, Nat.reduceMul, Nat.reduceLT, Nat.reduceEqDiff, wkG, wkH]
    refine Z_is (rrobot_h (n := n + 3) r O1) ?_
    rintro v h2 ⟨rfl, rfl⟩
    by_cases hr : F.Rob r
    · obtain ⟨k, rfl⟩ : ∃ k : Nat, c = (k : Int) := ⟨c.toNat, by have := hi.1; omega⟩
      have hc : k < F.C := by have := hi.2.1; omega
      have c0 : (0 : Int) ≤ (k : Int) := by omega
      have c1 : (k : Int) < (F.C : Int) := by omega
      obtain ⟨cb, tb, q, pq, cq, hqc, rd, rd0, rd1, rd2, O2⟩ := rg_take hc O1
      have m1 := O2.get 0 rfl
      unfold rfc at m1
      have m6 := O2.get 5 rfl
      have n6 := O2.can 5 rfl
      have fin140 : ∀ {h' : Heap}, F.E k ≠ e0 → Has ro h' (Ob rb (.cells (rfc F cb tb) 1 false) :: Ob cb (.cells ((rcs F q).flatMap rcell) 3 false) :: Ob tb (.cells ((rts F).flatMap zc) 1 false) :: Rrest F.W q F.C k :: Sc 3 ic (q k) (F.W k) :: Ob b6 (.cells [.int .i64 0, .int .i64 0, .slice none 0 0] 1 false) :: R) → RPla F (k : Int) r 140 F (.agg #[.int .i64 0, .int .i64 0, .slice none 0 0]) Rs.emp ∧ Has ro h' (Rg rb F :: Rs.emp :: R) := by
        intro h' he O'
        refine ⟨Or.inr (Or.inl ⟨⟨hi, hr⟩, he, rfl, rfl, rfl, rfl⟩), ?_⟩
        have O3 := rg_back hc O'
        exact (Has.emp.2 (O3.rid 1 rfl)).swap2
      rcases en_split (F.E k) with he | he | ⟨he1, he2⟩
      · have a1 : ((F.E k).o = -1) = True := eq_true (by rw [he]; rfl)
        have a2 : ((F.E k).g = 0) = True := eq_true (by rw [he]; rfl)
        simp only [hr, m1, c0, c1, Int.toNat_natCast, Nat.zero_add, rd0, rd1, a1, a2, wkF, ↓reduceIte, reduceCtorEq, Nat.reduceAdd, Nat.reduceLeDiff, Nat.reduceMul, Nat.reduceLT, Nat.reduceEqDiff, wkG, wkH]
        refine X_drawn _ fun an => ?_
        have q2 := O2.get 1 rfl
        have p2 := O2.can 1 rfl
        have hput : setAt ((rcs F q).flatMap rcell) (k * 3) [.int .i64 r, .int .u32 1, .slice pq (F.W k).length cq] = _ := rcs_put F q hc ⟨r, 1⟩ (.slice pq (F.W k).length cq) (F.W k)
        have hfl := rcs_flen F q
        have hin : k * 3 + 3 ≤ F.C * 3 := by omega
        have O3 := rg_put hc ⟨r, 1⟩ (F.W k) O2
        have rt2 : List.take 1 (List.drop (k * 3 + 2) ((rcs F q).flatMap rcell)) = [.slice pq (F.W k).length cq] := rd_take (by rw [q2] at rd2; exact rd2)
        have b1 : setAt [Value.int .i64 0, .int .u32 0, .slice none 0 0] 0 [.int .i64 r] = [.int .i64 r, .int .u32 0, .slice none 0 0] := rfl
        have b2 : setAt [Value.int .i64 r, .int .u32 0, .slice none 0 0] 1 [.int .u32 1] = [.int .i64 r, .int .u32 1, .slice none 0 0] := rfl
        have b3 : setAt [Value.int .i64 r, .int .u32 1, .slice none 0 0] 2 [.slice pq (F.W k).length cq] = [.int .i64 r, .int .u32 1, .slice pq (F.W k).length cq] := rfl
        have b4 : cellsOf (.slice pq (F.W k).length cq) = [.slice pq (F.W k).length cq] := rfl
        simp only [b1, b2, b3, b4, m1, rt2, p2, q2, c0, c1, Int.toNat_natCast, Nat.zero_add, st3, hput, hfl, hin, wkF, Y_box, Y_store, Y_makeMap, Y_buildSlice, ↓reduceIte, reduceCtorEq, wkO, Nat.reduceAdd, Nat.reduceLeDiff, Nat.reduceMul, Nat.reduceLT, Nat.reduceEqDiff, wkG]
        generalize h1.setB cb _ = h3 at O3 ⊢
        clear q2 p2 rt2 rd rd0 rd1 rd2 hput hfl hin m1 m6 n6 O2 fin140 O1 g6 p6 zo
        have z' : Rz (F.put k ⟨r, 1⟩ (F.W k)) := rz_put z ⟨by show (0 : Int) ≤ 1; omega, by show (1 : Int) ≤ 4294967295; omega⟩ ⟨by show -1 ≤ r; have := hr.1; omega, hr.2⟩ (z.w k)
        have hE := put_E F k ⟨r, 1⟩ (F.W k)
        have hW := put_W F k ⟨r, 1⟩ (F.W k)
        have e0' : F.E k = e0 := he
        generalize hF2 : F.put k ⟨r, 1⟩ (F.W k) = F2 at O3 z' hE hW
        have hc2 : k < F2.C := by rw [← hF2]; exact hc
        have c2 : (k : Int) < (F2.C : Int) := by omega
        obtain ⟨cb, tb, q, pq, cq, hqc, rd, _, _, _, O4⟩ := rg_take hc2 O3
        have m1 := O4.get 0 rfl
        unfold rfc at m1
        rw [hE] at rd
        rw [X_seq]
        simp only [m1, rd, c0, c2, Int.toNat_natCast, Nat.zero_add, wkF, Y_box, Y_store, Y_makeMap, Y_buildSlice, ↓reduceIte, reduceCtorEq, wkO, wkS, Nat.reduceAdd, Nat.reduceLeDiff, Nat.reduceMul, Nat.reduceLT, Nat.reduceEqDiff, wkG]
        refine Z_is (rrecord_e (n := n + 3) (k : Int) ⟨r, 1⟩ (.slice pq (F2.W k).length cq) rfl ⟨by show -1 ≤ r; have := hr.1; omega, by show r < 255; have := hr.2; omega⟩ ⟨by show (0 : Int) ≤ 1; omega, by show (1 : Int) ≤ 4294967295; omega⟩ O3.fine) ?_
        rintro v h5 ⟨e5, n5, -⟩
        simp only at e5 n5
        obtain ⟨d, O6⟩ := Has.ex.1 (O3.new e5 n5)
        obtain ⟨hv, O7⟩ := Has.and.1 O6
        subst hv
        have g6 := O7.get 2 rfl
        have p6 := O7.can 2 rfl
        have O8 := O7.set 2 rfl (.cells (wc ⟨(k : Int), ⟨r, 1⟩, d⟩) 1 false)
        simp only [List.set_cons_zero, List.set_cons_succ] at O8
        have wcc : cellsOf (.agg #[.int .i64 3, .int .i64 (k : Int), dvv d]) = wc ⟨(k : Int), ⟨r, 1⟩, d⟩ := rfl
        have wcs : setAt [Value.int .i64 0, .int .i64 0, .slice none 0 0] 0 (wc ⟨(k : Int), ⟨r, 1⟩, d⟩) = wc ⟨(k : Int), ⟨r, 1⟩, d⟩ := rfl
        simp only [g6, p6, wcc, wcs, wc_len, wc_one, wkF, X_seq, Y_box, Y_store, Y_makeMap, Y_buildSlice, ↓reduceIte, reduceCtorEq, wkO, Nat.reduceAdd, Nat.reduceLeDiff, Nat.reduceMul, Nat.reduceLT, Nat.reduceEqDiff, wkG]
        exact leafO _ (answer2 _ _ _ _ (cellN O8 2 rfl rfl rfl) rfl) ⟨_, _, F2, Dt d ⟨r, 1⟩, rfl, Or.inr (Or.inr ⟨⟨hi, hr⟩, e0', rfl, hF2.symm, d, rfl, rfl⟩), (O8.rid 2 rfl).swap2⟩
      · simp only [hr, m1, c0, c1, Int.toNat_natCast, Nat.zero_add, rd0, he, m6, n6, zc3, zs3, wkF, ↓reduceIte, reduceCtorEq, Nat.reduceAdd, Nat.reduceLeDiff, Nat.reduceMul, Nat.reduceLT, Nat.reduceEqDiff, wkG, wkH]
        have O3 := O2.set 5 rfl (.cells [.int .i64 0, .int .i64 0, .slice none 0 0] 1 false)
        simp only [List.set_cons_zero, List.set_cons_succ] at O3
        rw [← hqc] at O3
        obtain ⟨f1, f2⟩ := fin140 (fun e => he (by rw [e]; rfl)) O3
        exact leafO _ (answer2 _ _ _ _ (cellN O3 5 rfl rfl rfl) rfl) ⟨_, _, F, Rs.emp, rfl, f1, f2⟩
      · have a1 := eq_true he1
        simp only [hr, m1, c0, c1, Int.toNat_natCast, Nat.zero_add, rd0, rd1, a1, he2, m6, n6, zc3, zs3, wkF, ↓reduceIte, reduceCtorEq, Nat.reduceAdd, Nat.reduceLeDiff, Nat.reduceMul, Nat.reduceLT, Nat.reduceEqDiff, wkG, wkH]
        have O3 := O2.set 5 rfl (.cells [.int .i64 0, .int .i64 0, .slice none 0 0] 1 false)
        simp only [List.set_cons_zero, List.set_cons_succ] at O3
        rw [← hqc] at O3
        obtain ⟨f1, f2⟩ := fin140 (fun e => he2 (by rw [e]; rfl)) O3
        exact leafO _ (answer2 _ _ _ _ (cellN O3 5 rfl rfl rfl) rfl) ⟨_, _, F, Rs.emp, rfl, f1, f2⟩
    · simp only [hr, g6, p6, zc3, zs3, wkF, ↓reduceIte, reduceCtorEq, Nat.reduceAdd, Nat.reduceLeDiff, Nat.reduceMul, Nat.reduceLT, Nat.reduceEqDiff, wkG, wkH]
      exact leafO _ (answer2 _ _ _ _ (cellN (zo O1) 0 rfl rfl rfl) rfl) ⟨_, _, F, Rs.emp, rfl, Or.inl ⟨fun x => hr x.2, rfl, rfl, rfl, rfl⟩, (Has.emp.2 (zo O1).drop).swap2⟩
  · simp only [hi, g6, p6, zc3, zs3, wkF, ↓reduceIte, reduceCtorEq, Nat.reduceAdd, Nat.reduceLeDiff, Nat.reduceMul, Nat.reduceLT, Nat.reduceEqDiff, wkG, wkH]
    exact leafO _ (answer2 _ _ _ _ (cellN (zo O1) 0 rfl rfl rfl) rfl) ⟨_, _, F, Rs.emp, rfl, Or.inl ⟨fun x => hi x.1, rfl, rfl, rfl, rfl⟩, (Has.emp.2 (zo O1).drop).swap2⟩
end
theorem env46 : env 46 = some ir46 := rfl
structure Rw (F : Rf) : Prop where
  z : Rz F
  a : ∀ c, Apt (F.W c)
  r : ∀ c, ∀ w ∈ F.W c, -1 ≤ w.r ∧ w.r < (F.rob : Int)
def Rf.Same (F G : Rf) : Prop := G.home = F.home ∧ G.rob = F.rob ∧ G.C = F.C
theorem Rf.Same.refl (F : Rf) : F.Same F := ⟨rfl, rfl, rfl⟩
theorem Rf.Same.trans {F G H : Rf} (h : F.Same G) (k : G.Same H) : F.Same H := ⟨k.1.trans h.1, k.2.1.trans h.2.1, k.2.2.trans h.2.2⟩
theorem rw_put {F : Rf} (v : Rw F) {c : Nat} {e : En} {l : List It} (hg : 0 ≤ e.g ∧ e.g ≤ 4294967295) (ho : -1 ≤ e.o ∧ e.o < (F.rob : Int)) (hl : l.length ≤ 8) (ha : Apt l) (hr : ∀ w ∈ l, -1 ≤ w.r ∧ w.r < (F.rob : Int)) : Rw (F.put c e l) := by
  refine ⟨rz_put v.z hg ho hl, fun x => ?_, fun x => ?_⟩
  · show Apt (if x = c then l else F.W x)
    split
    · exact ha
    · exact v.a x
  · show ∀ w ∈ (if x = c then l else F.W x), _
    split
    · exact hr
    · exact v.r x
def Rf.cutAll (F : Rf) (r : Int) (k : Nat) : Rf := { F with W := fun c => if c < k then cutF (F.W c) r else F.W c }
def Rf.tell (F : Rf) (r : Nat) (v : Int) : Rf := { F with T := fun x => if x = r then v else F.T x }
theorem cutAll_zero (F : Rf) (r : Int) : F.cutAll r 0 = F := by
  unfold Rf.cutAll
  congr 1
theorem cutAll_succ (F : Rf) (r : Int) (i : Nat) : (F.cutAll r i).put i ((F.cutAll r i).E i) (cutF ((F.cutAll r i).W i) r) = F.cutAll r (i + 1) := by
  unfold Rf.put
  have h1 : (F.cutAll r i).W i = F.W i := if_neg (Nat.lt_irrefl i)
  rw [h1]
  unfold Rf.cutAll
  congr 1
  · funext x
    show (if x = i then F.E i else F.E x) = F.E x
    by_cases h : x = i
    · rw [if_pos h, h]
    · rw [if_neg h]
  · funext x
    show (if x = i then cutF (F.W i) r else if x < i then cutF (F.W x) r else F.W x) = if x < i + 1 then cutF (F.W x) r else F.W x
    by_cases h : x = i
    · rw [if_pos h, if_pos (by omega), h]
    · rw [if_neg h]
      by_cases h2 : x < i
      · rw [if_pos h2, if_pos (by omega)]
      · rw [if_neg h2, if_neg (by omega)]
theorem cutF_sub (l : List It) (r : Int) : (cutF l r).Sublist l := List.filter_sublist
theorem rw_cutAll {F : Rf} (v : Rw F) (r : Int) (k : Nat) : Rw (F.cutAll r k) := by
  obtain ⟨⟨z1, z2, z3, z4, z5, z6, z7⟩, a, b⟩ := v
  refine ⟨⟨z1, z2, z3, z4, z5, z6, fun c => ?_⟩, fun c => ?_, fun c => ?_⟩
  · show (if c < k then cutF (F.W c) r else F.W c).length ≤ 8
    split
    · exact Nat.le_trans (cutF_len _ _) (z7 c)
    · exact z7 c
  · show Apt (if c < k then cutF (F.W c) r else F.W c)
    split
    · exact (a c).sublist (cutF_sub _ _)
    · exact a c
  · show ∀ w ∈ (if c < k then cutF (F.W c) r else F.W c), _
    split
    · exact fun w hw => b c w ((cutF_sub _ _).subset hw)
    · exact b c
theorem rts_put (F : Rf) {r : Nat} (hr : r < F.rob) (v : Int) : ((rts F).flatMap zc).set r (.int .i64 v) = (rts (F.tell r v)).flatMap zc := by
  have h := setAt_flat (g := zc) zc_len (rts F) r v (by rw [rts_len]; exact hr)
  rw [Nat.mul_one] at h
  have e : setAt ((rts F).flatMap zc) r (zc v) = ((rts F).flatMap zc).set r (.int .i64 v) := rfl
  rw [← e, h]
  congr 1
  refine List.ext_getElem? fun k => ?_
  rw [List.getElem?_set, rts_len]
  by_cases hk : k < F.rob
  · rw [rts_get (F.tell r v) hk, rts_get F hk]
    show _ = some (if k = r then v else F.T k)
    by_cases e1 : r = k
    · rw [if_pos e1, if_pos hr, if_pos e1.symm]
    · rw [if_neg e1, if_neg (fun h => e1 h.symm)]
  · have h1 : (rts F)[k]? = none := List.getElem?_eq_none (by rw [rts_len]; omega)
    have h2 : (rts (F.tell r v))[k]? = none := List.getElem?_eq_none (by rw [rts_len]; show F.rob ≤ k; omega)
    rw [if_neg (by omega), h1, h2]
def RRen (F : Rf) (r : Int) (F' : Rf) : Prop :=
  (¬ F.Rob r ∧ F' = F) ∨ (F.Rob r ∧ r = F.home ∧ F' = F.cutAll r F.C) ∨ (F.Rob r ∧ r ≠ F.home ∧ F' = (F.cutAll r F.C).tell r.toNat 0)
section
variable {ro : Nat → Option (List Value × Nat)} {h : Heap} {R : List Rs} {rb ob : Nat} {F : Rf} {o : Ou} {n : Nat}
theorem rg_tell {r : Nat} (hr : r < F.rob) (v : Int) (O : Has ro h (Rg rb F :: R)) : ∃ cb tb, h.get rb = some (.cells [.int .i64 F.home, .int .i64 (F.rob : Int), .slice (some ⟨cb, 0, none⟩) F.C F.C, .slice (some ⟨tb, 0, none⟩) F.rob F.rob] 1 false) ∧
    h.get tb = some (.cells ((rts F).flatMap zc) 1 false) ∧ canPut h tb = true ∧ Has ro (h.setB tb (.cells ((rts (F.tell r v)).flatMap zc) 1 false)) (Rg rb (F.tell r v) :: R) := by
  obtain ⟨cb, tb, q, O1⟩ := Has.rgOpen O
  have O2 := O1.set 2 rfl (.cells ((rts (F.tell r v)).flatMap zc) 1 false)
  simp only [List.set_cons_zero, List.set_cons_succ] at O2
  exact ⟨cb, tb, O1.get 0 rfl, O1.get 2 rfl, O1.can 2 rfl, Has.rgClose (F := F.tell r v) O2⟩
theorem rg_get (O : Has ro h (Rg rb F :: R)) : ∃ cb tb, h.get rb = some (.cells [.int .i64 F.home, .int .i64 (F.rob : Int), .slice (some ⟨cb, 0, none⟩) F.C F.C, .slice (some ⟨tb, 0, none⟩) F.rob F.rob] 1 false) := by
  obtain ⟨cb, tb, q, O1⟩ := Has.rgOpen O
  exact ⟨cb, tb, O1.get 0 rfl⟩
theorem rrenewed_h (r : Int) (v : Rw F) (hn : 1200 < n) (O : Has ro h (Rg rb F :: R)) :
    (callV env (n + 3) (.func (.func 46) #[] #[]) [.pointer (some ⟨rb, 0, none⟩), .int .i64 r] h).Is fun p => ∃ F', RRen F r F' ∧ Has ro p.2 (Rg rb F' :: R) := by
  have z1 := v.z.r1
  have zc2 := v.z.c2
  refine call_is env46 ?_
  simp only [ir46, Nat.reduceAdd, Nat.reduceSub, wkF, ↓reduceIte, reduceCtorEq, wkN, wkG, wkH]
  refine Z_is (rrobot_h (n := n + 1) r O) ?_
  rintro v' h2 ⟨rfl, rfl⟩
  by_cases hr : F.Rob r
  · simp only [hr, wkF, ↓reduceIte, reduceCtorEq, Nat.reduceAdd, wkG, wkH]
    rw [← cutAll_zero F r] at O
    refine L_is (fun q' s => ∃ (i : Nat), q' = F.C - i ∧ s.defers = [] ∧ s.tmps.length = 34 ∧ s.tmps.getD 0 undefV = .pointer (some ⟨rb, 0, none⟩) ∧ s.tmps.getD 1 undefV = .int .i64 r ∧ s.tmps.getD 4 undefV = .int .i64 (i : Int) ∧ i ≤ F.C ∧ Has ro s.h (Rg rb (F.cutAll r i) :: R)) F.C ?_ (by omega) ?_
    · exact ⟨0, rfl, rfl, rfl, rfl, rfl, rfl, Nat.zero_le _, O⟩
    clear O
    rintro q' tm df h4 ⟨i, hk, hd, hlen_, g0, g1, g4, hil, O4⟩
    simp only at hd g0 g1 g4 O4
    subst hd
    obtain ⟨w, hg_, rfl⟩ := explode hlen_
    simp only [hg_] at g0 g1 g4
    clear hlen_ hg_
    obtain ⟨cb, tb, m1⟩ := rg_get O4
    have e1 : (F.cutAll r i).C = F.C := rfl
    have e2 : (F.cutAll r i).home = F.home := rfl
    have e3 : (F.cutAll r i).rob = F.rob := rfl
    rw [e1, e2, e3] at m1
    by_cases hi : i < F.C
    · have hi' : (i : Int) < (F.C : Int) := by omega
      have yi : IntKind.i64.wrap ((i : Int) + 1) = ((i + 1 : Nat) : Int) := by rw [wrap_i64 (by omega) (by omega)]; omega
      simp only [g0, g1, g4, m1, hi', wkF, ↓reduceIte, reduceCtorEq, Nat.reduceAdd, Nat.reduceLeDiff, Nat.reduceMul, Nat.reduceLT, Nat.reduceEqDiff, wkG, wkH]
      refine Z_is (rcut_h (n := n + 1) r (rw_cutAll v r i).z hi (by omega) O4) ?_
      rintro v2 h5 O5
      simp only at O5
      rw [cutAll_succ] at O5
      simp only [yi, wkF, ↓reduceIte, reduceCtorEq, Nat.reduceAdd, wkG, wkH]
      exact Is_in ⟨F.C - (i + 1), sub_lt' hk hi, i + 1, rfl, rfl, rfl, rfl, rfl, rfl, hi, O5⟩
    have hi' : ¬ (i : Int) < (F.C : Int) := by omega
    have hiC : i = F.C := by omega
    rw [hiC] at O4
    simp only [g0, g1, g4, m1, hi', wkF, ↓reduceIte, reduceCtorEq, Nat.reduceAdd, Nat.reduceLeDiff, Nat.reduceMul, Nat.reduceLT, Nat.reduceEqDiff, wkG, wkH]
    refine Is_in ?_
    by_cases hh : r = F.home
    · have hh' := eq_true hh
      simp only [g0, g1, g4, m1, hh', wkF, ↓reduceIte, reduceCtorEq, Nat.reduceAdd, Nat.reduceLeDiff, Nat.reduceMul, Nat.reduceLT, Nat.reduceEqDiff, wkG, wkH]
      exact leaf0n ⟨_, Or.inr (Or.inl ⟨hr, hh, rfl⟩), O4⟩
    · obtain ⟨k, rfl⟩ : ∃ k : Nat, r = (k : Int) := ⟨r.toNat, by have := hr.1; omega⟩
      have hk' : k < F.rob := by have := hr.2; omega
      have k0 : (0 : Int) ≤ (k : Int) := by omega
      have k1 : (k : Int) < (F.rob : Int) := by omega
      obtain ⟨cb, tb, m2, m3, p3, O5⟩ := rg_tell (F := F.cutAll (k : Int) F.C) (r := k) hk' 0 O4
      rw [show (F.cutAll (k : Int) F.C).C = F.C from rfl, show (F.cutAll (k : Int) F.C).home = F.home from rfl, show (F.cutAll (k : Int) F.C).rob = F.rob from rfl] at m2
      have hset := rts_put (F.cutAll (k : Int) F.C) (r := k) hk' 0
      have hfl := rts_flen (F.cutAll (k : Int) F.C)
      have hin : k + 1 ≤ F.rob := hk'
      rw [show (F.cutAll (k : Int) F.C).rob = F.rob from rfl] at hfl
      simp only [g0, g1, g4, m2, hh, m3, p3, k0, k1, Int.toNat_natCast, Nat.zero_add, Nat.mul_one, hset, hfl, hin, wkF, ↓reduceIte, reduceCtorEq, Nat.reduceAdd, Nat.reduceLeDiff, Nat.reduceMul, Nat.reduceLT, Nat.reduceEqDiff, wkG, wkH]
      exact leaf0n ⟨_, Or.inr (Or.inr ⟨hr, hh, rfl⟩), O5⟩
  · simp only [hr, wkF, ↓reduceIte, reduceCtorEq, Nat.reduceAdd, wkG, wkH]
    exact leaf0 ⟨F, Or.inl ⟨hr, rfl⟩, O⟩
end
end Go.Proofs.Ytmpnldmdchchjaa
