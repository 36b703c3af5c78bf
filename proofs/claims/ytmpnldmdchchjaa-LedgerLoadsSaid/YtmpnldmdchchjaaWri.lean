import Derived.Test.YtmpnldmdchchjaaFk
import Derived.Test.YtmpnldmdchchjaaSam
namespace Go.Proofs.Ytmpnldmdchchjaa
open Go Go.Ideal Go.ChangeShapes Go.RowKit
set_option maxHeartbeats 0
set_option linter.unusedSimpArgs false
set_option linter.unusedVariables false
set_option maxRecDepth 100000
attribute [local irreducible] callV T.All T.Is run
def apw (f : Int → En) : List Wr → Int → En
  | [] => f
  | w :: l => apw (fun x => if x = w.c then w.e else f x) l
theorem apw_append (l m : List Wr) : ∀ f, apw f (l ++ m) = apw (apw f l) m := by
  induction l with
  | nil => intro f; rfl
  | cons w l ih => intro f; exact ih _
theorem apw_congr : ∀ (l : List Wr) {f g : Int → En}, (∀ x, f x = g x) → ∀ x, apw f l x = apw g l x
  | [], f, g, h, x => h x
  | w :: l, f, g, h, x => apw_congr l (fun y => by show (if y = w.c then w.e else f y) = (if y = w.c then w.e else g y); rw [h]) x
structure Nv (S : Ls) : Prop where
  w : Wf S
  e : ∀ c e, lk S.ents c = some e → e ≠ e0 ∧ S.Is c ∧ -1 ≤ e.o ∧ e.o < S.rob
  q : ∀ c, ∀ x ∈ S.W c, 0 ≤ x.r ∧ x.r < S.rob
theorem nv_lz {a b c : Int} (h : Szs a b c) : Nv (lz a b c) := ⟨lz_wf h, fun c e h => (by cases h), fun c x hx => (by cases hx)⟩
theorem nv_set {S : Ls} (v : Nv S) {c : Int} {e : En} (hi : S.Is c) (hg : 0 ≤ e.g ∧ e.g ≤ 4294967295) (ho : -1 ≤ e.o ∧ e.o < S.rob) : Nv (S.set c e) := by
  refine ⟨v.w.set c e hg, fun x e' h => ?_, v.q⟩
  have h' : lk (setE S.ents c e) x = some e' := h
  unfold setE at h'
  by_cases he : e = e0
  · rw [if_pos he, lk_del] at h'
    by_cases hx : x = c
    · rw [if_pos hx] at h'; cases h'
    · rw [if_neg hx, lk_upd, if_neg hx] at h'
      exact v.e x e' h'
  · rw [if_neg he, lk_upd] at h'
    by_cases hx : x = c
    · rw [if_pos hx] at h'
      cases h'
      rw [hx]
      exact ⟨he, hi, ho⟩
    · rw [if_neg hx] at h'
      exact v.e x e' h'
theorem nv_W {S : Ls} (v : Nv S) {W : Int → List It} (hw : Wf { S with W := W }) (h : ∀ c, ∀ x ∈ W c, x ∈ S.W c) : Nv { S with W := W } := ⟨hw, v.e, fun c x hx => v.q c x (h c x hx)⟩
theorem nv_told {S : Ls} (v : Nv S) (t : List (Int × Int)) : Nv { S with told := t } := ⟨v.w.told t, v.e, v.q⟩
theorem nv_gone {S : Ls} {r : Int} {W : Int → List It} (v : Nv S) (g : Gn S r S.N W) : Nv { S with W := W } := by
  refine nv_W v (gn_wf v.w g) fun c x hx => ?_
  by_cases h1 : ∃ i, i < S.N ∧ c = S.at i
  · obtain ⟨i, hi, rfl⟩ := h1
    obtain ⟨a, hc⟩ := g.on i hi
    rcases hc with ⟨_, _, e⟩ | ⟨_, j, _, _, e⟩
    · rw [e] at hx; exact hx
    · rw [e] at hx; exact List.mem_of_mem_eraseIdx hx
  · rw [g.off c fun i hi e => h1 ⟨i, hi, e⟩] at hx
    exact hx
theorem nv_free {S S' : Ls} {o o' : Ou} {c : Int} (v : Nv S) (hi : S.Is c) (h : FreeTo S o c S' o') : Nv S' ∧ S.Same S' ∧ ∃ ws, o'.ws = o.ws ++ ws ∧ (∀ x, S'.E x = apw S.E ws x) ∧ ∀ w ∈ ws, w.c = c := by
  obtain ⟨hw, hs⟩ := free_wf v.w h
  have hg := v.w.g c
  have hr : -1 ≤ (-1 : Int) ∧ (-1 : Int) < S.rob := ⟨by omega, by have := v.w.z.r1; omega⟩
  have v1 := nv_set v (e := ⟨-1, (S.E c).g⟩) hi hg hr
  obtain ⟨d, ⟨hm, rfl, rfl⟩ | ⟨hm, hW, rfl, rfl⟩ | ⟨hm, w, rest, d2, hW, rfl, rfl⟩⟩ := h
  · refine ⟨⟨hw, v1.e, fun x y hy => ?_⟩, hs, [⟨c, ⟨-1, (S.E c).g⟩, d⟩], ?_, fun x => ?_, fun w hw => by simp at hw; rw [hw]⟩
    · have hy' : y ∈ updW S.W c [] x := hy
      unfold updW at hy'
      split at hy'
      · cases hy'
      · exact v.q x y hy'
    · rw [(denies_len _ _).1]; rfl
    · rw [E_setW, E_set]; rfl
  · exact ⟨v1, hs, [⟨c, ⟨-1, (S.E c).g⟩, d⟩], rfl, fun x => by rw [E_set]; rfl, fun w hw => by simp at hw; rw [hw]⟩
  · have hq := v.q c w (by rw [hW]; simp)
    have v2 : Nv ((S.set c ⟨-1, (S.E c).g⟩).setW c rest) := by
      refine ⟨v1.w.setW fun y => ?_, v1.e, fun x y hy => ?_⟩
      · unfold updW
        split
        · rename_i e
          rw [e]
          show _ ≤ (S.W c).length
          rw [hW]
          simp
        · exact Nat.le_refl _
      · have hy' : y ∈ updW S.W c rest x := hy
        unfold updW at hy'
        split at hy'
        · exact v.q c y (by rw [hW]; simp [hy'])
        · exact v.q x y hy'
    have v3 := nv_set v2 (c := c) (e := ⟨w.r, (S.E c).g + 1⟩) hi (by show 0 ≤ (S.E c).g + 1 ∧ (S.E c).g + 1 ≤ 4294967295; omega) ⟨by show -1 ≤ w.r; omega, hq.2⟩
    refine ⟨v3, hs, [⟨c, ⟨-1, (S.E c).g⟩, d⟩, ⟨c, ⟨w.r, (S.E c).g + 1⟩, d2⟩], ?_, fun x => ?_, fun w hw => ?_⟩
    · show (o.ws ++ [_]) ++ [_] = _
      rw [List.append_assoc]
      rfl
    · rw [E_set, E_setW, E_set]; rfl
    · simp at hw
      rcases hw with rfl | rfl <;> rfl
def Stw (S S' : Ls) (ws : List Wr) : Prop := Nv S' ∧ S.Same S' ∧ (∀ x, S'.E x = apw S.E ws x) ∧ ∀ w ∈ ws, S.Is w.c
theorem Stw.refl {S : Ls} (v : Nv S) : Stw S S [] := ⟨v, Ls.Same.refl _, fun _ => rfl, fun w hw => by cases hw⟩
theorem is_eq {S S' : Ls} (s : S.Same S') (x : Int) : S'.Is x ↔ S.Is x := by unfold Ls.Is; rw [s.1, s.2.1, s.2.2]
theorem at_is {S : Ls} (z : Sz S) {i : Nat} (hi : i < S.N) : S.Is (S.at i) := by
  refine ⟨by have := z.r1; omega, (at_pos z i).1, (lt_N z i).1 hi, ?_⟩
  rw [Int.tmod_eq_emod_of_nonneg (at_pos z i).1]
  unfold Ls.at
  rw [Int.add_mul_emod_self_right]
  exact Int.emod_eq_of_lt z.h1 z.h2
theorem stw_stto {S0 : Ls} {r : Int} {L : List En} (v0 : Nv S0) : ∀ {k : Nat} {S' : Ls} {o' : Ou}, k ≤ S0.N → StTo S0 r L k S' o' → Stw S0 S' o'.ws
  | 0, S', o', _, ⟨h1, h2⟩ => by
    subst h1 h2
    exact Stw.refl v0
  | k + 1, S', o', hk, ⟨S1, o1, h, hs⟩ => by
    obtain ⟨v1, s1, e1, m1⟩ := stw_stto v0 (by omega) h
    rcases hs with ⟨_, hf⟩ | ⟨_, rfl, rfl⟩
    · have hi := at_is v0.w.z (i := k) (by omega)
      obtain ⟨v2, s2, ws, h1, h2, h3⟩ := nv_free v1 ((is_eq s1 _).2 hi) hf
      refine ⟨v2, s1.trans s2, fun x => ?_, fun w hw => ?_⟩
      · rw [h2, h1, apw_append]
        exact apw_congr ws e1 x
      · rw [h1] at hw
        rcases List.mem_append.1 hw with hw | hw
        · exact m1 w hw
        · rw [h3 w hw]; exact hi
    · exact ⟨v1, s1, e1, m1⟩
theorem stw_stat {S S' : Ls} {r e : Int} {L : List En} {o' : Ou} (v : Nv S) (h : StatIs S r L e S' o') : Stw S S' o'.ws := by
  rcases h with ⟨_, _, rfl, rfl⟩ | ⟨_, _, W0, Sk, h1, h2, rfl⟩
  · exact Stw.refl v
  · obtain ⟨v1, s1, e1, m1⟩ := stw_stto (nv_gone v h1) (Nat.le_refl _) h2
    exact ⟨nv_told v1 _, s1, e1, m1⟩
theorem stw_rel {S S' : Ls} {r c k e : Int} {o' : Ou} (v : Nv S) (h : RelIs S r c k e S' o') : Stw S S' o'.ws := by
  rcases h with ⟨_, _, rfl, rfl⟩ | ⟨hr, _, _, h⟩ | ⟨_, _, _, rfl, rfl⟩
  · exact Stw.refl v
  · obtain ⟨v2, s2, ws, h1, h2, h3⟩ := nv_free v hr.2 h
    have h1' : o'.ws = ws := h1
    rw [h1']
    exact ⟨v2, s2, h2, fun w hw => by rw [h3 w hw]; exact hr.2⟩
  · exact Stw.refl v
theorem stw_ren {S S' : Ls} {r : Int} (v : Nv S) (h : RenIs S r S') : Stw S S' [] := by
  rcases h with ⟨_, rfl⟩ | ⟨_, W, g, rfl⟩
  · exact Stw.refl v
  · exact ⟨nv_told (nv_gone v g) _, ⟨rfl, rfl, rfl⟩, fun _ => rfl, fun w hw => by cases hw⟩
theorem stw_req {S S' : Ls} {w : It} {c e : Int} {o' : Ou} (v : Nv S) (h : ReqIs S w c e S' o') : Stw S S' o'.ws := by
  have hw := req_wf v.w h
  rcases h with ⟨_, _, rfl, rfl⟩ | ⟨_, _, _, rfl, rfl⟩ | ⟨hf, _, _, ⟨_, rfl, rfl⟩ | ⟨ho, d, rfl, rfl⟩ | ⟨h1, h2, qs', a, er, l', h3, h4, rfl, rfl⟩⟩
  · exact Stw.refl v
  · exact Stw.refl v
  · exact Stw.refl v
  · unfold Ls.grant Ou.grant
    split
    · exact Stw.refl v
    · rename_i hm
      have hg := v.w.g c
      have hr := hf.1
      refine ⟨nv_set v hf.2.1 (by show 0 ≤ (S.E c).g + 1 ∧ (S.E c).g + 1 ≤ 4294967295; omega) ⟨by show -1 ≤ w.r; have := hr.2.1; omega, hr.2.2⟩, ⟨rfl, rfl, rfl⟩, fun x => ?_, fun y hy => ?_⟩
      · rw [E_set]; rfl
      · have hy' : y ∈ [(⟨c, ⟨w.r, (S.E c).g + 1⟩, d⟩ : Wr)] := hy
        simp at hy'
        rw [hy']
        exact hf.2.1
  · have hws : (oz.waits w c (S.E c) a l').ws = [] := by unfold Ou.waits; split <;> rfl
    rw [hws]
    refine ⟨⟨hw.1, v.e, fun x y hy => ?_⟩, hw.2, fun _ => rfl, fun w hw => by cases hw⟩
    have hy' : y ∈ updW S.W c l' x := hy
    unfold updW at hy'
    split at hy'
    · have hmem : y ∈ S.W c ∨ y = w := by
        rcases h4 with ⟨_, _, _, rfl⟩ | ⟨_, _, _, _, _, rfl⟩ | ⟨_, _, _, l2, hp, _, hc, _⟩
        · exact Or.inl hy'
        · exact Or.inl hy'
        · have h1 : 0 < l'.count y := List.count_pos_iff.2 hy'
          rw [hc] at h1
          have h5 := List.count_pos_iff.1 h1
          rcases hp with ⟨_, _, rfl⟩ | ⟨i, _, _, ⟨_, rfl⟩ | ⟨_, rfl⟩⟩
          · simpa using h5
          · exact List.mem_or_eq_of_mem_set h5
          · exact Or.inl h5
      rcases hmem with hm | rfl
      · exact v.q c y hm
      · exact ⟨hf.1.2.1, hf.1.2.2⟩
    · exact v.q x y hy'
theorem stw_pla {S S' : Ls} {c r e : Int} {rv : Value} {D : Rs} (v : Nv S) (h : PlaIs S c r e S' rv D) :
    (e ≠ 0 ∧ D = Rs.emp ∧ Stw S S' []) ∨ (e = 0 ∧ ∃ d, rv = .agg (wc ⟨c, ⟨r, 1⟩, d⟩).toArray ∧ D = Dt d ⟨r, 1⟩ ∧ Stw S S' [⟨c, ⟨r, 1⟩, d⟩]) := by
  rcases h with ⟨_, rfl, rfl, _, hD⟩ | ⟨_, _, rfl, rfl, _, hD⟩ | ⟨hi, he, rfl, rfl, d, hr, hD⟩
  · exact Or.inl ⟨by omega, hD, Stw.refl v⟩
  · exact Or.inl ⟨by omega, hD, Stw.refl v⟩
  · refine Or.inr ⟨rfl, d, hr, hD, nv_set v hi.1 (by show (0 : Int) ≤ 1 ∧ (1 : Int) ≤ 4294967295; omega) ⟨by show -1 ≤ r; have := hi.2.2.1; omega, hi.2.2.2⟩, ⟨rfl, rfl, rfl⟩, fun x => by rw [E_set]; rfl, fun w hw => ?_⟩
    simp at hw
    rw [hw]
    exact hi.1
def b5 (e : En) : List Nat := [(e.o % 256).toNat, (e.g / 16777216 % 256).toNat, (e.g / 65536 % 256).toNat, (e.g / 256 % 256).toNat, (e.g % 256).toNat]
theorem fdiv_sh (g : Int) (k : Nat) : g.fdiv ((2 : Int) ^ k) = g / (2 : Int) ^ k := Int.fdiv_eq_ediv_of_nonneg _ (by exact Int.le_of_lt (Int.pow_pos (by omega)))
theorem e5_eq (e : En) : e5 e = (b5 e).flatMap bx := by
  have h1 : min (Int.toNat 24) IntKind.u32.bits = 24 := rfl
  have h2 : min (Int.toNat 16) IntKind.u32.bits = 16 := rfl
  have h3 : min (Int.toNat 8) IntKind.u32.bits = 8 := rfl
  have p1 : (2 : Int) ^ 24 = 16777216 := by decide
  have p2 : (2 : Int) ^ 16 = 65536 := by decide
  have p3 : (2 : Int) ^ 8 = 256 := by decide
  have k : ∀ x : Int, u8v x = .int .u8 ((x % 256).toNat : Int) := fun x => by
    unfold u8v
    rw [wrap_u8_mod, Int.toNat_of_nonneg (Int.emod_nonneg _ (by decide))]
  unfold e5 b5
  rw [h1, h2, h3, fdiv_sh, fdiv_sh, fdiv_sh, p1, p2, p3, k, k, k, k, k]
  rfl
theorem b5_lt (e : En) (i : Nat) : at8 (b5 e) i < 256 := by
  have k : ∀ x : Int, (x % 256).toNat < 256 := fun x => by
    have h1 := Int.emod_nonneg x (b := 256) (by decide)
    have h2 := Int.emod_lt_of_pos x (b := 256) (by decide)
    omega
  unfold at8 b5
  match i with
  | 0 => exact k _
  | 1 => exact k _
  | 2 => exact k _
  | 3 => exact k _
  | 4 => exact k _
  | _ + 5 => show (0 : Nat) < 256; omega
theorem rdE_b5 {e : En} (hn : e ≠ e0) (ho : -1 ≤ e.o ∧ e.o < 255) (hg : 0 ≤ e.g ∧ e.g ≤ 4294967295) : rdE (b5 e) = (e, true) := by
  have h : (⟨if at8 (b5 e) 0 = 255 then -1 else (at8 (b5 e) 0 : Int), (gen4 (b5 e) 4 : Int)⟩ : En) = e := by
    obtain ⟨o, g⟩ := e
    simp only at ho hg
    have a0 : at8 (b5 ⟨o, g⟩) 0 = (o % 256).toNat := rfl
    have hG : gen4 (b5 ⟨o, g⟩) 4 = (((0 * 256 + (g / 16777216 % 256).toNat) * 256 + (g / 65536 % 256).toNat) * 256 + (g / 256 % 256).toNat) * 256 + (g % 256).toNat := rfl
    rw [a0, hG]
    congr 1
    · by_cases h1 : o = -1
      · subst h1; rfl
      · have : (o % 256).toNat ≠ 255 := by omega
        rw [if_neg this]
        omega
    · omega
  have h5 : (b5 e).length = 5 := rfl
  unfold rdE
  rw [if_pos h5, h]
  simp [hn]
theorem lds_append : ∀ (l m : List Rq) (S : Ls), lds S (l ++ m) = (lds S l).bind fun S' => lds S' m
  | [], m, S => rfl
  | x :: l, m, S => by
    rw [List.cons_append, lds, lds]
    split
    · split
      · exact lds_append l m _
      · rfl
    · exact lds_append l m _
theorem lk_recl {S : Ls} (z : Sz S) : ∀ (k j : Nat), lk (recl S k) (S.at j) = if j < k then lk S.ents (S.at j) else none
  | 0, j => by rw [if_neg (by omega)]; rfl
  | k + 1, j => by
    rw [recl, lk_append, lk_recl z k j]
    by_cases h1 : j < k
    · rw [if_pos h1, if_pos (by omega)]
      cases h2 : lk S.ents (S.at j) with
      | some e => rfl
      | none =>
        simp only
        have hne : S.at k ≠ S.at j := fun e => at_ne z h1 e.symm
        cases lk S.ents (S.at k) with
        | none => rfl
        | some e => simp only [lk_cons, if_neg hne, lk_nil]
    · rw [if_neg h1]
      simp only
      by_cases h2 : j = k
      · subst h2
        rw [if_pos (by omega)]
        cases lk S.ents (S.at j) with
        | none => rfl
        | some e => simp only [lk_cons, if_true]
      · rw [if_neg (by omega)]
        have hne : S.at k ≠ S.at j := at_ne z (by omega)
        cases lk S.ents (S.at k) with
        | none => rfl
        | some e => simp only [lk_cons, if_neg hne, lk_nil]
def lw (S : Ls) (l : List (Int × En)) : Ls := { lz S.home S.rob S.cells with ents := l }
def rkeys (l : List (Int × En)) : List (Int × Int × List Nat) := l.map fun p => (3, p.1, b5 p.2)
theorem lds_recl {S : Ls} (v : Nv S) : ∀ (k : Nat) (L : List Rq), k ≤ S.N → L.map rkey = rkeys (recl S k) → lds (lz S.home S.rob S.cells) L = some (lw S (recl S k))
  | 0, L, _, h => by
    have : L = [] := by
      have := congrArg List.length h
      simpa [rkeys, recl] using this
    subst this
    rfl
  | k + 1, L, hk, h => by
    rw [recl] at h ⊢
    unfold rkeys at h
    rw [List.map_append] at h
    obtain ⟨L1, L2, rfl, h1, h2⟩ := List.map_eq_append_iff.1 h
    rw [lds_append, lds_recl v k L1 (by omega) h1]
    show lds (lw S (recl S k)) L2 = _
    cases hl : lk S.ents (S.at k) with
    | none =>
      rw [hl] at h2
      have : L2 = [] := by simpa using h2
      subst this
      rw [List.append_nil]
      rfl
    | some e =>
      rw [hl] at h2
      simp only [List.map_cons, List.map_nil] at h2
      obtain ⟨x, rfl, hx⟩ := List.map_eq_singleton_iff.1 h2
      obtain ⟨kd, nn, dv, B⟩ := x
      simp only [rkey, Prod.mk.injEq] at hx
      obtain ⟨rfl, rfl, rfl⟩ := hx
      obtain ⟨e1, e2, e3, e4⟩ := v.e _ e hl
      have hE : S.E (S.at k) = e := by unfold Ls.E; rw [hl]; rfl
      have hg := v.w.g (S.at k)
      rw [hE] at hg
      have hr := v.w.z.r2
      have hrd := rdE_b5 e1 ⟨e3, by omega⟩ hg
      have hnone : lk (recl S k) (S.at k) = none := by rw [lk_recl v.w.z, if_neg (by omega)]
      have hmay : (lw S (recl S k)).May ⟨3, S.at k, dv, b5 e⟩ := ⟨by rw [hrd], hnone, e2, by rw [hrd]; exact e4⟩
      rw [lds, if_pos rfl, if_pos hmay, lds]
      congr 1
      show ({ lw S (recl S k) with ents := upd1 (recl S k) (S.at k) (rdE (b5 e)).1 } : Ls) = _
      rw [hrd]
      have : upd1 (recl S k) (S.at k) e = recl S k ++ [(S.at k, e)] := by unfold upd1; rw [hnone]; rfl
      rw [this]
      rfl
theorem recl_lw {S : Ls} (z : Sz S) : ∀ k, k ≤ S.N → recl (lw S (recl S S.N)) k = recl S k
  | 0, _ => rfl
  | k + 1, hk => by
    rw [recl, recl, recl_lw z k (by omega)]
    have : lk (lw S (recl S S.N)).ents ((lw S (recl S S.N)).at k) = lk S.ents (S.at k) := by
      show lk (recl S S.N) (S.at k) = _
      rw [lk_recl z, if_pos (by omega)]
    rw [this]
    rfl
def cntE (S : Ls) : Nat → Nat
  | 0 => 0
  | m + 1 => cntE S m + if S.E (m : Int) = e0 then 0 else 1
theorem E_none {S : Ls} {c : Int} (h : lk S.ents c = none) : S.E c = e0 := by unfold Ls.E; rw [h]; rfl
theorem is_at {S : Ls} (z : Sz S) {c : Int} (h : S.Is c) : ∃ i, c = S.at i := by
  obtain ⟨h1, h2, h3, h4⟩ := h
  rw [Int.tmod_eq_emod_of_nonneg h2] at h4
  refine ⟨(c / S.rob).toNat, ?_⟩
  unfold Ls.at
  have hr := z.r1
  rw [Int.toNat_of_nonneg (Int.ediv_nonneg h2 (by omega))]
  have := Int.mul_ediv_add_emod c S.rob
  rw [Int.mul_comm] at this
  omega
theorem at_lt {S : Ls} (z : Sz S) {i j : Nat} (h : i < j) : S.at i < S.at j := by
  unfold Ls.at
  have h1 := z.r1
  have : ((i : Int) + 1) * S.rob ≤ (j : Int) * S.rob := Int.mul_le_mul_of_nonneg_right (by omega) (by omega)
  rw [Int.add_mul, Int.one_mul] at this
  omega
theorem cnt_recl {S : Ls} (v : Nv S) : ∀ (m k : Nat), (∀ i, i < k ↔ S.at i < (m : Int)) → cntE S m = (recl S k).length
  | 0, k, h => by
    have : k = 0 := by
      rcases Nat.eq_zero_or_pos k with h0 | h0
      · exact h0
      · have := (h 0).1 h0
        have := (at_pos v.w.z 0).1
        omega
    subst this
    rfl
  | m + 1, k, h => by
    rw [cntE]
    match k, h with
    | 0, h =>
      have hE : S.E (m : Int) = e0 := by
        refine E_none ?_
        cases hl : lk S.ents (m : Int) with
        | none => rfl
        | some e =>
          obtain ⟨i, hi⟩ := is_at v.w.z (v.e _ e hl).2.1
          have := (h i).2 (by omega)
          omega
      rw [if_pos hE, cnt_recl v m 0 fun i => ⟨fun x => by omega, fun x => (h i).2 (by omega)⟩]
      rfl
    | j + 1, h =>
      have hj := (h j).1 (by omega)
      by_cases hjm : S.at j = (m : Int)
      · rw [cnt_recl v m j fun i => ⟨fun x => by have := at_lt v.w.z x; omega, fun x => by
          have h1 := (h i).2 (by omega)
          rcases Nat.lt_or_ge i j with h2 | h2
          · exact h2
          · have : i = j := by omega
            subst this
            omega⟩]
        rw [recl, List.length_append, hjm]
        cases hl : lk S.ents (m : Int) with
        | none => rw [if_pos (E_none hl)]; rfl
        | some e =>
          have hE : S.E (m : Int) = e := by unfold Ls.E; rw [hl]; rfl
          rw [hE, if_neg (v.e _ e hl).1]
          rfl
      · have hE : S.E (m : Int) = e0 := by
          refine E_none ?_
          cases hl : lk S.ents (m : Int) with
          | none => rfl
          | some e =>
            obtain ⟨i, hi⟩ := is_at v.w.z (v.e _ e hl).2.1
            have h1 := (h i).2 (by omega)
            rcases Nat.lt_or_ge i j with h2 | h2
            · have := at_lt v.w.z h2
              omega
            · have : i = j := by omega
              subst this
              exact absurd hi.symm hjm
        rw [if_pos hE, cnt_recl v m (j + 1) fun i => ⟨fun x => by
          rcases Nat.lt_or_ge i j with h2 | h2
          · have := at_lt v.w.z h2
            omega
          · have : i = j := by omega
            subst this
            omega, fun x => (h i).2 (by omega)⟩]
        rfl
end Go.Proofs.Ytmpnldmdchchjaa
