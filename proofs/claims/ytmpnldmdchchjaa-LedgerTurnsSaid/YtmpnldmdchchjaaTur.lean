/-
  The law LedgerTurns holds: the call answers true whatever priorities and stamps it is handed, whatever the machine chooses, and nothing that was there before it is changed; no condition.
-/
import Derived.Test.YtmpnldmdchchjaaFk
import Derived.Test.YtmpnldmdchchjaaAli
namespace Go.Proofs.Ytmpnldmdchchjaa
open Go Go.Ideal Go.ChangeShapes Go.RowKit
set_option maxHeartbeats 0
set_option linter.unusedSimpArgs false
set_option linter.unusedVariables false
set_option maxRecDepth 100000
attribute [local irreducible] callV T.All T.Is run
theorem env5 : env 5 = some ir5 := rfl
def u8c (x : Int) : List Value := [.int .u8 x]
def u16c (x : Int) : List Value := [.int .u16 x]
theorem u8c_len (x : Int) : (u8c x).length = 1 := rfl
theorem u16c_len (x : Int) : (u16c x).length = 1 := rfl
def at0 (l : List Int) (i : Nat) : Int := l.getD i 0
theorem at0_get {l : List Int} {i : Nat} (h : i < l.length) : l[i]? = some (at0 l i) := by
  unfold at0
  rw [List.getD_eq_getElem?_getD, List.getElem?_eq_getElem h]
  rfl
/-- What each robot asks for. -/
def wt (P T : List Int) (k : Nat) : It := ⟨(k : Int), at0 T k * 32 + (k : Int), at0 P k % 16⟩
structure Cm (S : Ls) (N : Nat) : Prop where
  w : Wf S
  h : S.home = 0
  r : S.rob = (N : Int)
  c : S.cells = (N : Int)
theorem Cm.is {S : Ls} {N : Nat} (m : Cm S N) : S.Is 0 := by
  have h1 := m.w.z.r1
  have h2 := m.w.z.c1
  exact ⟨by omega, by omega, by omega, by rw [m.h, Int.zero_tmod]⟩
theorem Cm.rob {S : Ls} {N : Nat} (m : Cm S N) {r : Int} (h0 : 0 ≤ r) (h1 : r < (N : Int)) : S.Rob r := by
  have h2 := m.w.z.r1
  exact ⟨by omega, h0, by rw [m.r]; exact h1⟩
theorem Cm.same {S S' : Ls} {N : Nat} (m : Cm S N) (h : Wf S' ∧ S.Same S') : Cm S' N := ⟨h.1, h.2.1.trans m.h, h.2.2.1.trans m.r, h.2.2.2.trans m.c⟩
/-- Behind the first statuses. -/
structure I1 (S : Ls) (N k : Nat) : Prop where
  m : Cm S N
  e : ∀ c, S.E c = e0
  w : ∀ c, S.W c = []
  t : ∀ r : Int, 0 ≤ r → r < (k : Int) → 0 < S.T r
theorem I1.zero {N : Nat} (h : Szs 0 N N) : I1 (lz 0 N N) N 0 := ⟨⟨lz_wf h, rfl, rfl, rfl⟩, fun _ => rfl, fun _ => rfl, fun r h0 h1 => by omega⟩
theorem T_upd (S : Ls) (r x v : Int) : ({ S with told := upd1 S.told r v } : Ls).T x = if x = r then v else S.T x := by
  unfold Ls.T
  show (lk (upd1 S.told r v) x).getD 0 = _
  rw [lk_upd]
  split <;> rfl
theorem gn_nil {S : Ls} {r : Int} {n : Nat} {W : Int → List It} (h : ∀ c, S.W c = []) (g : Gn S r n W) (c : Int) : W c = [] := by
  by_cases h1 : ∃ i, i < n ∧ c = S.at i
  · obtain ⟨i, hi, rfl⟩ := h1
    obtain ⟨a, hc⟩ := g.on i hi
    have := cutis_len hc
    rw [h] at this
    exact List.eq_nil_of_length_eq_zero (by simpa using this)
  · rw [g.off c fun i hi e => h1 ⟨i, hi, e⟩, h]
theorem stto_none {S0 : Ls} {r : Int} {L : List En} (hr : 0 ≤ r) (h : ∀ c, (S0.E c).o = -1) : ∀ {k : Nat} {S' : Ls} {o' : Ou}, StTo S0 r L k S' o' → S' = S0
  | 0, S', o', hs => hs.1
  | k + 1, S', o', ⟨S1, o1, h1, hs⟩ => by
    have := stto_none hr h h1
    subst this
    rcases hs with ⟨⟨e, _⟩, _⟩ | ⟨_, rfl, _⟩
    · rw [h] at e; omega
    · rfl
theorem I1.next {S S' : Ls} {N k : Nat} {e : Int} {o' : Ou} (i : I1 S N k) (hk : k < N) (h : StatIs S (k : Int) [] e S' o') : I1 S' N (k + 1) := by
  have hw := stat_wf i.m.w h
  rcases h with ⟨hr, _⟩ | ⟨hr, _, W0, Sk, g, hs, rfl⟩
  · exact absurd (i.m.rob (by omega) (by omega)) hr
  · have hk0 := stto_none (by omega) (fun c => by show (S.E c).o = -1; rw [i.e]; rfl) hs
    subst hk0
    refine ⟨i.m.same hw, i.e, fun c => gn_nil i.w g c, fun r h0 h1 => ?_⟩
    rw [T_upd]
    split
    · decide
    · exact i.t r h0 (by omega)
/-- Behind the first requests. -/
structure I2 (S : Ls) (N k : Nat) : Prop where
  m : Cm S N
  t : ∀ r : Int, 0 ≤ r → r < (N : Int) → 0 < S.T r
  z : k = 0 → S.E 0 = e0 ∧ S.W 0 = []
  p : 0 < k → S.E 0 = ⟨0, 1⟩ ∧ (S.W 0).length = min (k - 1) 8 ∧ ∀ x ∈ S.W 0, 0 ≤ x.r ∧ x.r < (k : Int)
theorem I2.zero {S : Ls} {N : Nat} (i : I1 S N N) : I2 S N 0 := ⟨i.m, i.t, fun _ => ⟨i.e 0, i.w 0⟩, fun h => by omega⟩
theorem nth_mem {l : List It} {i : Nat} (h : i < l.length) : nth l i ∈ l := List.mem_of_getElem? (nth_get h)
theorem put_new {l l' : List It} {x : It} {a : Bool} {e : Int} (hb : ¬ BadW x) (hn : ∀ y ∈ l, y.r ≠ x.r) (h8 : l.length ≤ 8) (h : PutIs l x a e l') : l'.length = min (l.length + 1) 8 ∧ ∀ y ∈ l', y ∈ l ∨ y = x := by
  rcases h with ⟨b, _⟩ | ⟨_, _, h8', _, _, rfl⟩ | ⟨_, _, _, l2, hp, hl, hc, _⟩
  · exact absurd b hb
  · exact ⟨by omega, fun y hy => Or.inl hy⟩
  · rcases hp with ⟨_, hlt, rfl⟩ | ⟨i, hp, hi, _⟩
    · refine ⟨by rw [hl, List.length_append]; show l.length + 1 = _; omega, fun y hy => ?_⟩
      have h1 : 0 < l'.count y := List.count_pos_iff.2 hy
      rw [hc] at h1
      have h2 := List.count_pos_iff.1 h1
      simpa using h2
    · rcases hp with ⟨e, _⟩ | ⟨j, e, hj, hr, _⟩
      · omega
      · have : i = j := by omega
        subst this
        exact absurd hr (hn _ (nth_mem hi))
theorem I2.next {S S' : Ls} {N k : Nat} {w : It} {e : Int} {o' : Ou} (i : I2 S N k) (hk : k < N) (hN : N ≤ 64) (hw : w.r = (k : Int)) (hp : 0 ≤ w.p ∧ w.p ≤ 15) (h : ReqIs S w 0 e S' o') : I2 S' N (k + 1) := by
  have hwf := req_wf i.m.w h
  have hfine : S.Fine w.r 0 w.p := ⟨i.m.rob (by omega) (by omega), i.m.is, hp.1, hp.2⟩
  have ht : 0 < S.T w.r := i.t _ (by omega) (by omega)
  rcases h with ⟨hf, _⟩ | ⟨_, hf, _⟩ | ⟨_, _, _, h⟩
  · exact absurd hfine hf
  · exact absurd ht hf
  · rcases h with ⟨ho, _⟩ | ⟨ho, d, rfl, _⟩ | ⟨h1, h2, qs', a, er, l', hq, hpt, rfl, _⟩
    · rcases Nat.eq_zero_or_pos k with hz | hz
      · rw [(i.z hz).1] at ho
        have : (-1 : Int) = w.r := ho
        omega
      · rw [(i.p hz).1] at ho
        have : (0 : Int) = w.r := ho
        omega
    · have hz : k = 0 := by
        rcases Nat.eq_zero_or_pos k with hz | hz
        · exact hz
        · rw [(i.p hz).1] at ho
          have : (0 : Int) = -1 := ho
          omega
      subst hz
      obtain ⟨z1, z2⟩ := i.z rfl
      have hg : S.grant w 0 = S.set 0 ⟨w.r, (S.E 0).g + 1⟩ := by
        unfold Ls.grant
        rw [z1]
        rfl
      rw [hg] at hwf ⊢
      refine ⟨i.m.same hwf, i.t, fun x => by omega, fun _ => ⟨?_, ?_, fun x hx => ?_⟩⟩
      · rw [E_set, if_pos rfl, z1, hw]; rfl
      · show (S.W 0).length = _
        rw [z2]; rfl
      · have hx' : x ∈ S.W 0 := hx
        rw [z2] at hx'
        cases hx'
    · have hz : 0 < k := by
        rcases Nat.eq_zero_or_pos k with hz | hz
        · rw [(i.z hz).1] at h2
          exact absurd rfl h2
        · exact hz
      obtain ⟨p1, p2, p3⟩ := i.p hz
      have hb : ¬ BadW w := by unfold BadW; omega
      obtain ⟨n1, n2⟩ := put_new hb (fun y hy => by have := (p3 y hy).2; omega) (i.m.w.w8 0) hpt
      refine ⟨i.m.same hwf, i.t, fun x => by omega, fun _ => ⟨p1, ?_, fun x hx => ?_⟩⟩
      · show (updW S.W 0 l' 0).length = _
        unfold updW
        rw [if_pos rfl, n1, p2]
        omega
      · have hx' : x ∈ updW S.W 0 l' 0 := hx
        unfold updW at hx'
        rw [if_pos rfl] at hx'
        rcases n2 x hx' with h | rfl
        · have := p3 x h
          omega
        · omega
/-- Behind the first that were given back. -/
structure I3 (S : Ls) (N : Nat) (L : List It) (i : Nat) (hi : Int) : Prop where
  m : Cm S N
  e : S.E 0 = ⟨hi, 1 + (i : Int)⟩
  w : S.W 0 = L.drop i
  h : 0 ≤ hi ∧ hi < (N : Int)
theorem I3.next {S S' : Ls} {N i : Nat} {L : List It} {hi e : Int} {o' : Ou} (j : I3 S N L i hi) (hL : L.length ≤ 8) (hr : ∀ x ∈ L, 0 ≤ x.r ∧ x.r < (N : Int)) (hlt : i < L.length) (h : RelIs S hi 0 (1 + (i : Int)) e S' o') :
    e = 0 ∧ I3 S' N L (i + 1) (nth L i).r ∧ o'.ps = [grt (nth L i) 0 (1 + (i : Int) + 1)] := by
  have hwf := rel_wf j.m.w h
  rcases h with ⟨hf, _⟩ | ⟨_, rfl, _, hf⟩ | ⟨_, _, hf, _⟩
  · exact absurd ⟨j.m.rob j.h.1 j.h.2, j.m.is⟩ hf
  · have hg : (S.E 0).g = 1 + (i : Int) := by rw [j.e]
    have hd : L.drop i = nth L i :: L.drop (i + 1) := by
      rw [List.drop_eq_getElem_cons hlt]
      congr 1
      have := nth_get hlt
      rw [List.getElem?_eq_getElem hlt] at this
      exact Option.some.inj this
    obtain ⟨d, ⟨hm, _⟩ | ⟨_, hn, _⟩ | ⟨_, w, rest, d2, hW, hS, ho⟩⟩ := hf
    · omega
    · rw [j.w, hd] at hn
      cases hn
    · rw [j.w, hd] at hW
      injection hW with hw1 hw2
      subst hw1 hw2
      have hm := hr _ (nth_mem hlt)
      refine ⟨rfl, ⟨j.m.same hwf, ?_, ?_, hm⟩, ?_⟩
      · have e1 : (1 : Int) + (i : Int) + 1 = 1 + ((i + 1 : Nat) : Int) := by omega
        rw [hS, E_set, if_pos rfl, hg, e1]
      · rw [hS, W_set, W_setW, if_pos rfl]
      · rw [ho, hg]
        rfl
  · exact absurd j.e hf
theorem I3.last {S S' : Ls} {N i : Nat} {L : List It} {hi e : Int} {o' : Ou} (j : I3 S N L i hi) (hL : L.length ≤ 8) (hlt : i = L.length) (h : RelIs S hi 0 (1 + (i : Int)) e S' o') : Cm S' N ∧ (S'.E 0).o = -1 := by
  have hwf := rel_wf j.m.w h
  rcases h with ⟨hf, _⟩ | ⟨_, rfl, _, hf⟩ | ⟨_, _, hf, _⟩
  · exact absurd ⟨j.m.rob j.h.1 j.h.2, j.m.is⟩ hf
  · have hg : (S.E 0).g = 1 + (i : Int) := by rw [j.e]
    have hd : S.W 0 = [] := by rw [j.w, hlt, List.drop_length]
    refine ⟨j.m.same hwf, ?_⟩
    obtain ⟨d, ⟨hm, _⟩ | ⟨_, hn, hS, _⟩ | ⟨_, w, rest, d2, hW, hS, ho⟩⟩ := hf
    · omega
    · rw [hS, E_set, if_pos rfl]
    · rw [hd] at hW
      cases hW
  · exact absurd j.e hf
end Go.Proofs.Ytmpnldmdchchjaa
