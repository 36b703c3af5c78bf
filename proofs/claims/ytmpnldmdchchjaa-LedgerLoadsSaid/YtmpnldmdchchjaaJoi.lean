import Derived.Test.YtmpnldmdchchjaaFk
import Derived.Test.YtmpnldmdchchjaaVws
namespace Go.Proofs.Ytmpnldmdchchjaa
open Go Go.Ideal Go.ChangeShapes Go.RowKit
set_option maxHeartbeats 0
set_option linter.unusedSimpArgs false
set_option linter.unusedVariables false
set_option maxRecDepth 100000
attribute [local irreducible] callV T.All T.Is run
theorem mem_recl {S : Ls} : ∀ (k : Nat), ∀ p ∈ recl S k, lk S.ents p.1 = some p.2 ∧ ∃ i, i < k ∧ p.1 = S.at i
  | 0, p, h => by cases h
  | k + 1, p, h => by
    rw [recl, List.mem_append] at h
    rcases h with h | h
    · obtain ⟨h1, i, h2, h3⟩ := mem_recl k p h
      exact ⟨h1, i, by omega, h3⟩
    · cases hl : lk S.ents (S.at k) with
      | none => rw [hl] at h; cases h
      | some e =>
        rw [hl] at h
        have h1 : p = (S.at k, e) := by simpa using h
        subst h1
        exact ⟨hl, k, by omega, rfl⟩
theorem recl_rk {S : Ls} (v : Nv S) {k : Nat} {ws : List Wr} (h : ws.map (fun w => (w.c, w.e)) = recl S k) : (ws.map toR).map rkey = rkeys (recl S k) := by
  unfold rkeys
  rw [← h, List.map_map, List.map_map]
  refine List.map_congr_left fun w hw => ?_
  have hm : (w.c, w.e) ∈ recl S k := by
    rw [← h]
    exact List.mem_map.2 ⟨w, hw, rfl⟩
  have hl := (mem_recl k _ hm).1
  have hne := (v.e _ _ hl).1
  show (3, w.c, bE w.e) = (3, w.c, b5 w.e)
  unfold bE
  rw [if_neg hne]
theorem at_pos0 {S : Ls} (z : Sz S) (i : Nat) : 0 ≤ S.at i := (at_pos z i).1
theorem recl_w {S : Ls} (v : Nv S) {ws : List Wr} (h : ws.map (fun w => (w.c, w.e)) = recl S S.N) {w : Wr} (hw : w ∈ ws) : 0 ≤ w.c ∧ w.c < S.cells ∧ S.E w.c = w.e := by
  have hm : (w.c, w.e) ∈ recl S S.N := by
    rw [← h]
    exact List.mem_map.2 ⟨w, hw, rfl⟩
  obtain ⟨h1, i, h2, h3⟩ := mem_recl _ _ hm
  simp only at h1 h3
  have h4 := (lt_N v.w.z i).1 h2
  have h5 := at_pos0 v.w.z i
  refine ⟨by omega, by omega, ?_⟩
  unfold Ls.E
  rw [h1]
  rfl
theorem recl_cnt {S : Ls} (v : Nv S) {ws : List Wr} (h : ws.map (fun w => (w.c, w.e)) = recl S S.N) {C : Nat} (hC : S.cells = (C : Int)) : cntE S C = ws.length := by
  rw [cnt_recl v C S.N fun i => by rw [lt_N v.w.z i, hC], ← h, List.length_map]
theorem cntE_succ (S : Ls) (m : Nat) : (cntE S (m + 1) : Int) = (cntE S m : Int) + (if S.E (m : Int) = e0 then 0 else 1) := by
  rw [cntE]
  split <;> simp
theorem cntE_le (S : Ls) : ∀ m, cntE S m ≤ m
  | 0 => Nat.le_refl _
  | m + 1 => by
    have := cntE_le S m
    rw [cntE]
    split <;> omega
theorem lw_wf {S : Ls} (v : Nv S) : Wf (lw S (recl S S.N)) := by
  obtain ⟨z1, z2, z3, z4, z5, z6⟩ := v.w.z
  refine ⟨⟨z1, z2, z3, z4, z5, z6⟩, fun c => ?_, fun x _ => rfl, fun x => Nat.zero_le _⟩
  show 0 ≤ ((lk (recl S S.N) c).getD e0).g ∧ ((lk (recl S S.N) c).getD e0).g ≤ 4294967295
  cases h : lk (recl S S.N) c with
  | none => show 0 ≤ e0.g ∧ e0.g ≤ 4294967295; decide
  | some e =>
    have h1 := (mem_recl _ _ (lk_mem h)).1
    have h2 := v.w.g c
    unfold Ls.E at h2
    rw [h1] at h2
    exact h2
theorem recl_lw' {S : Ls} (v : Nv S) : recl (lw S (recl S S.N)) (lw S (recl S S.N)).N = recl S S.N := recl_lw v.w.z S.N (Nat.le_refl _)
theorem len_stat {S S' : Ls} {r e : Int} {L : List En} {o' : Ou} (w : Wf S) (h : StatIs S r L e S' o') : o'.ws.length ≤ 2048 := by
  rcases h with ⟨_, _, rfl, rfl⟩ | ⟨_, _, W0, Sk, h1, h2, rfl⟩
  · exact Nat.zero_le _
  · have h3 := (stto_wf (gn_wf w h1) h2).2.2.1
    have h4 := N_le w.z
    omega
theorem len_rel {S S' : Ls} {r c k e : Int} {o' : Ou} (w : Wf S) (h : RelIs S r c k e S' o') : o'.ws.length ≤ 2048 := by
  rcases h with ⟨_, _, rfl, rfl⟩ | ⟨hr, _, _, h⟩ | ⟨_, _, _, rfl, rfl⟩
  · exact Nat.zero_le _
  · have h3 := (free_len w h).1
    have h4 : oz.ws.length = 0 := rfl
    omega
  · exact Nat.zero_le _
theorem len_req {S S' : Ls} {w : It} {c e : Int} {o' : Ou} (h : ReqIs S w c e S' o') : o'.ws.length ≤ 2048 := by
  rcases h with ⟨_, _, rfl, rfl⟩ | ⟨_, _, _, rfl, rfl⟩ | ⟨hf, _, _, ⟨_, rfl, rfl⟩ | ⟨ho, d, rfl, rfl⟩ | ⟨h1, h2, qs', a, er, l', h3, h4, rfl, rfl⟩⟩
  · exact Nat.zero_le _
  · exact Nat.zero_le _
  · exact Nat.zero_le _
  · unfold Ou.grant
    split
    · exact Nat.zero_le _
    · show 1 ≤ 2048
      omega
  · unfold Ou.waits
    split
    · exact Nat.zero_le _
    · exact Nat.zero_le _
theorem apw_take (f : Int → En) {ws : List Wr} {j : Nat} {w : Wr} (h : ws[j]? = some w) {n : Nat} (hn : w.c = (n : Int)) (C : Nat) : sl (fun x => if x = (n : Int) then w.e else apw f (ws.take j) x) C = sl (apw f (ws.take (j + 1))) C := by
  refine sl_congr (fun x => ?_) C
  rw [List.take_add_one, h, apw_append]
  show _ = (if x = w.c then w.e else apw f (ws.take j) x)
  rw [hn]
section
variable {ro : Nat → Option (List Value × Nat)} {h : Heap} {R : List Rs}
theorem jr0 (O : Has ro h R) : Has ro h (Sc 3 wc (.slice none 0 0) [] :: Dts [] :: R) := Has.scNil (Has.all.2 O)
theorem jr1 {b : Nat} {w : Wr} (O : Has ro h (Ob b (.cells [.int .i64 3, .int .i64 w.c, dvv w.d] 3 false) :: Dt w.d w.e :: R)) : Has ro h (Sc 3 wc (.slice (some ⟨b, 0, none⟩) 1 1) [w] :: Dts [w] :: R) := by
  have O1 : Has ro h (Ob b (.cells (([w] : List Wr).flatMap wc ++ []) 3 false) :: Dts [w] :: R) := (Has.all.2 (show Has ro h ([Dt w.d w.e] ++ (Ob b (.cells [.int .i64 3, .int .i64 w.c, dvv w.d] 3 false) :: R)) from O.swap2)).swap2
  exact Has.scClose (zz := 3) (t := false) (rest := []) (c := 1) rfl (Nat.le_refl _) rfl (Or.inr rfl) O1
theorem oo_open {wv pv bv : Value} {o : Ou} {p : Rs} (O : Has ro h (p :: Oo wv pv bv o :: R)) : (∃ q c, wv = .slice q o.ws.length c) ∧ (∃ q l c, pv = .slice q l c) ∧ (∃ q l c, bv = .slice q l c) ∧ Has ro h (Sc 3 wc wv o.ws :: Dts o.ws :: p :: R) := by
  have O2 := Has.all.1 O.swap2
  simp only [List.cons_append, List.nil_append] at O2
  obtain ⟨q1, c1, e1, _⟩ := O2.scVal 0 rfl
  obtain ⟨q2, c2, e2, _⟩ := O2.scVal 1 rfl
  obtain ⟨q3, c3, e3, _⟩ := O2.scVal 2 rfl
  exact ⟨⟨q1, c1, e1⟩, ⟨q2, _, c2, e2⟩, ⟨q3, _, c3, e3⟩, (O2.rid 1 rfl).rid 1 rfl⟩
theorem pla_rv {S S' : Ls} {c r e : Int} {rv : Value} {D : Rs} (h : PlaIs S c r e S' rv D) : ∃ cs : Array Value, rv = .agg cs ∧ cs.toList.length = 3 ∧ cs.toList.all oneCell = true := by
  rcases h with ⟨_, _, _, e, _⟩ | ⟨_, _, _, _, e, _⟩ | ⟨_, _, _, _, d, e, _⟩
  · exact ⟨_, e, rfl, rfl⟩
  · exact ⟨_, e, rfl, rfl⟩
  · exact ⟨_, e, wc_len _, wc_one _⟩
end
end Go.Proofs.Ytmpnldmdchchjaa
