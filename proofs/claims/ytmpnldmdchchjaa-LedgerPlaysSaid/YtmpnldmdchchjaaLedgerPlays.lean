import Derived.Test.YtmpnldmdchchjaaFk
import Derived.Test.YtmpnldmdchchjaaSim
import Derived.Test.YtmpnldmdchchjaaRows
namespace Go.Proofs.Ytmpnldmdchchjaa
open Go Go.Ideal Go.ChangeShapes Go.RowKit
set_option maxHeartbeats 0
set_option linter.unusedSimpArgs false
set_option linter.unusedVariables false
set_option maxRecDepth 100000
attribute [local irreducible] callV T.All T.Is run
theorem env22 : env 22 = some ir22 := rfl
structure Bal (o : Ou) : Prop where
  b : o.bs.length = o.ps.length
  w : o.ws.length ≤ 2048
  p : o.ps.length ≤ 8192
theorem bal_oz : Bal oz := ⟨rfl, Nat.zero_le _, Nat.zero_le _⟩
theorem bal_free {S S' : Ls} {o o' : Ou} {c : Int} (h : FreeTo S o c S' o') (b : o.bs.length = o.ps.length) : o'.bs.length = o'.ps.length := by
  obtain ⟨d, ⟨_, _, rfl⟩ | ⟨_, _, _, rfl⟩ | ⟨hg, x, rest, d2, hW, _, rfl⟩⟩ := h
  · obtain ⟨_, e2, e3⟩ := denies_len (S.W c) (o.wr c ⟨-1, (S.E c).g⟩ d) (c := c)
    rw [e2, e3]
    show o.bs.length + _ = o.ps.length + _
    omega
  · exact b
  · simp only [Ou.wr, Ou.post, List.length_append, List.length_cons, List.length_nil]
    omega
theorem bal_stto {S0 : Ls} {r : Int} {L : List En} : ∀ {k : Nat} {S' : Ls} {o' : Ou}, StTo S0 r L k S' o' → o'.bs.length = o'.ps.length
  | 0, S', o', ⟨_, h2⟩ => by subst h2; rfl
  | k + 1, S', o', ⟨S1, o1, h, hs⟩ => by
    have b := bal_stto h
    rcases hs with ⟨_, hf⟩ | ⟨_, rfl, rfl⟩
    · exact bal_free hf b
    · exact b
theorem bal_stat {S S' : Ls} {r e : Int} {L : List En} {o' : Ou} (w : Wf S) (h : StatIs S r L e S' o') : Bal o' := by
  have hl := len_stat w h
  rcases h with ⟨_, _, rfl, rfl⟩ | ⟨_, _, W0, Sk, h1, h2, rfl⟩
  · exact bal_oz
  · have h3 := (stto_wf (gn_wf w h1) h2).2.2.2.1
    have h4 := N_le w.z
    exact ⟨bal_stto h2, hl, by omega⟩
theorem bal_rel {S S' : Ls} {r c k e : Int} {o' : Ou} (w : Wf S) (h : RelIs S r c k e S' o') : Bal o' := by
  have hl := len_rel w h
  rcases h with ⟨_, _, rfl, rfl⟩ | ⟨hr, _, _, h⟩ | ⟨_, _, _, rfl, rfl⟩
  · exact bal_oz
  · have h3 := (free_len w h).2.1
    have h4 : oz.ps.length = 0 := rfl
    exact ⟨bal_free h rfl, hl, by omega⟩
  · exact bal_oz
theorem bal_req {S S' : Ls} {w : It} {c e : Int} {o' : Ou} (h : ReqIs S w c e S' o') : Bal o' := by
  have hl := len_req h
  rcases h with ⟨_, _, rfl, rfl⟩ | ⟨_, _, _, rfl, rfl⟩ | ⟨hf, _, _, ⟨_, rfl, rfl⟩ | ⟨ho, d, rfl, rfl⟩ | ⟨h1, h2, qs', a, er, l', h3, h4, rfl, rfl⟩⟩
  · exact bal_oz
  · exact bal_oz
  · exact ⟨rfl, hl, by show 1 ≤ 8192; omega⟩
  · refine ⟨?_, hl, ?_⟩
    · unfold Ou.grant
      split <;> rfl
    · unfold Ou.grant
      split <;> exact (show 1 ≤ 8192 by omega)
  · refine ⟨?_, hl, ?_⟩
    · unfold Ou.waits
      split <;> rfl
    · unfold Ou.waits
      split
      · exact (show 3 ≤ 8192 by omega)
      · exact (show 1 ≤ 8192 by omega)
def pkey (c r : Int) : Int × Int × List Nat := (3, c, bE ⟨r, 1⟩)
def pkey0 : Int × Int × List Nat := (0, 0, [])
section
variable {ro : Nat → Option (List Value × Nat)} {h : Heap} {R : List Rs} {n lb rb : Nat} {S : Ls} {F : Rf}
theorem dt_vw {d : Option Nat} {e : En} (i : Nat) {L : List Rs} (O : Has ro h L) (hi : L[i]? = some (Dt d e)) : Vw 1 bx h (dvv d) (bE e) := Has.dtVw (O.at i hi)
theorem dvv_one (d : Option Nat) : oneCell (dvv d) = true := by cases d <;> rfl
def PRec (D : Rs) (key : Int × Int × List Nat) (rv : Value) : Prop := ∃ X : Rq, rv = .agg #[.int .i64 X.kd, .int .i64 X.nn, X.dv] ∧ oneCell X.dv = true ∧ (∀ (ro : Nat → Option (List Value × Nat)) (h : Heap) (L : List Rs) (i : Nat), Has ro h L → L[i]? = some D → Vw 1 bx h X.dv X.B) ∧ rkey X = key
theorem prec0 : PRec Rs.emp pkey0 (.agg #[.int .i64 0, .int .i64 0, .slice none 0 0]) := ⟨⟨0, 0, .slice none 0 0, []⟩, rfl, rfl, fun ro h L i O _ => Vw.nil h none 0, rfl⟩
theorem prec1 (c r : Int) (d : Option Nat) : PRec (Dt d ⟨r, 1⟩) (pkey c r) (.agg (wc ⟨c, ⟨r, 1⟩, d⟩).toArray) := ⟨toR ⟨c, ⟨r, 1⟩, d⟩, rfl, dvv_one d, fun ro h L i O hi => dt_vw i O hi, rfl⟩
theorem pla_rq {S S' : Ls} {c r e : Int} {rv : Value} {D : Rs} (h : PlaIs S c r e S' rv D) : PRec D (if (S.Is c ∧ S.Rob r) ∧ S.E c = e0 then pkey c r else pkey0) rv := by
  rcases h with ⟨n1, _, _, rfl, rfl⟩ | ⟨n1, n2, _, _, rfl, rfl⟩ | ⟨n1, n2, _, _, d, rfl, rfl⟩
  · rw [if_neg (fun x => n1 x.1)]; exact prec0
  · rw [if_neg (fun x => n2 x.2)]; exact prec0
  · rw [if_pos ⟨n1, n2⟩]; exact prec1 c r d
theorem rpla_rq {S : Ls} {F F' : Rf} {c r e : Int} {rv : Value} {D : Rs} (m : Sim S F) (h : RPla F c r e F' rv D) : PRec D (if (S.Is c ∧ S.Rob r) ∧ S.E c = e0 then pkey c r else pkey0) rv := by
  unfold RPla at h
  rw [sim_rob m, sim_is m] at h
  have hE : S.Is c → F.E c.toNat = S.E c := fun hi => by
    have := m.e c.toNat
    rw [Int.toNat_of_nonneg hi.2.1] at this
    exact this
  rcases h with ⟨n1, _, _, rfl, rfl⟩ | ⟨n1, n2, _, _, rfl, rfl⟩ | ⟨n1, n2, _, _, d, rfl, rfl⟩
  · rw [if_neg (fun x => n1 x.1)]; exact prec0
  · rw [if_neg (fun x => n2 (by rw [hE n1.1]; exact x.2))]; exact prec0
  · rw [if_pos ⟨n1, by rw [← hE n1.1]; exact n2⟩]; exact prec1 c r d
theorem vw_one {b : Nat} {X : Rq} (O : Has ro h (Ob b (.cells [.int .i64 X.kd, .int .i64 X.nn, X.dv] 3 false) :: R)) : Vw 3 rq h (.slice (some ⟨b, 0, none⟩) 1 1) [X] := by
  have g := O.get 0 rfl
  have i := O.info (i := 0) rfl
  exact ⟨some ⟨b, 0, none⟩, 1, rfl, Nat.le_refl _, fun _ => ⟨b, 0, none, [], [], 3, false, rfl, Or.inl rfl, rfl, by rw [g]; rfl, Or.inr i.2.2.2.1⟩⟩
theorem step_h {x : Cq} (ok : OkQ ro x) (h40 : x.L.length ≤ 40) (m : Sim S F) (hn : 12000 < n) (O : Has ro h (Lg lb S :: Rg rb F :: R)) :
    (callV env (n + 21) (.func (.func 22) #[] #[]) [.pointer (some ⟨lb, 0, none⟩), .pointer (some ⟨rb, 0, none⟩), .agg (cq x).toArray] h).Is fun p => p.1 = .bool true ∧ ∃ S' F', Sim S' F' ∧ S.Same S' ∧ Has ro p.2 (Lg lb S' :: Rg rb F' :: R) := by
  have nv := m.v
  have rw0 := sim_rw m
  obtain ⟨xp, xc, hxv⟩ := ok.s
  refine call_is env22 ?_
  have hcq : Value.agg (cq x).toArray = .agg #[.int .i64 x.kd, .int .i64 x.rb, .int .i64 x.cell, .int .u32 x.gen, .int .u64 x.st, .int .i64 x.pr, .slice xp x.L.length xc] := by unfold cq; rw [hxv]
  rw [hcq]
  simp (disch := first | assumption | omega | (simp only [wkX, *]; done) | (simp only [wkY]; omega)) only [ir22, Nat.reduceAdd, Nat.reduceSub, wkF, X_seq, Y_store, Y_makeMap, Y_buildSlice, ↓reduceIte, reduceCtorEq, wkO, wkS, Nat.reduceLeDiff, Nat.reduceMul, Nat.reduceLT, Nat.reduceEqDiff, wkN, wkG]
  refine Y_boxO O ?_
  intro b5 h1 O1 _
  replace O1 : Has ro h1 (Lg lb S :: Ob b5 (.cells [.int .i64 x.kd, .int .i64 x.rb, .int .i64 x.cell, .int .u32 x.gen, .int .u64 x.st, .int .i64 x.pr, .slice xp x.L.length xc] 1 false) :: Rg rb F :: R) := O1.at 1 rfl
  clear O
  have g5 := O1.get 1 rfl
  by_cases d0 : x.kd = 0
  · have d0' : (x.kd = 0) = True := eq_true d0
    simp (disch := first | assumption | omega | (simp only [wkX, *]; done) | (simp only [wkY]; omega)) only [g5, d0', wkF, X_seq, Y_store, Y_makeMap, Y_buildSlice, ↓reduceIte, reduceCtorEq, wkO, wkS, Nat.reduceAdd, Nat.reduceLeDiff, Nat.reduceMul, Nat.reduceLT, Nat.reduceEqDiff, wkG]
    refine Z_is (place_h' (n := n + 10) x.cell x.rb nv.w O1) ?_
    rintro v h2 ⟨rv, e, S', D, rfl, hp, O2⟩
    simp only at O2
    obtain ⟨X, rfl, x1, xd, xk⟩ := pla_rq hp
    simp (disch := first | assumption | omega | (simp only [wkX, *]; done) | (simp only [wkY]; omega)) only [wkF, X_seq, Y_store, Y_makeMap, Y_buildSlice, ↓reduceIte, reduceCtorEq, wkO, wkS, Nat.reduceAdd, Nat.reduceLeDiff, Nat.reduceMul, Nat.reduceLT, Nat.reduceEqDiff, wkG]
    refine Y_boxO O2 ?_
    intro b7 h3 O3 _
    replace O3 : Has ro h3 (Ob b7 (.cells [.int .i64 0, .int .i64 0, .slice none 0 0] 1 false) :: Lg lb S' :: D :: Ob b5 (.cells [.int .i64 x.kd, .int .i64 x.rb, .int .i64 x.cell, .int .u32 x.gen, .int .u64 x.st, .int .i64 x.pr, .slice xp x.L.length xc] 1 false) :: Rg rb F :: R) := O3
    have g7 := O3.get 0 rfl
    have p7 := O3.can 0 rfl
    have O4 := O3.set 0 rfl (.cells [.int .i64 X.kd, .int .i64 X.nn, X.dv] 1 false)
    simp only [List.set_cons_zero] at O4
    have one : ([.int .i64 X.kd, .int .i64 X.nn, X.dv] : List Value).all oneCell = true := by
      show (true && (true && (oneCell X.dv && true))) = true
      rw [x1]
      rfl
    simp (disch := first | assumption | omega | (simp only [wkX, *]; done) | (simp only [wkY]; omega)) only [g7, p7, st3, s3, one, wkF, Y_box, Y_store, Y_makeMap, Y_buildSlice, ↓reduceIte, reduceCtorEq, wkS, Nat.reduceAdd, Nat.reduceLeDiff, Nat.reduceMul, Nat.reduceLT, Nat.reduceEqDiff, wkG]
    generalize h3.setB b7 _ = h4 at O4 ⊢
    clear g5 g7 p7 O3 O2 O1
    replace O4 : Has ro h4 (Rg rb F :: Ob b7 (.cells [.int .i64 X.kd, .int .i64 X.nn, X.dv] 1 false) :: Lg lb S' :: D :: Ob b5 (.cells [.int .i64 x.kd, .int .i64 x.rb, .int .i64 x.cell, .int .u32 x.gen, .int .u64 x.st, .int .i64 x.pr, .slice xp x.L.length xc] 1 false) :: R) := O4.at 4 rfl
    have g5 := O4.get 4 rfl
    rw [X_seq]
    simp (disch := first | assumption | omega | (simp only [wkX, *]; done) | (simp only [wkY]; omega)) only [g5, wkF, X_seq, Y_store, Y_makeMap, Y_buildSlice, ↓reduceIte, reduceCtorEq, wkO, wkS, Nat.reduceAdd, Nat.reduceLeDiff, Nat.reduceMul, Nat.reduceLT, Nat.reduceEqDiff, wkG]
    refine Z_is (rplace_h (n := n + 15) x.cell x.rb rw0.z O4) ?_
    rintro v h5 ⟨rv2, f, F', D', rfl, hq, O5⟩
    simp only at O5
    obtain ⟨X', rfl, y1, yd, yk⟩ := rpla_rq m hq
    obtain ⟨rfl, _, m'⟩ := sim_pla m hp hq
    simp (disch := first | assumption | omega | (simp only [wkX, *]; done) | (simp only [wkY]; omega)) only [wkF, X_seq, Y_store, Y_makeMap, Y_buildSlice, ↓reduceIte, reduceCtorEq, wkO, wkS, Nat.reduceAdd, Nat.reduceLeDiff, Nat.reduceMul, Nat.reduceLT, Nat.reduceEqDiff, wkG]
    refine Y_boxO O5 ?_
    intro b9 h6 O6 _
    replace O6 : Has ro h6 (Ob b9 (.cells [.int .i64 0, .int .i64 0, .slice none 0 0] 1 false) :: Rg rb F' :: D' :: Ob b7 (.cells [.int .i64 X.kd, .int .i64 X.nn, X.dv] 1 false) :: Lg lb S' :: D :: Ob b5 (.cells [.int .i64 x.kd, .int .i64 x.rb, .int .i64 x.cell, .int .u32 x.gen, .int .u64 x.st, .int .i64 x.pr, .slice xp x.L.length xc] 1 false) :: R) := O6
    have g9 := O6.get 0 rfl
    have p9 := O6.can 0 rfl
    have O7 := O6.set 0 rfl (.cells [.int .i64 X'.kd, .int .i64 X'.nn, X'.dv] 1 false)
    simp only [List.set_cons_zero] at O7
    have one : ([.int .i64 X'.kd, .int .i64 X'.nn, X'.dv] : List Value).all oneCell = true := by
      show (true && (true && (oneCell X'.dv && true))) = true
      rw [y1]
      rfl
    simp (disch := first | assumption | omega | (simp only [wkX, *]; done) | (simp only [wkY]; omega)) only [g9, p9, st3, s3, one, wkF, Y_box, Y_store, Y_makeMap, Y_buildSlice, ↓reduceIte, reduceCtorEq, wkS, Nat.reduceAdd, Nat.reduceLeDiff, Nat.reduceMul, Nat.reduceLT, Nat.reduceEqDiff, wkG]
    generalize h6.setB b9 _ = h7 at O7 ⊢
    clear g5 g9 p9 O6 O5 O4
    have g9 := O7.get 0 rfl
    have g7 := O7.get 3 rfl
    rw [X_seq]
    simp (disch := first | assumption | omega | (simp only [wkX, *]; done) | (simp only [wkY]; omega)) only [g9, g7, wkF, X_seq, Y_box, Y_store, Y_makeMap, ↓reduceIte, reduceCtorEq, wkO, wkS, Nat.reduceAdd, Nat.reduceLeDiff, Nat.reduceMul, Nat.reduceLT, Nat.reduceEqDiff, wkG]
    refine Y_buildSliceO O7 (cs := [.int .i64 X.kd, .int .i64 X.nn, X.dv]) rfl ?_
    intro b46 h8 O8 _
    have g9 := O8.get 1 rfl
    have g7 := O8.get 4 rfl
    simp (disch := first | assumption | omega | (simp only [wkX, *]; done) | (simp only [wkY]; omega)) only [g9, g7, wkF, X_seq, Y_box, Y_store, Y_makeMap, ↓reduceIte, reduceCtorEq, wkO, wkS, Nat.reduceAdd, Nat.reduceLeDiff, Nat.reduceMul, Nat.reduceLT, Nat.reduceEqDiff, wkG]
    refine Y_buildSliceO O8 (cs := [.int .i64 X'.kd, .int .i64 X'.nn, X'.dv]) rfl ?_
    intro b48 h9 O9 _
    replace O9 : Has ro h9 (Ob b48 (.cells [.int .i64 X'.kd, .int .i64 X'.nn, X'.dv] 3 false) :: Ob b46 (.cells [.int .i64 X.kd, .int .i64 X.nn, X.dv] 3 false) :: Ob b9 (.cells [.int .i64 X'.kd, .int .i64 X'.nn, X'.dv] 1 false) :: Rg rb F' :: D' :: Ob b7 (.cells [.int .i64 X.kd, .int .i64 X.nn, X.dv] 1 false) :: Lg lb S' :: D :: Ob b5 (.cells [.int .i64 x.kd, .int .i64 x.rb, .int .i64 x.cell, .int .u32 x.gen, .int .u64 x.st, .int .i64 x.pr, .slice xp x.L.length xc] 1 false) :: R) := O9
    simp (disch := first | assumption | omega | (simp only [wkX, *]; done) | (simp only [wkY]; omega)) only [wkF, ↓reduceIte, reduceCtorEq, Nat.reduceAdd, Nat.reduceLeDiff, Nat.reduceMul, Nat.reduceLT, Nat.reduceEqDiff, wkG, wkH]
    refine Z_is (samerec_h (n := n + 19) (A := [X]) (B := [X']) (by show 1 + 10 < n + 19; omega) (show 1 < 1000000 by omega) (by show [rkey X] = [rkey X']; rw [xk, yk]) (vw_one (O9.at 1 rfl)) (vw_one O9) (fun u hu => by
      rw [List.mem_singleton] at hu
      rw [hu]
      exact xd ro h9 _ 7 O9 rfl) (fun u hu => by
      rw [List.mem_singleton] at hu
      rw [hu]
      exact yd ro h9 _ 4 O9 rfl)) ?_
    rintro v h10 e10
    cases e10
    simp (disch := first | assumption | omega | (simp only [wkX, *]; done) | (simp only [wkY]; omega)) only [wkF, ↓reduceIte, reduceCtorEq, Nat.reduceAdd, Nat.reduceLeDiff, Nat.reduceMul, Nat.reduceLT, Nat.reduceEqDiff, wkG, wkH]
    have O10 := ((((((O9.rid 8 rfl).rid 7 rfl).rid 5 rfl).rid 4 rfl).rid 2 rfl).rid 1 rfl).rid 0 rfl
    have hs : S.Same S' := (stp_pla m.g hp).2.1
    first
      | exact leaf1 ⟨rfl, S', F', m', hs, O10.at 1 rfl⟩
      | exact leaf1 ⟨S', F', m', hs, O10.at 1 rfl⟩
  by_cases d1 : x.kd = 1
  · have d1' : (x.kd = 1) = True := eq_true d1
    simp (disch := first | assumption | omega | (simp only [wkX, *]; done) | (simp only [wkY]; omega)) only [g5, d1', d0, wkF, ↓reduceIte, reduceCtorEq, Nat.reduceAdd, Nat.reduceLeDiff, Nat.reduceMul, Nat.reduceLT, Nat.reduceEqDiff, wkG, wkH]
    refine Z_is (renewed_h (n := n + 10) x.rb nv.w (by omega) O1) ?_
    rintro v h2 ⟨S', hp, O2⟩
    simp only at O2
    have g5 := O2.get 1 rfl
    simp (disch := first | assumption | omega | (simp only [wkX, *]; done) | (simp only [wkY]; omega)) only [g5, wkF, ↓reduceIte, reduceCtorEq, Nat.reduceAdd, Nat.reduceLeDiff, Nat.reduceMul, Nat.reduceLT, Nat.reduceEqDiff, wkG, wkH]
    refine Z_is (rrenewed_h (n := n + 17) x.rb rw0 (by omega) (O2.at 2 rfl)) ?_
    rintro v h3 ⟨F', hq, O3⟩
    simp only at O3
    have m' := sim_ren m hp hq
    simp (disch := first | assumption | omega | (simp only [wkX, *]; done) | (simp only [wkY]; omega)) only [wkF, ↓reduceIte, reduceCtorEq, Nat.reduceAdd, Nat.reduceLeDiff, Nat.reduceMul, Nat.reduceLT, Nat.reduceEqDiff, wkG, wkH]
    exact leaf1 ⟨rfl, S', F', m', (stp_ren m.g hp).2.1, (O3.rid 2 rfl).at 1 rfl⟩
  by_cases d2 : x.kd = 2
  · have d2' : (x.kd = 2) = True := eq_true d2
    simp (disch := first | assumption | omega | (simp only [wkX, *]; done) | (simp only [wkY]; omega)) only [g5, d2', d0, d1, wkF, X_seq, Y_store, Y_makeMap, Y_buildSlice, ↓reduceIte, reduceCtorEq, wkO, wkS, Nat.reduceAdd, Nat.reduceLeDiff, Nat.reduceMul, Nat.reduceLT, Nat.reduceEqDiff, wkG]
    refine Z_is (status_h (n := n) (L := x.L) x.rb nv.w (by omega) (by omega) ⟨_, _, _, rfl⟩ (fun M h O => by rw [← hxv]; exact ok.v _ h O) O1) ?_
    rintro v h2 ⟨wv, pv, bv, e, S', o', rfl, hp, O2⟩
    simp only at O2
    simp (disch := first | assumption | omega | (simp only [wkX, *]; done) | (simp only [wkY]; omega)) only [wkF, X_seq, Y_store, Y_makeMap, Y_buildSlice, ↓reduceIte, reduceCtorEq, wkO, wkS, Nat.reduceAdd, Nat.reduceLeDiff, Nat.reduceMul, Nat.reduceLT, Nat.reduceEqDiff, wkG]
    refine Y_boxO O2 ?_
    intro b11 h3 O3 _
    replace O3 : Has ro h3 (Ob b11 (.cells [.slice none 0 0, .slice none 0 0, .slice none 0 0] 1 false) :: Lg lb S' :: Oo wv pv bv o' :: Ob b5 (.cells [.int .i64 x.kd, .int .i64 x.rb, .int .i64 x.cell, .int .u32 x.gen, .int .u64 x.st, .int .i64 x.pr, .slice xp x.L.length xc] 1 false) :: Rg rb F :: R) := O3
    have g7 := O3.get 0 rfl
    have p7 := O3.can 0 rfl
    have one := os_one (O3.at 2 rfl)
    have O4 := O3.set 0 rfl (.cells [wv, pv, bv] 1 false)
    simp only [List.set_cons_zero] at O4
    simp (disch := first | assumption | omega | (simp only [wkX, *]; done) | (simp only [wkY]; omega)) only [g7, p7, c3, s3, one, wkF, Y_box, Y_store, Y_makeMap, Y_buildSlice, ↓reduceIte, reduceCtorEq, wkS, Nat.reduceAdd, Nat.reduceLeDiff, Nat.reduceMul, Nat.reduceLT, Nat.reduceEqDiff, wkG]
    generalize h3.setB b11 _ = h4 at O4 ⊢
    clear g5 g7 p7 one O3 O2 O1
    replace O4 : Has ro h4 (Rg rb F :: Ob b11 (.cells [wv, pv, bv] 1 false) :: Lg lb S' :: Oo wv pv bv o' :: Ob b5 (.cells [.int .i64 x.kd, .int .i64 x.rb, .int .i64 x.cell, .int .u32 x.gen, .int .u64 x.st, .int .i64 x.pr, .slice xp x.L.length xc] 1 false) :: R) := O4.at 4 rfl
    have g5 := O4.get 4 rfl
    rw [X_seq]
    simp (disch := first | assumption | omega | (simp only [wkX, *]; done) | (simp only [wkY]; omega)) only [g5, wkF, X_seq, Y_store, Y_makeMap, Y_buildSlice, ↓reduceIte, reduceCtorEq, wkO, wkS, Nat.reduceAdd, Nat.reduceLeDiff, Nat.reduceMul, Nat.reduceLT, Nat.reduceEqDiff, wkG]
    refine Z_is (rstatus_h (n := n + 14) (L := x.L) x.rb rw0 (by omega) (by omega) (fun M h O => by rw [← hxv]; exact ok.v _ h O) O4) ?_
    rintro v h5 ⟨wv2, pv2, bv2, f, F', p', rfl, hq, O5⟩
    simp only at O5
    obtain ⟨rfl, lk', m'⟩ := sim_stat m hp hq
    simp (disch := first | assumption | omega | (simp only [wkX, *]; done) | (simp only [wkY]; omega)) only [wkF, X_seq, Y_store, Y_makeMap, Y_buildSlice, ↓reduceIte, reduceCtorEq, wkO, wkS, Nat.reduceAdd, Nat.reduceLeDiff, Nat.reduceMul, Nat.reduceLT, Nat.reduceEqDiff, wkG]
    refine Y_boxO O5 ?_
    intro b13 h6 O6 _
    replace O6 : Has ro h6 (Ob b13 (.cells [.slice none 0 0, .slice none 0 0, .slice none 0 0] 1 false) :: Rg rb F' :: Oo wv2 pv2 bv2 p' :: Ob b11 (.cells [wv, pv, bv] 1 false) :: Lg lb S' :: Oo wv pv bv o' :: Ob b5 (.cells [.int .i64 x.kd, .int .i64 x.rb, .int .i64 x.cell, .int .u32 x.gen, .int .u64 x.st, .int .i64 x.pr, .slice xp x.L.length xc] 1 false) :: R) := O6
    have g9 := O6.get 0 rfl
    have p9 := O6.can 0 rfl
    have one := os_one (O6.at 2 rfl)
    have O7 := O6.set 0 rfl (.cells [wv2, pv2, bv2] 1 false)
    simp only [List.set_cons_zero] at O7
    simp (disch := first | assumption | omega | (simp only [wkX, *]; done) | (simp only [wkY]; omega)) only [g9, p9, c3, s3, one, wkF, Y_box, Y_store, Y_makeMap, Y_buildSlice, ↓reduceIte, reduceCtorEq, wkS, Nat.reduceAdd, Nat.reduceLeDiff, Nat.reduceMul, Nat.reduceLT, Nat.reduceEqDiff, wkG]
    generalize h6.setB b13 _ = h7 at O7 ⊢
    clear g5 g9 p9 one O6 O5 O4
    have g9 := O7.get 0 rfl
    have g7 := O7.get 3 rfl
    rw [X_seq]
    simp (disch := first | assumption | omega | (simp only [wkX, *]; done) | (simp only [wkY]; omega)) only [g9, g7, wkF, ↓reduceIte, reduceCtorEq, Nat.reduceAdd, Nat.reduceLeDiff, Nat.reduceMul, Nat.reduceLT, Nat.reduceEqDiff, wkG, wkH]
    have bl := bal_stat nv.w hp
    replace O7 : Has ro h7 (Oo wv pv bv o' :: Oo wv2 pv2 bv2 p' :: Ob b13 (.cells [wv2, pv2, bv2] 1 false) :: Rg rb F' :: Ob b11 (.cells [wv, pv, bv] 1 false) :: Lg lb S' :: Ob b5 (.cells [.int .i64 x.kd, .int .i64 x.rb, .int .i64 x.cell, .int .u32 x.gen, .int .u64 x.st, .int .i64 x.pr, .slice xp x.L.length xc] 1 false) :: R) := (O7.at 2 rfl).at 5 rfl
    refine Z_is (done_h (n := n + 17) lk' bl.b (by have := bl.w; omega) (by have := bl.p; omega) (by have := bl.w; have := bl.p; omega) O7) ?_
    rintro v h8 ⟨rfl, O8⟩
    simp only at O8
    simp (disch := first | assumption | omega | (simp only [wkX, *]; done) | (simp only [wkY]; omega)) only [wkF, ↓reduceIte, reduceCtorEq, Nat.reduceAdd, Nat.reduceLeDiff, Nat.reduceMul, Nat.reduceLT, Nat.reduceEqDiff, wkG, wkH]
    have O10 := ((O8.rid 4 rfl).rid 2 rfl).rid 0 rfl
    have hs : S.Same S' := (stp_stat m.g hp).2.1
    first
      | exact leaf1 ⟨rfl, S', F', m', hs, O10.at 1 rfl⟩
      | exact leaf1 ⟨S', F', m', hs, O10.at 1 rfl⟩
  by_cases d3 : x.kd = 3
  · have d3' : (x.kd = 3) = True := eq_true d3
    simp (disch := first | assumption | omega | (simp only [wkX, *]; done) | (simp only [wkY]; omega)) only [g5, d3', d0, d1, d2, wkF, X_seq, Y_store, Y_makeMap, Y_buildSlice, ↓reduceIte, reduceCtorEq, wkO, wkS, Nat.reduceAdd, Nat.reduceLeDiff, Nat.reduceMul, Nat.reduceLT, Nat.reduceEqDiff, wkG]
    refine Z_is (request_h (n := n + 9) ⟨x.rb, x.st, x.pr⟩ x.cell nv.w (by omega) O1) ?_
    rintro v h2 ⟨wv, pv, bv, e, S', o', rfl, hp, O2⟩
    simp only at O2
    simp (disch := first | assumption | omega | (simp only [wkX, *]; done) | (simp only [wkY]; omega)) only [wkF, X_seq, Y_store, Y_makeMap, Y_buildSlice, ↓reduceIte, reduceCtorEq, wkO, wkS, Nat.reduceAdd, Nat.reduceLeDiff, Nat.reduceMul, Nat.reduceLT, Nat.reduceEqDiff, wkG]
    refine Y_boxO O2 ?_
    intro b11 h3 O3 _
    replace O3 : Has ro h3 (Ob b11 (.cells [.slice none 0 0, .slice none 0 0, .slice none 0 0] 1 false) :: Lg lb S' :: Oo wv pv bv o' :: Ob b5 (.cells [.int .i64 x.kd, .int .i64 x.rb, .int .i64 x.cell, .int .u32 x.gen, .int .u64 x.st, .int .i64 x.pr, .slice xp x.L.length xc] 1 false) :: Rg rb F :: R) := O3
    have g7 := O3.get 0 rfl
    have p7 := O3.can 0 rfl
    have one := os_one (O3.at 2 rfl)
    have O4 := O3.set 0 rfl (.cells [wv, pv, bv] 1 false)
    simp only [List.set_cons_zero] at O4
    simp (disch := first | assumption | omega | (simp only [wkX, *]; done) | (simp only [wkY]; omega)) only [g7, p7, c3, s3, one, wkF, Y_box, Y_store, Y_makeMap, Y_buildSlice, ↓reduceIte, reduceCtorEq, wkS, Nat.reduceAdd, Nat.reduceLeDiff, Nat.reduceMul, Nat.reduceLT, Nat.reduceEqDiff, wkG]
    generalize h3.setB b11 _ = h4 at O4 ⊢
    clear g5 g7 p7 one O3 O2 O1
    replace O4 : Has ro h4 (Rg rb F :: Ob b11 (.cells [wv, pv, bv] 1 false) :: Lg lb S' :: Oo wv pv bv o' :: Ob b5 (.cells [.int .i64 x.kd, .int .i64 x.rb, .int .i64 x.cell, .int .u32 x.gen, .int .u64 x.st, .int .i64 x.pr, .slice xp x.L.length xc] 1 false) :: R) := O4.at 4 rfl
    have g5 := O4.get 4 rfl
    rw [X_seq]
    simp (disch := first | assumption | omega | (simp only [wkX, *]; done) | (simp only [wkY]; omega)) only [g5, wkF, X_seq, Y_store, Y_makeMap, Y_buildSlice, ↓reduceIte, reduceCtorEq, wkO, wkS, Nat.reduceAdd, Nat.reduceLeDiff, Nat.reduceMul, Nat.reduceLT, Nat.reduceEqDiff, wkG]
    refine Z_is (rrequest_h (n := n + 15) ⟨x.rb, x.st, x.pr⟩ x.cell rw0 (by omega) O4) ?_
    rintro v h5 ⟨wv2, pv2, bv2, f, F', p', rfl, hq, O5⟩
    simp only at O5
    obtain ⟨rfl, lk', m'⟩ := sim_req m hp hq
    simp (disch := first | assumption | omega | (simp only [wkX, *]; done) | (simp only [wkY]; omega)) only [wkF, X_seq, Y_store, Y_makeMap, Y_buildSlice, ↓reduceIte, reduceCtorEq, wkO, wkS, Nat.reduceAdd, Nat.reduceLeDiff, Nat.reduceMul, Nat.reduceLT, Nat.reduceEqDiff, wkG]
    refine Y_boxO O5 ?_
    intro b13 h6 O6 _
    replace O6 : Has ro h6 (Ob b13 (.cells [.slice none 0 0, .slice none 0 0, .slice none 0 0] 1 false) :: Rg rb F' :: Oo wv2 pv2 bv2 p' :: Ob b11 (.cells [wv, pv, bv] 1 false) :: Lg lb S' :: Oo wv pv bv o' :: Ob b5 (.cells [.int .i64 x.kd, .int .i64 x.rb, .int .i64 x.cell, .int .u32 x.gen, .int .u64 x.st, .int .i64 x.pr, .slice xp x.L.length xc] 1 false) :: R) := O6
    have g9 := O6.get 0 rfl
    have p9 := O6.can 0 rfl
    have one := os_one (O6.at 2 rfl)
    have O7 := O6.set 0 rfl (.cells [wv2, pv2, bv2] 1 false)
    simp only [List.set_cons_zero] at O7
    simp (disch := first | assumption | omega | (simp only [wkX, *]; done) | (simp only [wkY]; omega)) only [g9, p9, c3, s3, one, wkF, Y_box, Y_store, Y_makeMap, Y_buildSlice, ↓reduceIte, reduceCtorEq, wkS, Nat.reduceAdd, Nat.reduceLeDiff, Nat.reduceMul, Nat.reduceLT, Nat.reduceEqDiff, wkG]
    generalize h6.setB b13 _ = h7 at O7 ⊢
    clear g5 g9 p9 one O6 O5 O4
    have g9 := O7.get 0 rfl
    have g7 := O7.get 3 rfl
    rw [X_seq]
    simp (disch := first | assumption | omega | (simp only [wkX, *]; done) | (simp only [wkY]; omega)) only [g9, g7, wkF, ↓reduceIte, reduceCtorEq, Nat.reduceAdd, Nat.reduceLeDiff, Nat.reduceMul, Nat.reduceLT, Nat.reduceEqDiff, wkG, wkH]
    have bl := bal_req hp
    replace O7 : Has ro h7 (Oo wv pv bv o' :: Oo wv2 pv2 bv2 p' :: Ob b13 (.cells [wv2, pv2, bv2] 1 false) :: Rg rb F' :: Ob b11 (.cells [wv, pv, bv] 1 false) :: Lg lb S' :: Ob b5 (.cells [.int .i64 x.kd, .int .i64 x.rb, .int .i64 x.cell, .int .u32 x.gen, .int .u64 x.st, .int .i64 x.pr, .slice xp x.L.length xc] 1 false) :: R) := (O7.at 2 rfl).at 5 rfl
    refine Z_is (done_h (n := n + 17) lk' bl.b (by have := bl.w; omega) (by have := bl.p; omega) (by have := bl.w; have := bl.p; omega) O7) ?_
    rintro v h8 ⟨rfl, O8⟩
    simp only at O8
    simp (disch := first | assumption | omega | (simp only [wkX, *]; done) | (simp only [wkY]; omega)) only [wkF, ↓reduceIte, reduceCtorEq, Nat.reduceAdd, Nat.reduceLeDiff, Nat.reduceMul, Nat.reduceLT, Nat.reduceEqDiff, wkG, wkH]
    have O10 := ((O8.rid 4 rfl).rid 2 rfl).rid 0 rfl
    have hs : S.Same S' := (stp_req m.g hp).2.1
    first
      | exact leaf1 ⟨rfl, S', F', m', hs, O10.at 1 rfl⟩
      | exact leaf1 ⟨S', F', m', hs, O10.at 1 rfl⟩
  by_cases d4 : x.kd = 4
  · have d4' : (x.kd = 4) = True := eq_true d4
    simp (disch := first | assumption | omega | (simp only [wkX, *]; done) | (simp only [wkY]; omega)) only [g5, d4', d0, d1, d2, d3, wkF, X_seq, Y_store, Y_makeMap, Y_buildSlice, ↓reduceIte, reduceCtorEq, wkO, wkS, Nat.reduceAdd, Nat.reduceLeDiff, Nat.reduceMul, Nat.reduceLT, Nat.reduceEqDiff, wkG]
    refine Z_is (release_h (n := n + 13) x.rb x.cell x.gen nv.w (by omega) O1) ?_
    rintro v h2 ⟨wv, pv, bv, e, S', o', rfl, hp, O2⟩
    simp only at O2
    simp (disch := first | assumption | omega | (simp only [wkX, *]; done) | (simp only [wkY]; omega)) only [wkF, X_seq, Y_store, Y_makeMap, Y_buildSlice, ↓reduceIte, reduceCtorEq, wkO, wkS, Nat.reduceAdd, Nat.reduceLeDiff, Nat.reduceMul, Nat.reduceLT, Nat.reduceEqDiff, wkG]
    refine Y_boxO O2 ?_
    intro b11 h3 O3 _
    replace O3 : Has ro h3 (Ob b11 (.cells [.slice none 0 0, .slice none 0 0, .slice none 0 0] 1 false) :: Lg lb S' :: Oo wv pv bv o' :: Ob b5 (.cells [.int .i64 x.kd, .int .i64 x.rb, .int .i64 x.cell, .int .u32 x.gen, .int .u64 x.st, .int .i64 x.pr, .slice xp x.L.length xc] 1 false) :: Rg rb F :: R) := O3
    have g7 := O3.get 0 rfl
    have p7 := O3.can 0 rfl
    have one := os_one (O3.at 2 rfl)
    have O4 := O3.set 0 rfl (.cells [wv, pv, bv] 1 false)
    simp only [List.set_cons_zero] at O4
    simp (disch := first | assumption | omega | (simp only [wkX, *]; done) | (simp only [wkY]; omega)) only [g7, p7, c3, s3, one, wkF, Y_box, Y_store, Y_makeMap, Y_buildSlice, ↓reduceIte, reduceCtorEq, wkS, Nat.reduceAdd, Nat.reduceLeDiff, Nat.reduceMul, Nat.reduceLT, Nat.reduceEqDiff, wkG]
    generalize h3.setB b11 _ = h4 at O4 ⊢
    clear g5 g7 p7 one O3 O2 O1
    replace O4 : Has ro h4 (Rg rb F :: Ob b11 (.cells [wv, pv, bv] 1 false) :: Lg lb S' :: Oo wv pv bv o' :: Ob b5 (.cells [.int .i64 x.kd, .int .i64 x.rb, .int .i64 x.cell, .int .u32 x.gen, .int .u64 x.st, .int .i64 x.pr, .slice xp x.L.length xc] 1 false) :: R) := O4.at 4 rfl
    have g5 := O4.get 4 rfl
    rw [X_seq]
    simp (disch := first | assumption | omega | (simp only [wkX, *]; done) | (simp only [wkY]; omega)) only [g5, wkF, X_seq, Y_store, Y_makeMap, Y_buildSlice, ↓reduceIte, reduceCtorEq, wkO, wkS, Nat.reduceAdd, Nat.reduceLeDiff, Nat.reduceMul, Nat.reduceLT, Nat.reduceEqDiff, wkG]
    refine Z_is (rrelease_h (n := n + 14) x.rb x.cell x.gen rw0 (by omega) O4) ?_
    rintro v h5 ⟨wv2, pv2, bv2, f, F', p', rfl, hq, O5⟩
    simp only at O5
    obtain ⟨rfl, lk', m'⟩ := sim_rel m hp hq
    simp (disch := first | assumption | omega | (simp only [wkX, *]; done) | (simp only [wkY]; omega)) only [wkF, X_seq, Y_store, Y_makeMap, Y_buildSlice, ↓reduceIte, reduceCtorEq, wkO, wkS, Nat.reduceAdd, Nat.reduceLeDiff, Nat.reduceMul, Nat.reduceLT, Nat.reduceEqDiff, wkG]
    refine Y_boxO O5 ?_
    intro b13 h6 O6 _
    replace O6 : Has ro h6 (Ob b13 (.cells [.slice none 0 0, .slice none 0 0, .slice none 0 0] 1 false) :: Rg rb F' :: Oo wv2 pv2 bv2 p' :: Ob b11 (.cells [wv, pv, bv] 1 false) :: Lg lb S' :: Oo wv pv bv o' :: Ob b5 (.cells [.int .i64 x.kd, .int .i64 x.rb, .int .i64 x.cell, .int .u32 x.gen, .int .u64 x.st, .int .i64 x.pr, .slice xp x.L.length xc] 1 false) :: R) := O6
    have g9 := O6.get 0 rfl
    have p9 := O6.can 0 rfl
    have one := os_one (O6.at 2 rfl)
    have O7 := O6.set 0 rfl (.cells [wv2, pv2, bv2] 1 false)
    simp only [List.set_cons_zero] at O7
    simp (disch := first | assumption | omega | (simp only [wkX, *]; done) | (simp only [wkY]; omega)) only [g9, p9, c3, s3, one, wkF, Y_box, Y_store, Y_makeMap, Y_buildSlice, ↓reduceIte, reduceCtorEq, wkS, Nat.reduceAdd, Nat.reduceLeDiff, Nat.reduceMul, Nat.reduceLT, Nat.reduceEqDiff, wkG]
    generalize h6.setB b13 _ = h7 at O7 ⊢
    clear g5 g9 p9 one O6 O5 O4
    have g9 := O7.get 0 rfl
    have g7 := O7.get 3 rfl
    rw [X_seq]
    simp (disch := first | assumption | omega | (simp only [wkX, *]; done) | (simp only [wkY]; omega)) only [g9, g7, wkF, ↓reduceIte, reduceCtorEq, Nat.reduceAdd, Nat.reduceLeDiff, Nat.reduceMul, Nat.reduceLT, Nat.reduceEqDiff, wkG, wkH]
    have bl := bal_rel nv.w hp
    replace O7 : Has ro h7 (Oo wv pv bv o' :: Oo wv2 pv2 bv2 p' :: Ob b13 (.cells [wv2, pv2, bv2] 1 false) :: Rg rb F' :: Ob b11 (.cells [wv, pv, bv] 1 false) :: Lg lb S' :: Ob b5 (.cells [.int .i64 x.kd, .int .i64 x.rb, .int .i64 x.cell, .int .u32 x.gen, .int .u64 x.st, .int .i64 x.pr, .slice xp x.L.length xc] 1 false) :: R) := (O7.at 2 rfl).at 5 rfl
    refine Z_is (done_h (n := n + 17) lk' bl.b (by have := bl.w; omega) (by have := bl.p; omega) (by have := bl.w; have := bl.p; omega) O7) ?_
    rintro v h8 ⟨rfl, O8⟩
    simp only at O8
    simp (disch := first | assumption | omega | (simp only [wkX, *]; done) | (simp only [wkY]; omega)) only [wkF, ↓reduceIte, reduceCtorEq, Nat.reduceAdd, Nat.reduceLeDiff, Nat.reduceMul, Nat.reduceLT, Nat.reduceEqDiff, wkG, wkH]
    have O10 := ((O8.rid 4 rfl).rid 2 rfl).rid 0 rfl
    have hs : S.Same S' := (stp_rel m.g hp).2.1
    first
      | exact leaf1 ⟨rfl, S', F', m', hs, O10.at 1 rfl⟩
      | exact leaf1 ⟨S', F', m', hs, O10.at 1 rfl⟩
  simp (disch := first | assumption | omega | (simp only [wkX, *]; done) | (simp only [wkY]; omega)) only [g5, d0, d1, d2, d3, d4, wkF, ↓reduceIte, reduceCtorEq, Nat.reduceAdd, Nat.reduceLeDiff, Nat.reduceMul, Nat.reduceLT, Nat.reduceEqDiff, wkG, wkH]
  exact leaf1 ⟨rfl, S, F, m, Ls.Same.refl S, O1.rid 1 rfl⟩
end
theorem env51 : env 51 = some ir51 := rfl
def rrl (F : Rf) : Nat → List (Int × En)
  | 0 => []
  | k + 1 => rrl F k ++ (if F.Is (k : Int) ∧ F.E k ≠ e0 then [((k : Int), F.E k)] else [])
theorem rrl_len (F : Rf) : ∀ k, (rrl F k).length ≤ k
  | 0 => Nat.le_refl _
  | k + 1 => by
    have := rrl_len F k
    unfold rrl
    rw [List.length_append]
    split <;> simp <;> omega
theorem rrl_yes {F : Rf} {k : Nat} (h : F.Is (k : Int) ∧ F.E k ≠ e0) : rrl F (k + 1) = rrl F k ++ [((k : Int), F.E k)] := by
  show rrl F k ++ (if F.Is (k : Int) ∧ F.E k ≠ e0 then _ else _) = _
  rw [if_pos h]
theorem rrl_no {F : Rf} {k : Nat} (h : ¬ (F.Is (k : Int) ∧ F.E k ≠ e0)) : rrl F (k + 1) = rrl F k := by
  show rrl F k ++ (if F.Is (k : Int) ∧ F.E k ≠ e0 then _ else _) = _
  rw [if_neg h, List.append_nil]
section
variable {ro : Nat → Option (List Value × Nat)} {h : Heap} {R : List Rs} {rb ob : Nat} {F : Rf} {o : Ou} {n : Nat}
theorem rrecords_h (u : Rw F) (hn : 1200 < n) (O : Has ro h (Rg rb F :: R)) :
    (callV env (n + 4) (.func (.func 51) #[] #[]) [.pointer (some ⟨rb, 0, none⟩)] h).Is fun p => Has ro p.2 (Rv p.1 (rrl F F.C) :: Rg rb F :: R) := by
  have zc2 := u.z.c2
  refine call_is env51 ?_
  simp (disch := first | assumption | omega | (simp only [wkX, *]; done) | (simp only [wkY]; omega)) only [ir51, Nat.reduceAdd, Nat.reduceSub, wkF, ↓reduceIte, reduceCtorEq, Nat.reduceLeDiff, Nat.reduceMul, Nat.reduceLT, Nat.reduceEqDiff, wkN, wkG, wkH]
  refine L_is (fun q' s => ∃ (i : Nat) (v3 : Value), q' = F.C - i ∧ s.defers = [] ∧ s.tmps.length = 52 ∧ s.tmps.getD 0 undefV = .pointer (some ⟨rb, 0, none⟩) ∧ s.tmps.getD 3 undefV = v3 ∧ s.tmps.getD 4 undefV = .int .i64 (i : Int) ∧ i ≤ F.C ∧ Has ro s.h (Rv v3 (rrl F i) :: Rg rb F :: R)) F.C ?_ (by omega) ?_
  · exact ⟨0, _, rfl, rfl, rfl, rfl, rfl, rfl, Nat.zero_le _, Has.rvNil O⟩
  clear O
  rintro q' tm df h4 ⟨i, v3, hk, hd, hlen_, g0, g3, g4, hil, O4⟩
  simp only at hd g0 g3 g4 O4
  subst hd
  obtain ⟨w, hg_, rfl⟩ := explode hlen_
  simp only [hg_] at g0 g3 g4
  clear hlen_ hg_
  obtain ⟨cb, tb, m1⟩ := rg_get (O4.at 1 rfl)
  by_cases hi : i < F.C
  · have hi' : (i : Int) < (F.C : Int) := by omega
    have i0 : (0 : Int) ≤ (i : Int) := by omega
    have yi : IntKind.i64.wrap ((i : Int) + 1) = ((i + 1 : Nat) : Int) := by rw [wrap_i64 (by omega) (by omega)]; omega
    simp (disch := first | assumption | omega | (simp only [wkX, *]; done) | (simp only [wkY]; omega)) only [g0, g3, g4, m1, hi', wkF, ↓reduceIte, reduceCtorEq, Nat.reduceAdd, Nat.reduceLeDiff, Nat.reduceMul, Nat.reduceLT, Nat.reduceEqDiff, wkG, wkH]
    refine Z_is (ris_h (n := n + 2) (i : Int) u.z.r1 (O4.at 1 rfl)) ?_
    rintro v' h5 ⟨rfl, rfl⟩
    by_cases hs : F.Is (i : Int)
    · clear m1
      obtain ⟨cb, tb, q, pq, cq, hqc, rd, rd0, rd1, rd2, O6⟩ := rg_take hi (O4.at 1 rfl)
      have m1 := O6.get 0 rfl
      unfold rfc at m1
      have hg := u.z.g i
      have ho := u.z.o i
      have r2 := u.z.r2
      rcases en_split (F.E i) with he | he | ⟨he1, he2⟩
      · have a1 := eq_true (show (F.E i).o = -1 by rw [he]; rfl)
        have a2 : ¬ 0 < (F.E i).g := by
          have : (F.E i).g = 0 := by rw [he]; rfl
          omega
        simp (disch := first | assumption | omega | (simp only [wkX, *]; done) | (simp only [wkY]; omega)) only [g0, g3, g4, hs, m1, i0, hi', Int.toNat_natCast, Nat.zero_add, rd0, rd1, a1, a2, yi, wkF, ↓reduceIte, reduceCtorEq, Nat.reduceAdd, Nat.reduceLeDiff, Nat.reduceMul, Nat.reduceLT, Nat.reduceEqDiff, wkG, wkH]
        refine Is_in ⟨F.C - (i + 1), sub_lt' hk hi, i + 1, v3, rfl, rfl, rfl, rfl, rfl, rfl, hi, ?_⟩
        rw [rrl_no (fun x => x.2 he)]
        exact O4
      · have hne : F.E i ≠ e0 := fun e => he (by rw [e]; rfl)
        simp (disch := first | assumption | omega | (simp only [wkX, *]; done) | (simp only [wkY]; omega)) only [g0, g3, g4, hs, m1, i0, hi', Int.toNat_natCast, Nat.zero_add, rd0, rd, he, wkF, ↓reduceIte, reduceCtorEq, Nat.reduceAdd, Nat.reduceLeDiff, Nat.reduceMul, Nat.reduceLT, Nat.reduceEqDiff, wkG, wkH]
        refine Z_is (rrecord_e (n := n + 2) (i : Int) (F.E i) (.slice pq (F.W i).length cq) rfl ⟨ho.1, by omega⟩ hg O4.fine) ?_
        rintro v' h5 ⟨e5, n5, -⟩
        simp only at e5 n5
        obtain ⟨d, O6⟩ := Has.ex.1 (O4.new e5 n5)
        obtain ⟨hv, O7⟩ := Has.and.1 O6
        subst hv
        obtain ⟨ws, hws, O8⟩ := Has.rvOpen (O7.at 1 rfl)
        replace O8 : Has ro h5 (Sc 3 wc v3 ws :: Dts ws :: Dt d (F.E i) :: Rg rb F :: R) := O8
        have hwl : ws.length ≤ i := by
          have h1 := congrArg List.length hws
          rw [List.length_map] at h1
          have := rrl_len F i
          omega
        simp (disch := first | assumption | omega | (simp only [wkX, *]; done) | (simp only [wkY]; omega)) only [wkF, X_seq, Y_box, Y_store, Y_makeMap, ↓reduceIte, reduceCtorEq, wkO, wkS, Nat.reduceAdd, Nat.reduceLeDiff, Nat.reduceMul, Nat.reduceLT, Nat.reduceEqDiff, wkG]
        refine Y_buildSliceO O8 (cs := wc ⟨(i : Int), F.E i, d⟩) (by cases d <;> rfl) ?_
        intro b9 h9 O9 _
        replace O9 : Has ro h9 (Ob b9 (.cells (wc ⟨(i : Int), F.E i, d⟩) 3 false) :: Sc 3 wc v3 ws :: Dts ws :: Dt d (F.E i) :: Rg rb F :: R) := O9
        obtain ⟨v9, h10, ap, O10⟩ := sc_appendV (bytes := 40) (by decide) wc_len wc_one (O9.at 1 rfl) (Has.one (O9.at 1 rfl) 1 rfl) (by show (ws.length + 1) * 40 ≤ roomMost; unfold roomMost; omega) (by decide)
        simp only [List.eraseIdx_cons_succ, List.eraseIdx_cons_zero] at O10
        simp (disch := first | assumption | omega | (simp only [wkX, *]; done) | (simp only [wkY]; omega)) only [ap, yi, wkF, ↓reduceIte, reduceCtorEq, Nat.reduceAdd, Nat.reduceLeDiff, Nat.reduceMul, Nat.reduceLT, Nat.reduceEqDiff, wkG, wkH]
        refine Is_in ⟨F.C - (i + 1), sub_lt' hk hi, i + 1, v9, rfl, rfl, rfl, rfl, rfl, rfl, hi, ?_⟩
        rw [rrl_yes ⟨hs, hne⟩]
        have O11 := O10.rid 1 rfl
        replace O11 : Has ro h10 (Sc 3 wc v9 (ws ++ [(⟨(i : Int), F.E i, d⟩ : Wr)]) :: Dts ws :: Dt d (F.E i) :: Rg rb F :: R) := O11
        refine Has.rvClose (ws := ws ++ [(⟨(i : Int), F.E i, d⟩ : Wr)]) (by rw [List.map_append, hws]; rfl) ?_
        exact (Has.dtsAdd (w := ⟨(i : Int), F.E i, d⟩) ((O11.at 1 rfl).at 2 rfl)).swap2
      · have a1 := eq_true he1
        have a2 : 0 < (F.E i).g := by omega
        have hne : F.E i ≠ e0 := fun e => he2 (by rw [e]; rfl)
        simp (disch := first | assumption | omega | (simp only [wkX, *]; done) | (simp only [wkY]; omega)) only [g0, g3, g4, hs, m1, i0, hi', Int.toNat_natCast, Nat.zero_add, rd0, rd1, rd, a1, a2, wkF, ↓reduceIte, reduceCtorEq, Nat.reduceAdd, Nat.reduceLeDiff, Nat.reduceMul, Nat.reduceLT, Nat.reduceEqDiff, wkG, wkH]
        refine Z_is (rrecord_e (n := n + 2) (i : Int) (F.E i) (.slice pq (F.W i).length cq) rfl ⟨ho.1, by omega⟩ hg O4.fine) ?_
        rintro v' h5 ⟨e5, n5, -⟩
        simp only at e5 n5
        obtain ⟨d, O6⟩ := Has.ex.1 (O4.new e5 n5)
        obtain ⟨hv, O7⟩ := Has.and.1 O6
        subst hv
        obtain ⟨ws, hws, O8⟩ := Has.rvOpen (O7.at 1 rfl)
        replace O8 : Has ro h5 (Sc 3 wc v3 ws :: Dts ws :: Dt d (F.E i) :: Rg rb F :: R) := O8
        have hwl : ws.length ≤ i := by
          have h1 := congrArg List.length hws
          rw [List.length_map] at h1
          have := rrl_len F i
          omega
        simp (disch := first | assumption | omega | (simp only [wkX, *]; done) | (simp only [wkY]; omega)) only [wkF, X_seq, Y_box, Y_store, Y_makeMap, ↓reduceIte, reduceCtorEq, wkO, wkS, Nat.reduceAdd, Nat.reduceLeDiff, Nat.reduceMul, Nat.reduceLT, Nat.reduceEqDiff, wkG]
        refine Y_buildSliceO O8 (cs := wc ⟨(i : Int), F.E i, d⟩) (by cases d <;> rfl) ?_
        intro b9 h9 O9 _
        replace O9 : Has ro h9 (Ob b9 (.cells (wc ⟨(i : Int), F.E i, d⟩) 3 false) :: Sc 3 wc v3 ws :: Dts ws :: Dt d (F.E i) :: Rg rb F :: R) := O9
        obtain ⟨v9, h10, ap, O10⟩ := sc_appendV (bytes := 40) (by decide) wc_len wc_one (O9.at 1 rfl) (Has.one (O9.at 1 rfl) 1 rfl) (by show (ws.length + 1) * 40 ≤ roomMost; unfold roomMost; omega) (by decide)
        simp only [List.eraseIdx_cons_succ, List.eraseIdx_cons_zero] at O10
        simp (disch := first | assumption | omega | (simp only [wkX, *]; done) | (simp only [wkY]; omega)) only [ap, yi, wkF, ↓reduceIte, reduceCtorEq, Nat.reduceAdd, Nat.reduceLeDiff, Nat.reduceMul, Nat.reduceLT, Nat.reduceEqDiff, wkG, wkH]
        refine Is_in ⟨F.C - (i + 1), sub_lt' hk hi, i + 1, v9, rfl, rfl, rfl, rfl, rfl, rfl, hi, ?_⟩
        rw [rrl_yes ⟨hs, hne⟩]
        have O11 := O10.rid 1 rfl
        replace O11 : Has ro h10 (Sc 3 wc v9 (ws ++ [(⟨(i : Int), F.E i, d⟩ : Wr)]) :: Dts ws :: Dt d (F.E i) :: Rg rb F :: R) := O11
        refine Has.rvClose (ws := ws ++ [(⟨(i : Int), F.E i, d⟩ : Wr)]) (by rw [List.map_append, hws]; rfl) ?_
        exact (Has.dtsAdd (w := ⟨(i : Int), F.E i, d⟩) ((O11.at 1 rfl).at 2 rfl)).swap2
    · simp (disch := first | assumption | omega | (simp only [wkX, *]; done) | (simp only [wkY]; omega)) only [g0, g3, g4, hs, yi, wkF, ↓reduceIte, reduceCtorEq, Nat.reduceAdd, Nat.reduceLeDiff, Nat.reduceMul, Nat.reduceLT, Nat.reduceEqDiff, wkG, wkH]
      refine Is_in ⟨F.C - (i + 1), sub_lt' hk hi, i + 1, v3, rfl, rfl, rfl, rfl, rfl, rfl, hi, ?_⟩
      rw [rrl_no (fun x => hs x.1)]
      exact O4
  have hi' : ¬ (i : Int) < (F.C : Int) := by omega
  have hiC : i = F.C := by omega
  rw [hiC] at O4
  simp (disch := first | assumption | omega | (simp only [wkX, *]; done) | (simp only [wkY]; omega)) only [g0, g3, g4, m1, hi', wkF, ↓reduceIte, reduceCtorEq, Nat.reduceAdd, Nat.reduceLeDiff, Nat.reduceMul, Nat.reduceLT, Nat.reduceEqDiff, wkG, wkH]
  refine Is_in ?_
  simp (disch := first | assumption | omega | (simp only [wkX, *]; done) | (simp only [wkY]; omega)) only [g0, g3, g4, wkF, ↓reduceIte, reduceCtorEq, Nat.reduceAdd, Nat.reduceLeDiff, Nat.reduceMul, Nat.reduceLT, Nat.reduceEqDiff, wkG, wkH]
  exact leaf1 O4
end
theorem env20 : env 20 = some ir20 := rfl
def Rf.May (F : Rf) (x : Rq) : Prop := (rdE x.B).2 = true ∧ F.Is x.nn ∧ F.E x.nn.toNat = e0 ∧ (rdE x.B).1.o < (F.rob : Int)
instance (F : Rf) (x : Rq) : Decidable (F.May x) := by unfold Rf.May; infer_instance
def Rf.ld (F : Rf) (x : Rq) : Rf := F.put x.nn.toNat (rdE x.B).1 []
def rlds (F : Rf) : List Rq → Option Rf
  | [] => some F
  | x :: l => if x.kd = 3 then (if F.May x then rlds (F.ld x) l else none) else rlds F l
theorem rlds_skip {F : Rf} {x : Rq} {l : List Rq} (h : ¬ x.kd = 3) : rlds F (x :: l) = rlds F l := if_neg h
theorem rlds_none {F : Rf} {x : Rq} {l : List Rq} (h : x.kd = 3) (k : ¬ F.May x) : rlds F (x :: l) = none := by
  unfold rlds
  rw [if_pos h, if_neg k]
theorem rlds_some {F : Rf} {x : Rq} {l : List Rq} (h : x.kd = 3) (k : F.May x) : rlds F (x :: l) = rlds (F.ld x) l := by
  show (if x.kd = 3 then (if F.May x then rlds (F.ld x) l else none) else rlds F l) = _
  rw [if_pos h, if_pos k]
theorem rdE_len {B : List Nat} (h : ¬ B.length = 5) : (rdE B).2 = false := by unfold rdE; rw [if_neg h]
theorem rdE_5 {B : List Nat} (h : B.length = 5) : rdE B = (⟨if at8 B 0 = 255 then -1 else (at8 B 0 : Int), (gen4 B 4 : Int)⟩, decide ((⟨if at8 B 0 = 255 then -1 else (at8 B 0 : Int), (gen4 B 4 : Int)⟩ : En) ≠ e0)) := by unfold rdE; rw [if_pos h]
theorem gen4_sum (B : List Nat) : (gen4 B 4 : Int) = (at8 B 1 : Int) * 16777216 + (at8 B 2 : Int) * 65536 + (at8 B 3 : Int) * 256 + (at8 B 4 : Int) := by
  have h : gen4 B 4 = (((0 * 256 + at8 B 1) * 256 + at8 B 2) * 256 + at8 B 3) * 256 + at8 B 4 := rfl
  omega
theorem gen_lt {B : List Nat} (h : ∀ i, at8 B i < 256) : (0 : Int) ≤ (at8 B 1 : Int) * 16777216 + (at8 B 2 : Int) * 65536 + (at8 B 3 : Int) * 256 + (at8 B 4 : Int) ∧ (at8 B 1 : Int) * 16777216 + (at8 B 2 : Int) * 65536 + (at8 B 3 : Int) * 256 + (at8 B 4 : Int) ≤ 4294967295 := by
  have h1 := h 1
  have h2 := h 2
  have h3 := h 3
  have h4 := h 4
  omega
theorem gen_u32 {B : List Nat} (h : ∀ i, at8 B i < 256) : IntKind.u32.wrap ((at8 B 1 : Int) * 16777216 + (at8 B 2 : Int) * 65536 + (at8 B 3 : Int) * 256 + (at8 B 4 : Int)) = (at8 B 1 : Int) * 16777216 + (at8 B 2 : Int) * 65536 + (at8 B 3 : Int) * 256 + (at8 B 4 : Int) := by
  have hg := gen_lt h
  generalize (at8 B 1 : Int) * 16777216 + (at8 B 2 : Int) * 65536 + (at8 B 3 : Int) * 256 + (at8 B 4 : Int) = g at hg ⊢
  rw [wrap_u32_mod]
  omega
theorem gen_wrap {B : List Nat} (h : ∀ i, at8 B i < 256) : IntKind.i64.wrap ((at8 B 1 : Int) * 16777216) = (at8 B 1 : Int) * 16777216 ∧ IntKind.i64.wrap ((at8 B 2 : Int) * 65536) = (at8 B 2 : Int) * 65536 ∧ IntKind.i64.wrap ((at8 B 3 : Int) * 256) = (at8 B 3 : Int) * 256 ∧
    IntKind.i64.wrap ((at8 B 1 : Int) * 16777216 + (at8 B 2 : Int) * 65536) = (at8 B 1 : Int) * 16777216 + (at8 B 2 : Int) * 65536 ∧ IntKind.i64.wrap ((at8 B 1 : Int) * 16777216 + (at8 B 2 : Int) * 65536 + (at8 B 3 : Int) * 256) = (at8 B 1 : Int) * 16777216 + (at8 B 2 : Int) * 65536 + (at8 B 3 : Int) * 256 ∧
    IntKind.i64.wrap ((at8 B 1 : Int) * 16777216 + (at8 B 2 : Int) * 65536 + (at8 B 3 : Int) * 256 + (at8 B 4 : Int)) = (at8 B 1 : Int) * 16777216 + (at8 B 2 : Int) * 65536 + (at8 B 3 : Int) * 256 + (at8 B 4 : Int) := by
  have h1 := h 1
  have h2 := h 2
  have h3 := h 3
  have h4 := h 4
  refine ⟨wrap_i64 (by omega) (by omega), wrap_i64 (by omega) (by omega), wrap_i64 (by omega) (by omega), wrap_i64 (by omega) (by omega), wrap_i64 (by omega) (by omega), wrap_i64 (by omega) (by omega)⟩
section
variable {ro : Nat → Option (List Value × Nat)} {h : Heap} {R : List Rs} {n rb : Nat} {F : Rf}
theorem by_rd {B : List Nat} {xp : Option Addr} {xc : Nat} (h5 : B.length = 5) (V : Vw 1 bx h (.slice xp B.length xc) B) : ∃ b off sp, xp = some ⟨b, off, sp⟩ ∧ ∀ k, k < 5 → readC (h.get b) (off + k) 1 = some [.int .u8 (at8 B k : Int)] := by
  obtain ⟨b, off, sp, c, hv, _, _⟩ := V.rd bx_len (at8_get (l := B) (i := 0) (by omega))
  have e1 : xp = some ⟨b, off, sp⟩ := by injection hv
  subst e1
  refine ⟨b, off, sp, rfl, fun k hk => ?_⟩
  obtain ⟨b', off', sp', c', hv', _, r⟩ := V.rd bx_len (at8_get (l := B) (i := k) (by omega))
  cases hv'
  rw [Nat.mul_one] at r
  exact r
theorem rload_h {a b c : Int} {v : Value} {L : List Rq} (hn : L.length + 1200 < n) (hL : L.length < 1000000) (V : ∀ (M : List Rs) (h : Heap), Has ro h (M ++ R) → Vw 3 rq h v L) (ok : ∀ x ∈ L, OkR ro R x) (O : Has ro h R) :
    (callV env (n + 2) (.func (.func 20) #[] #[]) [.int .i64 a, .int .i64 b, .int .i64 c, v] h).Is fun p =>
      (¬ Szs a b c ∧ p.1 = .tuple #[.pointer none, .int .i64 2] ∧ Has ro p.2 R) ∨ (Szs a b c ∧ rlds (rz0 a b.toNat c.toNat) L = none ∧ p.1 = .tuple #[.pointer none, .int .i64 140] ∧ Has ro p.2 R) ∨
        (Szs a b c ∧ ∃ F rb, rlds (rz0 a b.toNat c.toNat) L = some F ∧ p.1 = .tuple #[.pointer (some ⟨rb, 0, none⟩), .int .i64 0] ∧ Has ro p.2 (Rg rb F :: R)) := by
  obtain ⟨pv, cv, rfl, _⟩ := (V [] _ O).len
  refine call_is env20 ?_
  simp (disch := first | assumption | omega | (simp only [wkX, *]; done) | (simp only [wkY]; omega)) only [ir20, Nat.reduceAdd, Nat.reduceSub, wkF, ↓reduceIte, reduceCtorEq, Nat.reduceLeDiff, Nat.reduceMul, Nat.reduceLT, Nat.reduceEqDiff, wkN, wkG, wkH]
  refine Z_is (rnew_h (n := n) a b c (by omega) O) ?_
  rintro v1 h1 hv
  rcases hv with ⟨hz, rfl, O1⟩ | ⟨hz, rb, rfl, O1⟩
  · simp (disch := first | assumption | omega | (simp only [wkX, *]; done) | (simp only [wkY]; omega)) only [wkF, ↓reduceIte, reduceCtorEq, Nat.reduceAdd, Nat.reduceLeDiff, Nat.reduceMul, Nat.reduceLT, Nat.reduceEqDiff, wkG, wkH]
    exact leaf2 (Or.inl ⟨hz, rfl, O1⟩)
  simp only at O1
  simp (disch := first | assumption | omega | (simp only [wkX, *]; done) | (simp only [wkY]; omega)) only [wkF, ↓reduceIte, reduceCtorEq, Nat.reduceAdd, Nat.reduceLeDiff, Nat.reduceMul, Nat.reduceLT, Nat.reduceEqDiff, wkG, wkH]
  have hz1 := hz.1
  have hz2 := hz.2.1
  have hz3 := hz.2.2.2.2.1
  have hz4 := hz.2.2.2.2.2
  generalize hF0 : rz0 a b.toNat c.toNat = F0 at O1
  have hr0 : (F0.rob : Int) = b := by rw [← hF0]; exact Int.toNat_of_nonneg (by omega)
  refine L_is (fun q s => ∃ (i : Nat) (F : Rf), q = L.length - i ∧ s.defers = [] ∧ s.tmps.length = 140 ∧ s.tmps.getD 1 undefV = .int .i64 b ∧ s.tmps.getD 3 undefV = .slice pv L.length cv ∧ s.tmps.getD 10 undefV = .pointer (some ⟨rb, 0, none⟩) ∧ s.tmps.getD 12 undefV = .int .i64 (i : Int) ∧ i ≤ L.length ∧ rlds F0 L = rlds F (L.drop i) ∧ (F.rob : Int) = b ∧ Has ro s.h (Rg rb F :: R)) L.length ?_ (by omega) ?_
  · exact ⟨0, _, rfl, rfl, rfl, rfl, rfl, rfl, rfl, Nat.zero_le _, rfl, hr0, O1⟩
  clear O1
  rintro q' tm df h2 ⟨i, F, hk, hd, hlen_, g1, g3, g10, g12, hil, hf, hb, O2⟩
  simp only at hd g1 g3 g10 g12 O2
  subst hd
  obtain ⟨w, hg_, rfl⟩ := explode hlen_
  simp only [hg_] at g1 g3 g10 g12
  clear hlen_ hg_
  by_cases h0 : i < L.length
  · have h0' : (i : Int) < (L.length : Int) := by omega
    have hi0 : (0 : Int) ≤ (i : Int) := by omega
    have hget : L[i]? = some L[i] := List.getElem?_eq_getElem h0
    have hdr : L.drop i = L[i] :: L.drop (i + 1) := List.drop_eq_getElem_cons h0
    have okx := ok _ (List.getElem_mem h0)
    generalize L[i] = x at hget hdr okx
    rw [hdr] at hf
    obtain ⟨b1, off1, sp1, c1, hv1, k1, _⟩ := (V [_] _ O2).rd rq_len hget
    have e1 : pv = some ⟨b1, off1, sp1⟩ := by injection hv1
    subst e1
    obtain ⟨xp, xc, hxv⟩ := okx.s
    have r10 := k1 0 1 (by decide)
    have r11 := k1 1 1 (by decide)
    have r12 := k1 2 1 (by decide)
    rw [Nat.add_zero] at r10
    have q0 : readN (rq x) 0 1 = some [.int .i64 x.kd] := rfl
    have q1 : readN (rq x) 1 1 = some [.int .i64 x.nn] := rfl
    have q2 : readN (rq x) 2 1 = some [x.dv] := rfl
    rw [q0] at r10
    rw [q1] at r11
    rw [q2, hxv] at r12
    have yi : IntKind.i64.wrap ((i : Int) + 1) = ((i + 1 : Nat) : Int) := by rw [wrap_i64 (by omega) (by omega)]; omega
    by_cases hk3 : x.kd = 3
    · have hk3' := eq_true hk3
      have hnone : ¬ F.May x → rlds F0 L = none := fun k => by rw [hf]; exact rlds_none hk3 k
      simp (disch := first | assumption | omega | (simp only [wkX, *]; done) | (simp only [wkY]; omega)) only [g1, g3, g10, g12, h0', hi0, Int.toNat_natCast, r10, r12, hk3', wkF, ↓reduceIte, reduceCtorEq, Nat.reduceAdd, Nat.reduceLeDiff, Nat.reduceMul, Nat.reduceLT, Nat.reduceEqDiff, wkG, wkH]
      refine X_drawn _ fun an => ?_
      by_cases h5 : x.B.length = 5
      · have h5' : ((x.B.length : Int) = 5) = True := eq_true (by omega)
        obtain ⟨b3, off3, sp3, e3, rb3⟩ := by_rd h5 (by rw [← hxv]; exact okx.v [_] _ O2)
        subst e3
        have hB := okx.b
        simp (maxSteps := 4000000) (disch := first | assumption | omega | (simp only [wkX, *]; done) | (simp only [wkY]; omega)) only [g1, g3, g10, g12, h0', hi0, Int.toNat_natCast, r11, h5', wkF, ↓reduceIte, reduceCtorEq, Nat.reduceAdd, Nat.reduceLeDiff, Nat.reduceMul, Nat.reduceLT, Nat.reduceEqDiff, wkG, wkH]
        refine DB_is (ris_h (n := n) x.nn (by omega) O2) ?_
        rintro v' h3 ⟨rfl, rfl⟩
        by_cases hi : F.Is x.nn
        · obtain ⟨k, hk'⟩ : ∃ k : Nat, x.nn = (k : Int) := ⟨x.nn.toNat, by have := hi.1; omega⟩
          have hkn : x.nn.toNat = k := by rw [hk']; exact Int.toNat_natCast k
          have hc : k < F.C := by have := hi.2.1; omega
          have c0 : (0 : Int) ≤ x.nn := hi.1
          have c1 : x.nn < (F.C : Int) := hi.2.1
          obtain ⟨cb, tb, q, pq, cq, hqc, rd, rd0, rd1, rd2, O3⟩ := rg_take hc O2
          have m1 := O3.get 0 rfl
          unfold rfc at m1
          have hmE : F.May x → F.E k = e0 := fun m => by have := m.2.2.1; rw [hkn] at this; exact this
          rcases en_split (F.E k) with he | he | ⟨he1, he2⟩
          · have a1 := eq_true (show (F.E k).o = -1 by rw [he]; rfl)
            have a2 := eq_true (show (F.E k).g = 0 by rw [he]; rfl)
            have i0 : (0 : Int) < (x.B.length : Int) := by omega
            have i1 : (1 : Int) < (x.B.length : Int) := by omega
            have i2 : (2 : Int) < (x.B.length : Int) := by omega
            have i3 : (3 : Int) < (x.B.length : Int) := by omega
            have i4 : (4 : Int) < (x.B.length : Int) := by omega
            have d0 := rb3 0 (by omega)
            have d1 := rb3 1 (by omega)
            have d2 := rb3 2 (by omega)
            have d3 := rb3 3 (by omega)
            have d4 := rb3 4 (by omega)
            rw [Nat.add_zero] at d0
            have t1 : Int.toNat 1 = 1 := rfl
            have t2 : Int.toNat 2 = 2 := rfl
            have t3 : Int.toNat 3 = 3 := rfl
            have t4 : Int.toNat 4 = 4 := rfl
            have n1 : (0 : Int) ≤ 1 := by decide
            have n2 : (0 : Int) ≤ 2 := by decide
            have n3 : (0 : Int) ≤ 3 := by decide
            have n4 : (0 : Int) ≤ 4 := by decide
            have hB0 := hB 0
            have hB1 := hB 1
            have hB2 := hB 2
            have hB3 := hB 3
            have hB4 := hB 4
            have y0 : IntKind.i64.wrap (at8 x.B 0 : Int) = (at8 x.B 0 : Int) := wrap_i64 (by omega) (by omega)
            have y1 : IntKind.i64.wrap (at8 x.B 1 : Int) = (at8 x.B 1 : Int) := wrap_i64 (by omega) (by omega)
            have y2 : IntKind.i64.wrap (at8 x.B 2 : Int) = (at8 x.B 2 : Int) := wrap_i64 (by omega) (by omega)
            have y3 : IntKind.i64.wrap (at8 x.B 3 : Int) = (at8 x.B 3 : Int) := wrap_i64 (by omega) (by omega)
            have y4 : IntKind.i64.wrap (at8 x.B 4 : Int) = (at8 x.B 4 : Int) := wrap_i64 (by omega) (by omega)
            obtain ⟨w1, w2, w3, w4, w5, w6⟩ := gen_wrap hB
            have hgl := gen_lt hB
            have hgs := gen4_sum x.B
            have hrd := rdE_5 h5
            generalize ho : (if at8 x.B 0 = 255 then (-1 : Int) else (at8 x.B 0 : Int)) = o at hrd
            rw [hgs] at hrd
            simp (disch := first | assumption | omega | (simp only [wkX, *]; done) | (simp only [wkY]; omega)) only [g1, g3, g10, g12, m1, hi, h0', hi0, c0, c1, hkn, Nat.zero_add, Int.toNat_natCast, r11, rd0, rd1, a1, a2, h5', wkF, Y_box, Y_store, Y_makeMap, Y_buildSlice, ↓reduceIte, reduceCtorEq, wkO, wkS, Nat.reduceAdd, Nat.reduceLeDiff, Nat.reduceMul, Nat.reduceLT, Nat.reduceEqDiff, wkG]
            clear hB0 hB1 hB2 hB3 hB4 hgs
            rw [X_seq]
            simp (disch := first | assumption | omega | (simp only [wkX, *]; done) | (simp only [wkY]; omega)) only [g1, g3, g10, g12, i0, d0, y0, Int.toNat_zero, Nat.zero_mul, Nat.add_zero, Int.le_refl, wkF, Y_box, Y_store, Y_makeMap, Y_buildSlice, ↓reduceIte, reduceCtorEq, wkO, wkS, Nat.reduceAdd, Nat.reduceLeDiff, Nat.reduceMul, Nat.reduceLT, Nat.reduceEqDiff, wkG]
            rw [X_seq]
            refine X_cut0 (fun s => s.tmps.length = 140 ∧ s.tmps.getD 1 undefV = .int .i64 b ∧ s.tmps.getD 3 undefV = .slice (some ⟨b1, off1, sp1⟩) L.length cv ∧ s.tmps.getD 10 undefV = .pointer (some ⟨rb, 0, none⟩) ∧ s.tmps.getD 12 undefV = .int .i64 (i : Int) ∧ s.tmps.getD 13 undefV = .slice (some ⟨b3, off3, sp3⟩) x.B.length xc ∧ s.tmps.getD 14 undefV = .int .i64 o ∧ s.h = h2) ?_ ?_
            · by_cases h255 : at8 x.B 0 = 255
              · have h255' : ((at8 x.B 0 : Int) = 255) = True := eq_true (by omega)
                rw [if_pos h255] at ho
                subst ho
                simp (disch := first | assumption | omega | (simp only [wkX, *]; done) | (simp only [wkY]; omega)) only [g1, g3, g10, g12, h255', wkF, ↓reduceIte, reduceCtorEq, Nat.reduceAdd, Nat.reduceLeDiff, Nat.reduceMul, Nat.reduceLT, Nat.reduceEqDiff, wkG, wkH]
                exact mid_in ⟨rfl, rfl, rfl, rfl, rfl, rfl, rfl, rfl⟩
              · have h255' : ¬ (at8 x.B 0 : Int) = 255 := by omega
                rw [if_neg h255] at ho
                subst ho
                simp (disch := first | assumption | omega | (simp only [wkX, *]; done) | (simp only [wkY]; omega)) only [g1, g3, g10, g12, h255', wkF, ↓reduceIte, reduceCtorEq, Nat.reduceAdd, Nat.reduceLeDiff, Nat.reduceMul, Nat.reduceLT, Nat.reduceEqDiff, wkG, wkH]
                exact mid_in ⟨rfl, rfl, rfl, rfl, rfl, rfl, rfl, rfl⟩
            rintro tm h4 ⟨hlen_, g1, g3, g10, g12, g13, g14, hh⟩
            simp only at g1 g3 g10 g12 g13 g14 hh
            obtain ⟨w, hg_, rfl⟩ := explode hlen_
            simp only [hg_] at g1 g3 g10 g12 g13 g14
            clear hlen_ hg_
            subst hh
            rw [kont_code, X_seq]
            refine X_drawn _ fun an => ?_
            simp (disch := first | assumption | omega | (simp only [wkX, *]; done) | (simp only [wkY]; omega)) only [g1, g3, g10, g12, g13, g14, i1, i2, i3, i4, n1, n2, n3, n4, t1, t2, t3, t4, d1, d2, d3, d4, y1, y2, y3, y4, w1, w2, w3, w4, w5, w6, Nat.mul_one, wkF, Y_box, Y_store, Y_makeMap, Y_buildSlice, ↓reduceIte, reduceCtorEq, wkO, wkS, Nat.reduceAdd, Nat.reduceLeDiff, Nat.reduceMul, Nat.reduceLT, Nat.reduceEqDiff, wkG]
            rw [X_seq]
            have ys := gen_u32 hB
            generalize ((at8 x.B 1 : Int) * 16777216 + (at8 x.B 2 : Int) * 65536 + (at8 x.B 3 : Int) * 256 + (at8 x.B 4 : Int)) = g at hrd hgl ys ⊢
            by_cases hob : b ≤ o
            · have hob' : o ≥ b := hob
              simp (disch := first | assumption | omega | (simp only [wkX, *]; done) | (simp only [wkY]; omega)) only [g1, g3, g10, g12, g13, g14, hob', wkF, ↓reduceIte, reduceCtorEq, Nat.reduceAdd, Nat.reduceLeDiff, Nat.reduceMul, Nat.reduceLT, Nat.reduceEqDiff, wkG, wkH]
              refine Is_in ?_
              simp (disch := first | assumption | omega | (simp only [wkX, *]; done) | (simp only [wkY]; omega)) only [wkF, ↓reduceIte, reduceCtorEq, Nat.reduceAdd, Nat.reduceLeDiff, Nat.reduceMul, Nat.reduceLT, Nat.reduceEqDiff, wkG, wkH]
              refine leaf2 (Or.inr (Or.inl ⟨hz, ?_, rfl, O2.drop⟩))
              exact hnone (fun m => by have := m.2.2.2; rw [hrd] at this; have h1 : o < (F.rob : Int) := this; omega)
            · have hob' : ¬ o ≥ b := hob
              have fin : (¬ (o = -1 ∧ g = 0)) → F.May x := fun k => ⟨by rw [hrd]; exact decide_eq_true fun e => k ⟨congrArg En.o e, congrArg En.g e⟩, hi, by rw [hkn]; exact he, by rw [hrd]; show o < (F.rob : Int); omega⟩
              have hput : setAt ((rcs F q).flatMap rcell) (k * 3) [.int .i64 o, .int .u32 g, .slice none 0 0] = _ := rcs_put F q hc ⟨o, g⟩ (.slice none 0 0) []
              have hfl := rcs_flen F q
              have hin : k * 3 + 3 ≤ F.C * 3 := by omega
              have p2 := O3.can 1 rfl
              have q2' := O3.get 1 rfl
              have O4 := O3.set 1 rfl (.cells ((rcs (F.put k ⟨o, g⟩ []) fun x => if x = k then .slice none 0 0 else q x).flatMap rcell) 3 false)
              simp only [List.set_cons_zero, List.set_cons_succ] at O4
              have O5 : Has ro _ (Rg rb (F.put k ⟨o, g⟩ []) :: R) := rg_put2 hc ⟨o, g⟩ [] ((((((Has.scNil (z := 3) (g := ic) (O4.rid 4 rfl)).at 4 rfl).at 4 rfl).at 4 rfl).at 4 rfl))
              have hld : F.ld x = F.put k ⟨o, g⟩ [] := by unfold Rf.ld; rw [hkn, hrd]
              have z1 : setAt [Value.int .i64 0, .int .u32 0, .slice none 0 0] 0 [.int .i64 o] = [.int .i64 o, .int .u32 0, .slice none 0 0] := rfl
              have z2 : setAt [Value.int .i64 o, .int .u32 0, .slice none 0 0] 1 [.int .u32 g] = [.int .i64 o, .int .u32 g, .slice none 0 0] := rfl
              by_cases ho1 : o = -1
              · have ho1' := eq_true ho1
                by_cases hg0 : g = 0
                · have hg0' := eq_true hg0
                  simp (disch := first | assumption | omega | (simp only [wkX, *]; done) | (simp only [wkY]; omega)) only [g1, g3, g10, g12, g13, g14, hob', ho1', hg0', wkF, ↓reduceIte, reduceCtorEq, Nat.reduceAdd, Nat.reduceLeDiff, Nat.reduceMul, Nat.reduceLT, Nat.reduceEqDiff, wkG, wkH]
                  refine Is_in ?_
                  simp (disch := first | assumption | omega | (simp only [wkX, *]; done) | (simp only [wkY]; omega)) only [wkF, ↓reduceIte, reduceCtorEq, Nat.reduceAdd, Nat.reduceLeDiff, Nat.reduceMul, Nat.reduceLT, Nat.reduceEqDiff, wkG, wkH]
                  refine leaf2 (Or.inr (Or.inl ⟨hz, ?_, rfl, O2.drop⟩))
                  exact hnone (fun m => by have := m.1; rw [hrd] at this; exact of_decide_eq_true this (by rw [ho1, hg0]; rfl))
                · simp (disch := first | assumption | omega | (simp only [wkX, *]; done) | (simp only [wkY]; omega)) only [g1, g3, g10, g12, g13, g14, hob', ho1', hg0, wkF, ↓reduceIte, reduceCtorEq, Nat.reduceAdd, Nat.reduceLeDiff, Nat.reduceMul, Nat.reduceLT, Nat.reduceEqDiff, wkG, wkH]
                  refine X_drawn _ fun an => ?_
                  simp (disch := first | assumption | omega | (simp only [wkX, *]; done) | (simp only [wkY]; omega)) only [g1, g3, g10, g12, g13, g14, m1, h0', hi0, c0, c1, Int.toNat_natCast, hkn, Nat.zero_add, r11, q2', p2, ys, st3, z1, z2, hput, hfl, hin, yi, wkF, X_seq, Y_box, Y_store, Y_makeMap, Y_buildSlice, ↓reduceIte, reduceCtorEq, wkO, Nat.reduceAdd, Nat.reduceLeDiff, Nat.reduceMul, Nat.reduceLT, Nat.reduceEqDiff, wkG]
                  refine Is_in ⟨L.length - (i + 1), sub_lt' hk h0, i + 1, F.put k ⟨o, g⟩ [], rfl, rfl, rfl, rfl, rfl, rfl, rfl, h0, ?_, hb, O5⟩
                  rw [hf, rlds_some hk3 (fin (fun e => hg0 e.2)), hld]
              · simp (disch := first | assumption | omega | (simp only [wkX, *]; done) | (simp only [wkY]; omega)) only [g1, g3, g10, g12, g13, g14, hob', ho1, wkF, ↓reduceIte, reduceCtorEq, Nat.reduceAdd, Nat.reduceLeDiff, Nat.reduceMul, Nat.reduceLT, Nat.reduceEqDiff, wkG, wkH]
                refine X_drawn _ fun an => ?_
                simp (disch := first | assumption | omega | (simp only [wkX, *]; done) | (simp only [wkY]; omega)) only [g1, g3, g10, g12, g13, g14, m1, h0', hi0, c0, c1, Int.toNat_natCast, hkn, Nat.zero_add, r11, q2', p2, ys, st3, z1, z2, hput, hfl, hin, yi, wkF, X_seq, Y_box, Y_store, Y_makeMap, Y_buildSlice, ↓reduceIte, reduceCtorEq, wkO, Nat.reduceAdd, Nat.reduceLeDiff, Nat.reduceMul, Nat.reduceLT, Nat.reduceEqDiff, wkG]
                refine Is_in ⟨L.length - (i + 1), sub_lt' hk h0, i + 1, F.put k ⟨o, g⟩ [], rfl, rfl, rfl, rfl, rfl, rfl, rfl, h0, ?_, hb, O5⟩
                rw [hf, rlds_some hk3 (fin (fun e => ho1 e.1)), hld]
          · simp (disch := first | assumption | omega | (simp only [wkX, *]; done) | (simp only [wkY]; omega)) only [g1, g3, g10, g12, m1, hi, h0', hi0, c0, c1, hkn, Nat.zero_add, Int.toNat_natCast, r11, rd0, he, wkF, ↓reduceIte, reduceCtorEq, Nat.reduceAdd, Nat.reduceLeDiff, Nat.reduceMul, Nat.reduceLT, Nat.reduceEqDiff, wkG, wkH]
            refine Is_in ?_
            simp (disch := first | assumption | omega | (simp only [wkX, *]; done) | (simp only [wkY]; omega)) only [wkF, ↓reduceIte, reduceCtorEq, Nat.reduceAdd, Nat.reduceLeDiff, Nat.reduceMul, Nat.reduceLT, Nat.reduceEqDiff, wkG, wkH]
            refine leaf2 (Or.inr (Or.inl ⟨hz, ?_, rfl, O2.drop⟩))
            exact hnone (fun m => he (by rw [hmE m]; rfl))
          · have a1 := eq_true he1
            simp (disch := first | assumption | omega | (simp only [wkX, *]; done) | (simp only [wkY]; omega)) only [g1, g3, g10, g12, m1, hi, h0', hi0, c0, c1, hkn, Nat.zero_add, Int.toNat_natCast, r11, rd0, rd1, a1, he2, wkF, ↓reduceIte, reduceCtorEq, Nat.reduceAdd, Nat.reduceLeDiff, Nat.reduceMul, Nat.reduceLT, Nat.reduceEqDiff, wkG, wkH]
            refine Is_in ?_
            simp (disch := first | assumption | omega | (simp only [wkX, *]; done) | (simp only [wkY]; omega)) only [wkF, ↓reduceIte, reduceCtorEq, Nat.reduceAdd, Nat.reduceLeDiff, Nat.reduceMul, Nat.reduceLT, Nat.reduceEqDiff, wkG, wkH]
            refine leaf2 (Or.inr (Or.inl ⟨hz, ?_, rfl, O2.drop⟩))
            exact hnone (fun m => he2 (by rw [hmE m]; rfl))
        · simp (disch := first | assumption | omega | (simp only [wkX, *]; done) | (simp only [wkY]; omega)) only [g1, g3, g10, g12, hi, wkF, ↓reduceIte, reduceCtorEq, Nat.reduceAdd, Nat.reduceLeDiff, Nat.reduceMul, Nat.reduceLT, Nat.reduceEqDiff, wkG, wkH]
          refine Is_in ?_
          simp (disch := first | assumption | omega | (simp only [wkX, *]; done) | (simp only [wkY]; omega)) only [wkF, ↓reduceIte, reduceCtorEq, Nat.reduceAdd, Nat.reduceLeDiff, Nat.reduceMul, Nat.reduceLT, Nat.reduceEqDiff, wkG, wkH]
          refine leaf2 (Or.inr (Or.inl ⟨hz, ?_, rfl, O2.drop⟩))
          exact hnone (fun m => hi m.2.1)
      · have h5' : ¬ (x.B.length : Int) = 5 := by omega
        simp (maxSteps := 4000000) (disch := first | assumption | omega | (simp only [wkX, *]; done) | (simp only [wkY]; omega)) only [g1, g3, g10, g12, h5', wkF, ↓reduceIte, reduceCtorEq, Nat.reduceAdd, Nat.reduceLeDiff, Nat.reduceMul, Nat.reduceLT, Nat.reduceEqDiff, wkG, wkH]
        refine Is_in ?_
        simp (disch := first | assumption | omega | (simp only [wkX, *]; done) | (simp only [wkY]; omega)) only [wkF, ↓reduceIte, reduceCtorEq, Nat.reduceAdd, Nat.reduceLeDiff, Nat.reduceMul, Nat.reduceLT, Nat.reduceEqDiff, wkG, wkH]
        refine leaf2 (Or.inr (Or.inl ⟨hz, ?_, rfl, O2.drop⟩))
        exact hnone (fun m => by have := m.1; rw [rdE_len h5] at this; cases this)
    · simp (disch := first | assumption | omega | (simp only [wkX, *]; done) | (simp only [wkY]; omega)) only [g1, g3, g10, g12, h0', hi0, Int.toNat_natCast, r10, hk3, yi, wkF, ↓reduceIte, reduceCtorEq, Nat.reduceAdd, Nat.reduceLeDiff, Nat.reduceMul, Nat.reduceLT, Nat.reduceEqDiff, wkG, wkH]
      refine Is_in ⟨L.length - (i + 1), sub_lt' hk h0, i + 1, F, rfl, rfl, rfl, rfl, rfl, rfl, rfl, h0, ?_, hb, O2⟩
      rw [hf, rlds_skip hk3]
  have h0' : ¬ (i : Int) < (L.length : Int) := by omega
  simp (disch := first | assumption | omega | (simp only [wkX, *]; done) | (simp only [wkY]; omega)) only [g1, g3, g10, g12, h0', wkF, ↓reduceIte, reduceCtorEq, Nat.reduceAdd, Nat.reduceLeDiff, Nat.reduceMul, Nat.reduceLT, Nat.reduceEqDiff, wkG, wkH]
  refine Is_in ?_
  simp (disch := first | assumption | omega | (simp only [wkX, *]; done) | (simp only [wkY]; omega)) only [g1, g3, g10, g12, wkF, ↓reduceIte, reduceCtorEq, Nat.reduceAdd, Nat.reduceLeDiff, Nat.reduceMul, Nat.reduceLT, Nat.reduceEqDiff, wkG, wkH]
  refine leaf2 (Or.inr (Or.inr ⟨hz, F, rb, ?_, rfl, O2⟩))
  rw [hf, List.drop_eq_nil_of_le (by omega)]
  rfl
end
theorem env52 : env 52 = some ir52 := rfl
theorem env23 : env 23 = some ir23 := rfl
theorem ld_set {S : Ls} {x : Rq} (h : (rdE x.B).1 ≠ e0) : S.ld x = S.set x.nn (rdE x.B).1 := by
  unfold Ls.ld Ls.set setE
  rw [if_neg h]
theorem rdE_ne {B : List Nat} (h : (rdE B).2 = true) : B.length = 5 ∧ (rdE B).1 ≠ e0 := by
  by_cases h5 : B.length = 5
  · rw [rdE_5 h5] at h ⊢
    exact ⟨h5, of_decide_eq_true h⟩
  · rw [rdE_len h5] at h
    cases h
theorem rdE_rng {B : List Nat} (hB : ∀ i, at8 B i < 256) (h5 : B.length = 5) : 0 ≤ (rdE B).1.g ∧ (rdE B).1.g ≤ 4294967295 ∧ -1 ≤ (rdE B).1.o := by
  rw [rdE_5 h5]
  have h1 := gen_lt hB
  rw [← gen4_sum] at h1
  refine ⟨h1.1, h1.2, ?_⟩
  show -1 ≤ (if at8 B 0 = 255 then (-1 : Int) else (at8 B 0 : Int))
  split <;> omega
theorem lk_E0 {S : Ls} (v : Nv S) (c : Int) : lk S.ents c = none ↔ S.E c = e0 := by
  unfold Ls.E
  cases h : lk S.ents c with
  | none => exact ⟨fun _ => rfl, fun _ => rfl⟩
  | some e => exact ⟨fun k => (by cases k), fun k => absurd k (v.e c e h).1⟩
theorem may_iff {S : Ls} {F : Rf} (m : Sim S F) (x : Rq) : F.May x ↔ S.May x := by
  unfold Rf.May Ls.May
  rw [sim_is m, lk_E0 m.v, m.hr]
  constructor
  · rintro ⟨h1, h2, h3, h4⟩
    have := m.e x.nn.toNat
    rw [Int.toNat_of_nonneg h2.2.1] at this
    exact ⟨h1, by rw [← this]; exact h3, h2, h4⟩
  · rintro ⟨h1, h3, h2, h4⟩
    have := m.e x.nn.toNat
    rw [Int.toNat_of_nonneg h2.2.1] at this
    exact ⟨h1, h2, by rw [this]; exact h3, h4⟩
theorem sim_lds : ∀ (L : List Rq), (∀ x ∈ L, ∀ i, at8 x.B i < 256) → ∀ {S : Ls} {F : Rf}, Sim S F → (∀ c, S.W c = []) → (lds S L = none ∧ rlds F L = none) ∨ ∃ S' F', lds S L = some S' ∧ rlds F L = some F' ∧ Sim S' F'
  | [], _, S, F, m, _ => Or.inr ⟨S, F, rfl, rfl, m⟩
  | x :: L, hB, S, F, m, hW => by
    have ih := fun {S : Ls} {F : Rf} (m : Sim S F) (hW : ∀ c, S.W c = []) => sim_lds L (fun y hy => hB y (List.mem_cons_of_mem _ hy)) m hW
    by_cases hk : x.kd = 3
    · by_cases hm : S.May x
      · have hm' := (may_iff m x).2 hm
        have e1 : lds S (x :: L) = lds (S.ld x) L := by
          show (if x.kd = 3 then (if S.May x then lds (S.ld x) L else none) else lds S L) = _
          rw [if_pos hk, if_pos hm]
        rw [e1, rlds_some hk hm']
        obtain ⟨h5, hne⟩ := rdE_ne hm.1
        obtain ⟨g1, g2, g3⟩ := rdE_rng (hB x (List.mem_cons_self ..)) h5
        obtain ⟨k, hkn⟩ : ∃ k : Nat, x.nn = (k : Int) := ⟨x.nn.toNat, by have := hm.2.2.1.2.1; omega⟩
        have hkt : x.nn.toNat = k := by rw [hkn]; exact Int.toNat_natCast k
        have hl := ld_set (S := S) hne
        have hv := nv_set m.v (c := x.nn) (e := (rdE x.B).1) hm.2.2.1 ⟨g1, g2⟩ ⟨g3, hm.2.2.2⟩
        have hg := gi_set m.g (c := x.nn) (e := (rdE x.B).1) ⟨g1, g2⟩ (hW _)
        rw [hl]
        unfold Rf.ld
        rw [hkt]
        rw [hkn] at hv hg ⊢
        refine ih (sim_put m hv hg List.Pairwise.nil (fun h => absurd rfl h) ⟨rfl, rfl, rfl⟩ (fun y => E_set _ _ _ _) (fun y => ?_) (fun y => rfl)) hW
        show S.W y = _
        rw [hW]
        split <;> rfl
      · have hm' : ¬ F.May x := fun h => hm ((may_iff m x).1 h)
        refine Or.inl ⟨?_, rlds_none hk hm'⟩
        show (if x.kd = 3 then (if S.May x then lds (S.ld x) L else none) else lds S L) = none
        rw [if_pos hk, if_neg hm]
    · have e1 : lds S (x :: L) = lds S L := if_neg hk
      rw [e1, rlds_skip hk]
      exact ih m hW
theorem rrl_rec {S : Ls} {F : Rf} (m : Sim S F) : ∀ {k mm : Nat}, k ≤ F.C → (∀ i, i < mm ↔ S.at i < (k : Int)) → rrl F k = recl S mm
  | 0, mm, _, hm => by
    have : mm = 0 := by
      rcases Nat.eq_zero_or_pos mm with e | e
      · exact e
      · have h1 := (hm 0).1 e
        have h2 := (at_pos m.v.w.z 0).1
        omega
    subst this
    rfl
  | k + 1, mm, hkC, hm => by
    have z := m.v.w.z
    by_cases hi : S.Is (k : Int)
    · obtain ⟨j, hj⟩ := is_at z hi
      have e1 : mm = j + 1 := by
        have h1 := (hm j).2 (by rw [← hj]; omega)
        rcases Nat.lt_or_ge (j + 1) mm with h2 | h2
        · have h3 := (hm (j + 1)).1 h2
          have h4 := (at_lt' z (i := j) (j := j + 1)).2 (by omega)
          omega
        · omega
      subst e1
      have ih := rrl_rec m (k := k) (mm := j) (by omega) (fun i => by rw [hj]; exact (at_lt' z).symm)
      show _ = recl S j ++ (match lk S.ents (S.at j) with | some e => [(S.at j, e)] | none => [])
      rw [← ih, ← hj]
      cases hl : lk S.ents (k : Int) with
      | none =>
        have he : F.E k = e0 := by rw [m.e]; exact (lk_E0 m.v _).1 hl
        rw [rrl_no (fun x => x.2 he), List.append_nil]
      | some e =>
        have he : F.E k = e := by
          rw [m.e]
          unfold Ls.E
          rw [hl]
          rfl
        rw [rrl_yes ⟨(sim_is m _).2 hi, by rw [he]; exact (m.v.e _ _ hl).1⟩, he]
    · have hC := m.hC
      have hne : ∀ i, S.at i ≠ (k : Int) := fun i e => hi (by rw [← e]; exact at_is z ((lt_N z i).2 (by rw [e]; omega)))
      rw [rrl_no (fun x => hi ((sim_is m _).1 x.1))]
      exact rrl_rec m (by omega) (fun i => by
        have h1 := hne i
        have h2 := hm i
        rw [h2]
        omega)
theorem eq_iv_self (x : It) : vEqAgg true [.int, .int, .int] (iv x) (iv x) = some (.bool false) := by
  unfold vEqAgg aggEq iv
  simp [cellsEq, cellEq]
section
variable {ro : Nat → Option (List Value × Nat)} {h : Heap} {R : List Rs} {n lb rb : Nat} {S : Ls} {F : Rf}
theorem samew_h {va vb : Value} {l : List It} (h8 : l.length ≤ 8) (hn : 20 < n) (Va : Vw 3 ic h va l) (Vb : Vw 3 ic h vb l) : (callV env (n + 1) (.func (.func 52) #[] #[]) [va, vb] h).Is fun p => p = (.bool true, h) := by
  obtain ⟨pa, ca, rfl, _⟩ := Va.len
  obtain ⟨pb, cb, rfl, _⟩ := Vb.len
  refine call_is env52 ?_
  simp (disch := first | assumption | omega | (simp only [wkX, *]; done) | (simp only [wkY]; omega)) only [ir52, Nat.reduceAdd, Nat.reduceSub, wkF, ↓reduceIte, reduceCtorEq, Nat.reduceLeDiff, Nat.reduceMul, Nat.reduceLT, Nat.reduceEqDiff, wkN, wkG, wkH]
  refine L_is (fun q s => ∃ i : Nat, q = l.length - i ∧ i ≤ l.length ∧ s.defers = [] ∧ s.tmps.length = 26 ∧ s.tmps.getD 0 undefV = .slice pa l.length ca ∧ s.tmps.getD 1 undefV = .slice pb l.length cb ∧ s.tmps.getD 5 undefV = .int .i64 (i : Int) ∧ s.h = h) l.length ?_ (by omega) ?_
  · exact ⟨0, rfl, Nat.zero_le _, rfl, rfl, rfl, rfl, rfl, rfl⟩
  rintro q tm df h2 ⟨i, hk, hi, hd, hlen_, g0, g1, g5, hh⟩
  simp only at hd g0 g1 g5 hh
  subst hd hh
  obtain ⟨w, hg_, rfl⟩ := explode hlen_
  simp only [hg_] at g0 g1 g5
  clear hlen_ hg_
  by_cases h0 : i < l.length
  · have h0' : (i : Int) < (l.length : Int) := by omega
    have hi0 : (0 : Int) ≤ (i : Int) := by omega
    have ga : l[i]? = some l[i] := List.getElem?_eq_getElem h0
    generalize l[i] = x at ga
    obtain ⟨b1, off1, sp1, c1, hv1, _, r1⟩ := Va.rd ic_len ga
    obtain ⟨b2, off2, sp2, c2, hv2, _, r2⟩ := Vb.rd ic_len ga
    have e1 : pa = some ⟨b1, off1, sp1⟩ := by injection hv1
    have e2 : pb = some ⟨b2, off2, sp2⟩ := by injection hv2
    subst e1 e2
    have yi : IntKind.i64.wrap ((i : Int) + 1) = ((i + 1 : Nat) : Int) := by rw [wrap_i64 (by omega) (by omega)]; omega
    have hq := eq_iv_self x
    simp (disch := first | assumption | omega | (simp only [wkX, *]; done) | (simp only [wkY]; omega)) only [g0, g1, g5, h0', wkF, ↓reduceIte, reduceCtorEq, Nat.reduceAdd, Nat.reduceLeDiff, Nat.reduceMul, Nat.reduceLT, Nat.reduceEqDiff, wkG, wkH]
    refine X_drawn _ fun an => ?_
    simp (disch := first | assumption | omega | (simp only [wkX, *]; done) | (simp only [wkY]; omega)) only [g0, g1, g5, h0', hi0, Int.toNat_natCast, r1, r2, agg_ic, hq, yi, wkF, ↓reduceIte, reduceCtorEq, Nat.reduceAdd, Nat.reduceLeDiff, Nat.reduceMul, Nat.reduceLT, Nat.reduceEqDiff, wkG, wkH]
    exact Is_in ⟨l.length - (i + 1), by omega, i + 1, rfl, h0, rfl, rfl, rfl, rfl, rfl, rfl⟩
  · have h0' : ¬ (i : Int) < (l.length : Int) := by omega
    simp (disch := first | assumption | omega | (simp only [wkX, *]; done) | (simp only [wkY]; omega)) only [g0, g1, g5, h0', wkF, ↓reduceIte, reduceCtorEq, Nat.reduceAdd, Nat.reduceLeDiff, Nat.reduceMul, Nat.reduceLT, Nat.reduceEqDiff, wkG, wkH]
    refine Is_in ?_
    simp (disch := first | assumption | omega | (simp only [wkX, *]; done) | (simp only [wkY]; omega)) only [g0, g1, g5, wkF, ↓reduceIte, reduceCtorEq, Nat.reduceAdd, Nat.reduceLeDiff, Nat.reduceMul, Nat.reduceLT, Nat.reduceEqDiff, wkG, wkH]
    exact leaf1 rfl
theorem view_seen {an : List (List Nat)} {i : Nat} {v : Value} {l : List It} (V : View h v l) : View (seen0 an i [] h) v l := by
  obtain ⟨p, c, e, k⟩ := V
  refine ⟨p, c, e, fun h0 => ?_⟩
  obtain ⟨b, sp, rest, zz, t, k1, k2, k3⟩ := k h0
  exact ⟨b, sp, rest, zz, t, k1, by rw [seen0_next]; exact k2, by rw [seen0_nil_get]; exact k3⟩
theorem waiters_n2 : (callV env (n + 1) (.func (.func 53) #[] #[]) [.pointer none] h).Is fun p => p = (.slice none 0 0, h) := by
  refine call_is env53 ?_
  simp (disch := first | assumption | omega | (simp only [wkX, *]; done) | (simp only [wkY]; omega)) only [ir53, Nat.reduceAdd, Nat.reduceSub, vEqPtr_none, Bool.not_false, wkF, ↓reduceIte, reduceCtorEq, Nat.reduceLeDiff, Nat.reduceMul, Nat.reduceLT, Nat.reduceEqDiff, wkN, wkG, wkH]
  exact leaf1 rfl
theorem New.scNil {α : Type} {z : Nat} {g : α → List Value} {h h' : Heap} : New h h' (Sc z g (.slice none 0 0) ([] : List α)) := ⟨fun _ => False, Or.inl ⟨rfl, rfl, fun _ h => h⟩, fun _ h => h.elim⟩
theorem waiters_e {eb qb tb : Nat} (c : Int) (hf : h.Fine) (hi : S.Is c) (gl : h.get lb = some (.cells (lc S eb qb tb) 1 false)) (lq : vLookup h none (.pointer none) false (.map (some qb)) (.int .i64 c) = some (S.q c))
    (hq : (S.q c = .pointer none ∧ S.W c = []) ∨ ∃ b v, S.q c = .pointer (some ⟨b, 0, none⟩) ∧ h.get b = some (.cells [v] 1 false) ∧ View h v (S.W c)) (h8 : (S.W c).length ≤ 8) :
    (callV env (n + 3) (.func (.func 24) #[] #[]) [.pointer (some ⟨lb, 0, none⟩), .int .i64 c] h).Is fun p => Ext h p.2 ∧ New h p.2 (Sc 3 ic p.1 (S.W c)) ∧ True := by
  refine call_is env24 ?_
  simp (disch := first | assumption | omega | (simp only [wkX, *]; done) | (simp only [wkY]; omega)) only [ir24, Nat.reduceAdd, Nat.reduceSub, wkF, ↓reduceIte, reduceCtorEq, Nat.reduceLeDiff, Nat.reduceMul, Nat.reduceLT, Nat.reduceEqDiff, wkN, wkG, wkH]
  refine Z_is (is_g (n := n) c gl) ?_
  rintro v1 h1 ⟨rfl, rfl⟩
  have gl' := gl
  unfold lc at gl'
  rcases hq with ⟨e, eW⟩ | ⟨b, v, e, gb, Vb⟩
  · simp (disch := first | assumption | omega | (simp only [wkX, *]; done) | (simp only [wkY]; omega)) only [hi, gl', lq, e, wkF, ↓reduceIte, reduceCtorEq, Nat.reduceAdd, Nat.reduceLeDiff, Nat.reduceMul, Nat.reduceLT, Nat.reduceEqDiff, wkG, wkH]
    refine Z_is (waiters_n2 (n := n + 1)) ?_
    rintro v2 h2 e2
    cases e2
    simp (disch := first | assumption | omega | (simp only [wkX, *]; done) | (simp only [wkY]; omega)) only [wkF, ↓reduceIte, reduceCtorEq, Nat.reduceAdd, Nat.reduceLeDiff, Nat.reduceMul, Nat.reduceLT, Nat.reduceEqDiff, wkG, wkH]
    refine leaf1 ⟨Ext.refl _, ?_⟩
    rw [eW]
    exact New.scNil
  · simp (disch := first | assumption | omega | (simp only [wkX, *]; done) | (simp only [wkY]; omega)) only [hi, gl', lq, e, wkF, ↓reduceIte, reduceCtorEq, Nat.reduceAdd, Nat.reduceLeDiff, Nat.reduceMul, Nat.reduceLT, Nat.reduceEqDiff, wkG, wkH]
    refine Z_is (R := fun q => Ext h q.2 ∧ New h q.2 (Sc 3 ic q.1 (S.W c))) ?_ ?_
    · refine call_is env53 ?_
      simp (disch := first | assumption | omega | (simp only [wkX, *]; done) | (simp only [wkY]; omega)) only [ir53, Nat.reduceAdd, Nat.reduceSub, gb, wkF, ↓reduceIte, reduceCtorEq, Nat.reduceLeDiff, Nat.reduceMul, Nat.reduceLT, Nat.reduceEqDiff, wkN, wkG, wkH]
      refine Z_is (clone_n (n := n) (by omega) hf Vb) ?_
      rintro v2 k2 ⟨q1, q2⟩
      simp (disch := first | assumption | omega | (simp only [wkX, *]; done) | (simp only [wkY]; omega)) only [wkF, ↓reduceIte, reduceCtorEq, Nat.reduceAdd, Nat.reduceLeDiff, Nat.reduceMul, Nat.reduceLT, Nat.reduceEqDiff, wkG, wkH]
      exact leaf1 ⟨q1, q2⟩
    · rintro v2 h2 ⟨e2, n2⟩
      simp (disch := first | assumption | omega | (simp only [wkX, *]; done) | (simp only [wkY]; omega)) only [wkF, ↓reduceIte, reduceCtorEq, Nat.reduceAdd, Nat.reduceLeDiff, Nat.reduceMul, Nat.reduceLT, Nat.reduceEqDiff, wkG, wkH]
      exact leaf1 ⟨e2, n2⟩
end
theorem hold_v {S : Ls} (v : Nv S) (c : Int) : (if S.Is c then Value.tuple #[.int .i64 (S.E c).o, .int .u32 (S.E c).g] else .tuple #[.int .i64 (-1), .int .u32 0]) = .tuple #[.int .i64 (S.E c).o, .int .u32 (S.E c).g] := by
  split
  · rfl
  · rename_i h
    rw [eo_not v h]
    rfl
theorem bne_tt : (true != true) = false := rfl
theorem bne_bb (b : Bool) : ((b == b) != true) = false := by cases b <;> rfl
theorem xor_bb (b : Bool) : (b != b) = false := by cases b <;> rfl
section
variable {ro : Nat → Option (List Value × Nat)} {h : Heap} {R : List Rs} {n lb rb : Nat} {S : Ls} {F : Rf}
theorem q_view (m : Wf S) (c : Int) (O : Has ro h (Lg lb S :: R)) : (S.q c = .pointer none ∧ S.W c = []) ∨ ∃ b v, S.q c = .pointer (some ⟨b, 0, none⟩) ∧ h.get b = some (.cells [v] 1 false) ∧ View h v (S.W c) := by
  unfold Ls.q
  cases hk : lk S.qs c with
  | none => exact Or.inl ⟨rfl, m.q c hk⟩
  | some b =>
    obtain ⟨L, O1, k⟩ := Has.lgQ hk O
    obtain ⟨v, sb, Q, k⟩ := Has.qr O1
    exact Or.inr ⟨b, v, rfl, Q.at_, Q.view⟩
theorem alike_h (c r : Int) (m : Sim S F) (hn : 1400 < n) (O : Has ro h (Lg lb S :: Rg rb F :: R)) :
    (callV env (n + 22) (.func (.func 23) #[] #[]) [.pointer (some ⟨lb, 0, none⟩), .pointer (some ⟨rb, 0, none⟩), .int .i64 c, .int .i64 r] h).Is fun p => p.1 = .bool true ∧ Has ro p.2 (Lg lb S :: Rg rb F :: R) := by
  have u := sim_rw m
  refine call_is env23 ?_
  simp (disch := first | assumption | omega | (simp only [wkX, *]; done) | (simp only [wkY]; omega)) only [ir23, Nat.reduceAdd, Nat.reduceSub, wkF, ↓reduceIte, reduceCtorEq, Nat.reduceLeDiff, Nat.reduceMul, Nat.reduceLT, Nat.reduceEqDiff, wkN, wkG, wkH]
  refine Z_is (holder_h (n := n + 18) c O) ?_
  rintro v h1 ⟨rfl, O1⟩
  simp only at O1
  rw [hold_v m.v]
  clear O
  generalize hT : decide (S.Rob r ∧ 0 < S.T r) = tb0
  simp (disch := first | assumption | omega | (simp only [wkX, *]; done) | (simp only [wkY]; omega)) only [wkF, Y_box, Y_store, Y_makeMap, Y_buildSlice, ↓reduceIte, reduceCtorEq, wkO, wkS, Nat.reduceAdd, Nat.reduceLeDiff, Nat.reduceMul, Nat.reduceLT, Nat.reduceEqDiff, wkG]
  rw [X_seq]
  refine X_cut0 (fun s => s.tmps.length = 113 ∧ s.tmps.getD 0 undefV = .pointer (some ⟨lb, 0, none⟩) ∧ s.tmps.getD 1 undefV = .pointer (some ⟨rb, 0, none⟩) ∧ s.tmps.getD 2 undefV = .int .i64 c ∧ s.tmps.getD 3 undefV = .int .i64 r ∧ s.tmps.getD 9 undefV = .int .i64 (S.E c).o ∧ s.tmps.getD 10 undefV = .int .u32 (S.E c).g ∧ s.tmps.getD 11 undefV = .bool tb0 ∧ s.h = h1) ?_ ?_
  · by_cases r0 : 0 ≤ r
    · have r0' : r ≥ 0 := r0
      by_cases r1 : r < (F.rob : Int)
      · obtain ⟨k, hk⟩ : ∃ k : Nat, r = (k : Int) := ⟨r.toNat, by omega⟩
        have hkt : r.toNat = k := by rw [hk]; exact Int.toNat_natCast k
        have hkr : k < F.rob := by omega
        have hrob : S.Rob r := (sim_rob m r).1 ⟨r0, r1⟩
        obtain ⟨cb, tb, m1, m2⟩ := rg_at hkr (O1.at 1 rfl)
        have hFT := m.t k hkr
        rw [← hk] at hFT
        by_cases ht : 0 < S.T r
        · rw [if_pos ht] at hFT
          rw [hFT] at m2
          have e1 : tb0 = true := by rw [← hT]; exact decide_eq_true ⟨hrob, ht⟩
          subst e1
          simp (disch := first | assumption | omega | (simp only [wkX, *]; done) | (simp only [wkY]; omega)) only [r0, r0', r1, m1, m2, hkt, Nat.zero_add, Nat.mul_one, wkF, ↓reduceIte, reduceCtorEq, Nat.reduceAdd, Nat.reduceLeDiff, Nat.reduceMul, Nat.reduceLT, Nat.reduceEqDiff, wkG, wkH]
          exact mid_in ⟨rfl, rfl, rfl, rfl, rfl, rfl, rfl, rfl, rfl⟩
        · rw [if_neg ht] at hFT
          rw [hFT] at m2
          have e1 : tb0 = false := by rw [← hT]; exact decide_eq_false fun x => ht x.2
          subst e1
          simp (disch := first | assumption | omega | (simp only [wkX, *]; done) | (simp only [wkY]; omega)) only [r0, r0', r1, m1, m2, hkt, Nat.zero_add, Nat.mul_one, wkF, ↓reduceIte, reduceCtorEq, Nat.reduceAdd, Nat.reduceLeDiff, Nat.reduceMul, Nat.reduceLT, Nat.reduceEqDiff, wkG, wkH]
          exact mid_in ⟨rfl, rfl, rfl, rfl, rfl, rfl, rfl, rfl, rfl⟩
      · obtain ⟨cb, tb, m1⟩ := rg_get (O1.at 1 rfl)
        have e1 : tb0 = false := by rw [← hT]; exact decide_eq_false fun x => r1 ((sim_rob m r).2 x.1).2
        subst e1
        simp (disch := first | assumption | omega | (simp only [wkX, *]; done) | (simp only [wkY]; omega)) only [r0', r1, m1, wkF, ↓reduceIte, reduceCtorEq, Nat.reduceAdd, Nat.reduceLeDiff, Nat.reduceMul, Nat.reduceLT, Nat.reduceEqDiff, wkG, wkH]
        exact mid_in ⟨rfl, rfl, rfl, rfl, rfl, rfl, rfl, rfl, rfl⟩
    · have r0' : ¬ r ≥ 0 := r0
      have e1 : tb0 = false := by rw [← hT]; exact decide_eq_false fun x => r0 ((sim_rob m r).2 x.1).1
      subst e1
      simp (disch := first | assumption | omega | (simp only [wkX, *]; done) | (simp only [wkY]; omega)) only [r0', wkF, ↓reduceIte, reduceCtorEq, Nat.reduceAdd, Nat.reduceLeDiff, Nat.reduceMul, Nat.reduceLT, Nat.reduceEqDiff, wkG, wkH]
      exact mid_in ⟨rfl, rfl, rfl, rfl, rfl, rfl, rfl, rfl, rfl⟩
  rintro tm h2 ⟨hlen_, g0, g1, g2, g3, g9, g10, g11, hh⟩
  simp only at g0 g1 g2 g3 g9 g10 g11 hh
  obtain ⟨w, hg_, rfl⟩ := explode hlen_
  simp only [hg_] at g0 g1 g2 g3 g9 g10 g11
  clear hlen_ hg_
  subst hh
  simp (disch := first | assumption | omega | (simp only [wkX, *]; done) | (simp only [wkY]; omega)) only [g0, g1, g2, g3, g9, g10, g11, wkF, ↓reduceIte, reduceCtorEq, Nat.reduceAdd, Nat.reduceLeDiff, Nat.reduceMul, Nat.reduceLT, Nat.reduceEqDiff, wkG, wkH]
  refine Z_is (is_h (n := n + 19) c O1) ?_
  rintro v h3 ⟨rfl, rfl⟩
  simp (disch := first | assumption | omega | (simp only [wkX, *]; done) | (simp only [wkY]; omega)) only [g0, g1, g2, g3, g9, g10, g11, wkF, ↓reduceIte, reduceCtorEq, Nat.reduceAdd, Nat.reduceLeDiff, Nat.reduceMul, Nat.reduceLT, Nat.reduceEqDiff, wkG, wkH]
  refine Z_is (ris_h (n := n + 20) c u.z.r1 (O1.at 1 rfl)) ?_
  rintro v h4 ⟨rfl, rfl⟩
  have hd : decide (F.Is c) = decide (S.Is c) := decide_eq_decide.2 (sim_is m c)
  simp (disch := first | assumption | omega | (simp only [wkX, *]; done) | (simp only [wkY]; omega)) only [g0, g1, g2, g3, g9, g10, g11, hd, xor_bb, bne_bb, wkF, ↓reduceIte, reduceCtorEq, Nat.reduceAdd, Nat.reduceLeDiff, Nat.reduceMul, Nat.reduceLT, Nat.reduceEqDiff, wkG, wkH]
  refine Z_is (told_h (n := n + 18) r O1) ?_
  rintro v h5 ⟨rfl, rfl⟩
  rw [hT]
  simp (disch := first | assumption | omega | (simp only [wkX, *]; done) | (simp only [wkY]; omega)) only [g0, g1, g2, g3, g9, g10, g11, xor_bb, bne_bb, wkF, ↓reduceIte, reduceCtorEq, Nat.reduceAdd, Nat.reduceLeDiff, Nat.reduceMul, Nat.reduceLT, Nat.reduceEqDiff, wkG, wkH]
  refine Z_is (records_h (n := n + 1) m.v.w (by omega) O1) ?_
  rintro v54 h6 O6
  simp only at O6
  obtain ⟨ws, hws, O6⟩ := Has.rvOpen O6
  obtain ⟨pw, cw, rfl, _⟩ := O6.scVal 0 rfl
  replace O6 : Has ro h6 (Rg rb F :: Sc 3 wc (.slice pw ws.length cw) ws :: Dts ws :: Lg lb S :: R) := O6.at 3 rfl
  simp (disch := first | assumption | omega | (simp only [wkX, *]; done) | (simp only [wkY]; omega)) only [g0, g1, g2, g3, g9, g10, g11, wkF, ↓reduceIte, reduceCtorEq, Nat.reduceAdd, Nat.reduceLeDiff, Nat.reduceMul, Nat.reduceLT, Nat.reduceEqDiff, wkG, wkH]
  refine Z_is (rrecords_h (n := n + 17) u (by omega) O6) ?_
  rintro v56 h7 O7
  simp only at O7
  obtain ⟨ws2, hws2, O7⟩ := Has.rvOpen O7
  obtain ⟨pw2, cw2, rfl, _⟩ := O7.scVal 0 rfl
  replace O7 : Has ro h7 (Sc 3 wc (.slice pw2 ws2.length cw2) ws2 :: Dts ws2 :: Rg rb F :: Sc 3 wc (.slice pw ws.length cw) ws :: Dts ws :: Lg lb S :: R) := O7
  have hrr : rrl F F.C = recl S S.N := rrl_rec m (Nat.le_refl _) fun i => by
    rw [m.hC]
    exact lt_N m.v.w.z i
  have hkk : ws.map keyW = ws2.map keyW := hws.trans (hrr.symm.trans hws2.symm)
  have hwl : ws.length ≤ 1024 := by
    have h1 := congrArg List.length hws
    rw [List.length_map] at h1
    have h2 := recl_len S S.N
    have h3 := N_le m.v.w.z
    omega
  have va := Vw.mapV toR (O7.vw 3 rfl) wc_rq
  have vb := Vw.mapV toR (O7.vw 0 rfl) wc_rq
  have da := Has.dtsVw (O7.at 4 rfl)
  have db := Has.dtsVw (O7.at 1 rfl)
  simp (disch := first | assumption | omega | (simp only [wkX, *]; done) | (simp only [wkY]; omega)) only [g0, g1, g2, g3, g9, g10, g11, wkF, ↓reduceIte, reduceCtorEq, Nat.reduceAdd, Nat.reduceLeDiff, Nat.reduceMul, Nat.reduceLT, Nat.reduceEqDiff, wkG, wkH]
  refine Z_is (samerec_h (n := n + 20) (A := ws.map toR) (B := ws2.map toR) (by rw [List.length_map]; omega) (by rw [List.length_map]; omega) (keyW_rk hkk) va vb (fun x hx => by
    obtain ⟨w, hw, rfl⟩ := List.mem_map.1 hx
    exact da w hw) (fun x hx => by
    obtain ⟨w, hw, rfl⟩ := List.mem_map.1 hx
    exact db w hw)) ?_
  rintro _ _ hh
  cases hh
  clear va vb da db
  replace O7 : Has ro h7 (Rg rb F :: Lg lb S :: R) := (((O7.rid 4 rfl).rid 3 rfl).rid 1 rfl).rid 0 rfl
  clear O6 O1
  simp (disch := first | assumption | omega | (simp only [wkX, *]; done) | (simp only [wkY]; omega)) only [g0, g1, g2, g3, g9, g10, g11, wkF, ↓reduceIte, reduceCtorEq, Nat.reduceAdd, Nat.reduceLeDiff, Nat.reduceMul, Nat.reduceLT, Nat.reduceEqDiff, wkG, wkH]
  refine Z_is (ris_h (n := n + 20) c u.z.r1 O7) ?_
  rintro v h8 ⟨rfl, rfl⟩
  rw [hd]
  by_cases hi : S.Is c
  · have hdi : decide (S.Is c) = true := decide_eq_true hi
    obtain ⟨k, rfl⟩ : ∃ k : Nat, c = (k : Int) := ⟨c.toNat, by have := hi.2.1; omega⟩
    have hi2 := (sim_is m _).2 hi
    have hc : k < F.C := by have := hi2.2.1; omega
    have c0 : (0 : Int) ≤ (k : Int) := by omega
    have c1 : (k : Int) < (F.C : Int) := by omega
    obtain ⟨cb, tb, q, pq, cq, hqc, rd, rd0, rd1, rd2, O9⟩ := rg_take hc O7
    have m1 := O9.get 0 rfl
    unfold rfc at m1
    have g2' := O9.get 1 rfl
    rw [m.e] at rd0 rd1
    obtain ⟨eb, qb, tb2, gl, lq⟩ := Has.lgLook (O9.at 5 rfl)
    have hqv := q_view m.v.w (k : Int) (O9.at 5 rfl)
    simp (disch := first | assumption | omega | (simp only [wkX, *]; done) | (simp only [wkY]; omega)) only [g0, g1, g2, g3, g9, g10, g11, hdi, wkF, ↓reduceIte, reduceCtorEq, Nat.reduceAdd, Nat.reduceLeDiff, Nat.reduceMul, Nat.reduceLT, Nat.reduceEqDiff, wkG, wkH]
    refine X_drawn _ fun an => ?_
    simp (maxSteps := 4000000) (disch := first | assumption | omega | (simp only [wkX, *]; done) | (simp only [wkY]; omega)) only [g0, g1, g2, g3, g9, g10, g11, m1, c0, c1, Int.toNat_natCast, Nat.zero_add, rd0, rd1, wkF, ↓reduceIte, reduceCtorEq, Nat.reduceAdd, Nat.reduceLeDiff, Nat.reduceMul, Nat.reduceLT, Nat.reduceEqDiff, wkG, wkH]
    refine DF_newO (R := fun _ => True) (p := fun v => Sc 3 ic v (S.W (k : Int))) O9 (waiters_e (n := n + 18) (k : Int) (seen0_fine (fr := []) O9.fine (by intro x hx; cases hx)) hi (by rw [seen0_nil_get]; exact gl) (by rw [vLookup_seen]; exact lq (k : Int)) (by
      rcases hqv with ⟨e1, e2⟩ | ⟨b, v, e1, e2, e3⟩
      · exact Or.inl ⟨e1, e2⟩
      · exact Or.inr ⟨b, v, e1, by rw [seen0_nil_get]; exact e2, view_seen e3⟩) (m.v.w.w8 _)) ?_
    rintro v h9 f _ O10 e10 hf10
    have hs : ∀ (j b : Nat), b < 2 * h7.next → (seen0 an j f h9).get b = h9.get b := fun j b hb => seen0_get (Or.inr fun x hx => Or.inl (by have := (hf10 x hx).1; omega))
    have k1 : ∀ j, (seen0 an j f h9).get rb = _ := fun j => (hs j rb (O9.info (i := 0) rfl).2.2.2.1).trans ((O10.get 1 rfl).trans (by unfold rfc; rfl))
    have k2 : ∀ j, readC ((seen0 an j f h9).get cb) (k * 3 + 2) 1 = some [.slice pq (F.W k).length cq] := fun j => by
      rw [hs j cb (O9.info (i := 1) rfl).2.2.2.1, O10.get 2 rfl, ← g2']
      exact rd2
    simp (maxSteps := 4000000) (disch := first | assumption | omega | (simp only [wkX, *]; done) | (simp only [wkY]; omega)) only [g0, g1, g2, g3, g9, g10, g11, k1, k2, c0, c1, Int.toNat_natCast, Nat.zero_add, wkF, ↓reduceIte, reduceCtorEq, Nat.reduceAdd, Nat.reduceLeDiff, Nat.reduceMul, Nat.reduceLT, Nat.reduceEqDiff, wkG, wkH]
    have h8 := m.v.w.w8 (k : Int)
    have vb : Vw 3 ic h9 (.slice pq (F.W k).length cq) (S.W (k : Int)) := by
      have := O10.vw 5 rfl
      rw [m.q k] at this ⊢
      exact this
    refine DB_is (samew_h (n := n + 20) (l := S.W (k : Int)) h8 (by omega) (O10.vw 0 rfl) vb) ?_
    rintro _ _ hh
    cases hh
    simp (maxSteps := 4000000) (disch := first | assumption | omega | (simp only [wkX, *]; done) | (simp only [wkY]; omega)) only [g0, g1, g2, g3, g9, g10, g11, wkF, ↓reduceIte, reduceCtorEq, Nat.reduceAdd, Nat.reduceLeDiff, Nat.reduceMul, Nat.reduceLT, Nat.reduceEqDiff, wkG, wkH]
    have O11 := O10.rid 0 rfl
    replace O11 : Has ro h9 (Ob rb (.cells (rfc F cb tb) 1 false) :: Ob cb (.cells ((rcs F q).flatMap rcell) 3 false) :: Ob tb (.cells ((rts F).flatMap zc) 1 false) :: Rrest F.W q F.C k :: Sc 3 ic (.slice pq (F.W k).length cq) (F.W k) :: Lg lb S :: R) := O11
    rw [← hqc] at O11
    exact leaf1 ⟨rfl, (rg_back hc O11).swap2⟩
  · have hdi : decide (S.Is c) = false := decide_eq_false hi
    have he := eo_not m.v hi
    have he1 : (S.E c).o = -1 := by rw [he]; rfl
    have he2 : (S.E c).g = 0 := by rw [he]; rfl
    simp (disch := first | assumption | omega | (simp only [wkX, *]; done) | (simp only [wkY]; omega)) only [g0, g1, g2, g3, g9, g10, g11, hdi, he1, he2, wkF, ↓reduceIte, reduceCtorEq, Nat.reduceAdd, Nat.reduceLeDiff, Nat.reduceMul, Nat.reduceLT, Nat.reduceEqDiff, wkG, wkH]
    refine Z_is (waiters_h (n := n + 18) c m.v.w (O7.at 1 rfl)) ?_
    rintro v h9 O10
    simp only at O10
    rw [if_neg hi] at O10
    obtain ⟨p9, c9, rfl, _⟩ := O10.scVal 0 rfl
    have hz : ([] : List It).length = 0 := rfl
    simp (disch := first | assumption | omega | (simp only [wkX, *]; done) | (simp only [wkY]; omega)) only [g0, g1, g2, g3, g9, g10, g11, hz, wkF, ↓reduceIte, reduceCtorEq, Nat.reduceAdd, Nat.reduceLeDiff, Nat.reduceMul, Nat.reduceLT, Nat.reduceEqDiff, wkG, wkH]
    exact leaf1 ⟨rfl, O10.drop⟩
end
theorem env4 : env 4 = some ir4 := rfl
theorem sub_lt7 {a i q : Nat} (hk : q = a - i) (h : i < a) : a - (i + 1) < q := by omega
theorem sim_new {a b c : Int} (h : Szs a b c) : Sim (lz a b c) (rz0 a b.toNat c.toNat) := by
  obtain ⟨h1, h2, h3, h4, h5, h6⟩ := h
  refine ⟨nv_lz ⟨h1, h2, h3, h4, h5, h6⟩, gi_lz ⟨h1, h2, h3, h4, h5, h6⟩, fun x => List.Pairwise.nil, fun x hx => absurd rfl hx, rfl, Int.toNat_of_nonneg (by omega), Int.toNat_of_nonneg (by omega), fun x => rfl, fun x => rfl, fun r hr => ?_⟩
  show (if (r : Int) = a then (1 : Int) else 0) = if 0 < (lk [(a, (1 : Int))] (r : Int)).getD 0 then 1 else 0
  by_cases e : (r : Int) = a
  · have h1 : lk [(a, (1 : Int))] (r : Int) = some 1 := by
      rw [lk_cons]
      exact if_pos e.symm
    rw [if_pos e, h1]
    rfl
  · have h1 : lk [(a, (1 : Int))] (r : Int) = none := by
      rw [lk_cons]
      exact if_neg fun k => e k.symm
    rw [if_neg e, h1]
    rfl
structure OkX (ro : Nat → Option (List Value × Nat)) (x : Rq) : Prop where
  s : ∃ p c, x.dv = .slice p x.B.length c
  v : ∀ (M : List Rs) (h : Heap), Has ro h M → Vw 1 bx h x.dv x.B
  b : ∀ i, at8 x.B i < 256
theorem OkX.r {ro : Nat → Option (List Value × Nat)} {x : Rq} (k : OkX ro x) (R : List Rs) : OkR ro R x := ⟨k.s, fun M h O => k.v _ h O, k.b⟩
theorem flat_u8 {P : Program} {d : Nat} {ro : Nat → Option (List Value × Nat)} {v : Value} (h : DFit P ro d (.flat (.int .u8)) v) : ∃ x : Nat, v = .int .u8 (x : Int) ∧ x < 256 := by
  have h2 : ∃ x : Int, v = .int .u8 x ∧ 0 ≤ x ∧ x ≤ 255 := by cases d <;> exact h
  obtain ⟨x, rfl, h1, h3⟩ := h2
  exact ⟨x.toNat, by rw [Int.toNat_of_nonneg h1], by omega⟩
theorem u8_kinds : dkOf Try.prog 8 5 = some [.flat (.int .u8)] := by kernel_rfl
theorem u8_size : Try.prog.cellsOf 5 = 1 := by kernel_rfl
theorem rq_kinds : dkOf Try.prog 8 44 = some [.flat (.int .i64), .flat (.int .i64), .slice 5] := by kernel_rfl
theorem rq_size : Try.prog.cellsOf 44 = 3 := by kernel_rfl
theorem u8_inv {ro : Nat → Option (List Value × Nat)} (vs : List Value) (h : Fits2 (DFit Try.prog ro 0) [.flat (.int .u8)] vs) : ∃ a : Nat, vs = bx a ∧ a < 256 := by
  obtain ⟨v, w, rfl, h1, h2⟩ := f2_cons h
  have := f2_nil h2
  subst this
  obtain ⟨x, rfl, hx⟩ := flat_u8 h1
  exact ⟨x, rfl, hx⟩
theorem at8_lt {B : List Nat} (h : ∀ a ∈ B, a < 256) (i : Nat) : at8 B i < 256 := by
  unfold at8
  rw [List.getD_eq_getElem?_getD]
  cases hi : B[i]? with
  | none => show 0 < 256; omega
  | some a => exact h a (List.mem_of_getElem? hi)
theorem rq_inv {ro : Nat → Option (List Value × Nat)} (vs : List Value) (h : Fits2 (DFit Try.prog ro 1) [.flat (.int .i64), .flat (.int .i64), .slice 5] vs) : ∃ a : Rq, vs = rq a ∧ OkX ro a := by
  obtain ⟨v, w, rfl, h1, h⟩ := f2_cons h
  obtain ⟨v2, w2, rfl, h2, h⟩ := f2_cons h
  obtain ⟨v3, w3, rfl, h3, h⟩ := f2_cons h
  have := f2_nil h
  subst this
  obtain ⟨x1, rfl, k1⟩ := flat_i64 h1
  obtain ⟨x2, rfl, k2⟩ := flat_i64 h2
  obtain ⟨p, L, c, rfl, hok, _, _, hV⟩ := dslice h3 u8_kinds u8_size (by simp) bx (fun a => a < 256) u8_inv
  exact ⟨⟨x1, x2, .slice p L.length c, L⟩, rfl, ⟨⟨p, c, rfl⟩, hV, at8_lt hok⟩⟩
theorem ledgerPlays_run {ro : Nat → Option (List Value × Nat)} {a b c : Int} {l : List Cq} {pl : Option Addr} {cl : Nat} {Q : List Rq} {pq : Option Addr} {qc : Nat} (okx : ∀ a ∈ Q, OkX ro a) (ok : ∀ a ∈ l, OkQ ro a) (hl : l.length ≤ cl) (hcl : cl ≤ maxLen)
    (VQ : ∀ (M : List Rs) (h : Heap), Has ro h M → Vw 3 rq h (.slice pq Q.length qc) Q) (V : ∀ (M : List Rs) (h : Heap), Has ro h M → Vw 7 cq h (.slice pl l.length cl) l) :
    (callV env 20000 (.func (.func 4) #[] #[]) [.agg #[.int .i64 a, .int .i64 b, .int .i64 c], .slice pq Q.length qc, .slice pl l.length cl] (fresh ro)).Is fun p => p.1 = .bool true := by
  refine call_is (n := 19999) env4 ?_
  simp (disch := first | assumption | omega | (simp only [wkX, *]; done) | (simp only [wkY]; omega)) only [ir4, Nat.reduceAdd, Nat.reduceSub, wkF, X_seq, Y_store, Y_makeMap, Y_buildSlice, ↓reduceIte, reduceCtorEq, wkO, wkS, Nat.reduceLeDiff, Nat.reduceMul, Nat.reduceLT, Nat.reduceEqDiff, wkN, wkG]
  refine Y_boxO (Has.start ro) ?_
  intro b3 h1 O1 _
  replace O1 : Has ro h1 (Ob b3 (.cells [.int .i64 a, .int .i64 b, .int .i64 c] 1 false) :: []) := O1
  simp (disch := first | assumption | omega | (simp only [wkX, *]; done) | (simp only [wkY]; omega)) only [wkF, ↓reduceIte, reduceCtorEq, Nat.reduceAdd, Nat.reduceLeDiff, Nat.reduceMul, Nat.reduceLT, Nat.reduceEqDiff, wkG, wkH]
  refine Z_is (great_h (n := 19998) (by omega) ok (V _ _ O1)) ?_
  rintro v h2 (hv | ⟨hv, hl120, hcl40⟩)
  · cases hv
    simp (disch := first | assumption | omega | (simp only [wkX, *]; done) | (simp only [wkY]; omega)) only [wkF, ↓reduceIte, reduceCtorEq, Nat.reduceAdd, Nat.reduceLeDiff, Nat.reduceMul, Nat.reduceLT, Nat.reduceEqDiff, wkG, wkH]
    exact leaf1 rfl
  cases hv
  by_cases hQ : 100 < Q.length
  · have hQ' : (100 : Int) < (Q.length : Int) := by omega
    simp (disch := first | assumption | omega | (simp only [wkX, *]; done) | (simp only [wkY]; omega)) only [hQ', wkF, ↓reduceIte, reduceCtorEq, Nat.reduceAdd, Nat.reduceLeDiff, Nat.reduceMul, Nat.reduceLT, Nat.reduceEqDiff, wkG, wkH]
    exact leaf1 rfl
  have hQ' : ¬ (100 : Int) < (Q.length : Int) := by omega
  have gz := O1.get 0 rfl
  simp (disch := first | assumption | omega | (simp only [wkX, *]; done) | (simp only [wkY]; omega)) only [hQ', gz, wkF, ↓reduceIte, reduceCtorEq, Nat.reduceAdd, Nat.reduceLeDiff, Nat.reduceMul, Nat.reduceLT, Nat.reduceEqDiff, wkG, wkH]
  refine Z_is (load_h (n := 19990) (L := Q) (by omega) (by omega) (fun M h O => VQ _ h O) (fun x hx => (okx x hx).r _) O1) ?_
  rintro v h3 hv
  by_cases hsz : Szs a b c
  · have hsim := sim_lds Q (fun x hx => (okx x hx).b) (sim_new hsz) (fun _ => rfl)
    rcases hv with ⟨hno, _⟩ | ⟨_, hn1, rfl, O3⟩ | ⟨_, S1, lb, hS1, rfl, O3⟩
    · exact absurd hsz hno
    · simp only at O3
      have gz := O3.get 0 rfl
      simp (disch := first | assumption | omega | (simp only [wkX, *]; done) | (simp only [wkY]; omega)) only [gz, wkF, ↓reduceIte, reduceCtorEq, Nat.reduceAdd, Nat.reduceLeDiff, Nat.reduceMul, Nat.reduceLT, Nat.reduceEqDiff, wkG, wkH]
      refine Z_is (rload_h (n := 19997) (L := Q) (by omega) (by omega) (fun M h O => VQ _ h O) (fun x hx => (okx x hx).r _) O3) ?_
      rintro v h4 hv
      rcases hv with ⟨hno, _⟩ | ⟨_, hn2, rfl, O4⟩ | ⟨_, F1, rb, hF1, rfl, O4⟩
      · exact absurd hsz hno
      · simp only at O4
        have gz := O4.get 0 rfl
        simp (disch := first | assumption | omega | (simp only [wkX, *]; done) | (simp only [wkY]; omega)) only [gz, wkF, ↓reduceIte, reduceCtorEq, Nat.reduceAdd, Nat.reduceLeDiff, Nat.reduceMul, Nat.reduceLT, Nat.reduceEqDiff, wkG, wkH]
        refine Z_is (new_h (n := 19998) a b c O4) ?_
        rintro v h5 (⟨hno, _⟩ | ⟨_, lb, rfl, O5⟩)
        · exact absurd hsz hno
        simp only at O5
        have gz := O5.get 1 rfl
        simp (disch := first | assumption | omega | (simp only [wkX, *]; done) | (simp only [wkY]; omega)) only [gz, wkF, ↓reduceIte, reduceCtorEq, Nat.reduceAdd, Nat.reduceLeDiff, Nat.reduceMul, Nat.reduceLT, Nat.reduceEqDiff, wkG, wkH]
        refine Z_is (rnew_h (n := 19998) a b c (by omega) O5) ?_
        rintro v h6 (⟨hno, _⟩ | ⟨_, rb, rfl, O6⟩)
        · exact absurd hsz hno
        simp only at O6
        have O7 : Has ro h6 (Lg lb (lz a b c) :: Rg rb (rz0 a b.toNat c.toNat) :: []) := (O6.at 1 rfl).rid 2 rfl
        have m0 := sim_new hsz
        clear O6 O5 O4 O3 O1 gz hsim
        simp (disch := first | assumption | omega | (simp only [wkX, *]; done) | (simp only [wkY]; omega)) only [vEqPtr_none, Bool.not_false, bne_tt, wkF, ↓reduceIte, reduceCtorEq, Nat.reduceAdd, Nat.reduceLeDiff, Nat.reduceMul, Nat.reduceLT, Nat.reduceEqDiff, wkG, wkH]
        refine L_is (fun q s => ∃ (i : Nat) (S : Ls) (F : Rf), q = l.length - i ∧ s.defers = [] ∧ s.tmps.length = 126 ∧ s.tmps.getD 2 undefV = .slice pl l.length cl ∧ s.tmps.getD 7 undefV = .pointer (some ⟨lb, 0, none⟩) ∧ s.tmps.getD 9 undefV = .pointer (some ⟨rb, 0, none⟩) ∧ s.tmps.getD 15 undefV = .int .i64 (i : Int) ∧ i ≤ l.length ∧ Sim S F ∧ Has ro s.h (Lg lb S :: Rg rb F :: [])) l.length ?_ (by omega) ?_
        · exact ⟨0, _, _, rfl, rfl, rfl, rfl, rfl, rfl, rfl, Nat.zero_le _, m0, O7⟩
        rintro q' tm df h5 ⟨i, S, F, hk, hd, hlen_, g2, g7, g9, g15, hil, m, O5⟩
        simp only at hd g2 g7 g9 g15 O5
        subst hd
        obtain ⟨w, hg_, rfl⟩ := explode hlen_
        simp only [hg_] at g2 g7 g9 g15
        clear hlen_ hg_
        by_cases h0 : i < l.length
        · have h0' : (i : Int) < (l.length : Int) := by omega
          have hi0 : (0 : Int) ≤ (i : Int) := by omega
          have hq7 : l[i]? = some l[i] := List.getElem?_eq_getElem h0
          have okq := ok _ (List.getElem_mem h0)
          have h40 := hcl40 _ (List.getElem_mem h0)
          generalize l[i] = x at hq7 okq h40
          obtain ⟨b1, off1, sp1, c1, hv1, _, rd1⟩ := (V _ _ O5).rd cq_len hq7
          have e1 : pl = some ⟨b1, off1, sp1⟩ := by injection hv1
          subst e1
          have yi : IntKind.i64.wrap ((i : Int) + 1) = ((i + 1 : Nat) : Int) := by rw [wrap_i64 (by omega) (by omega)]; omega
          simp (disch := first | assumption | omega | (simp only [wkX, *]; done) | (simp only [wkY]; omega)) only [g2, g7, g9, g15, h0', hi0, Int.toNat_natCast, rd1, wkF, ↓reduceIte, reduceCtorEq, Nat.reduceAdd, Nat.reduceLeDiff, Nat.reduceMul, Nat.reduceLT, Nat.reduceEqDiff, wkG, wkH]
          refine Z_is (step_h (n := 19978) okq h40 m (by omega) O5) ?_
          rintro v h6 ⟨rfl, S', F', m', _, O6⟩
          simp only at O6
          obtain ⟨b2, off2, sp2, c2, hv2, k2, _⟩ := (V _ _ O6).rd cq_len hq7
          have e2 : (some (⟨b1, off1, sp1⟩ : Addr)) = some ⟨b2, off2, sp2⟩ := by injection hv2
          cases e2
          have r22 := k2 2 1 (by decide)
          have r21 := k2 1 1 (by decide)
          have q2 : readN (cq x) 2 1 = some [.int .i64 x.cell] := rfl
          have q1 : readN (cq x) 1 1 = some [.int .i64 x.rb] := rfl
          rw [q2] at r22
          rw [q1] at r21
          simp (disch := first | assumption | omega | (simp only [wkX, *]; done) | (simp only [wkY]; omega)) only [wkF, ↓reduceIte, reduceCtorEq, Nat.reduceAdd, Nat.reduceLeDiff, Nat.reduceMul, Nat.reduceLT, Nat.reduceEqDiff, wkG, wkH]
          refine X_drawn _ fun an => ?_
          simp (maxSteps := 4000000) (disch := first | assumption | omega | (simp only [wkX, *]; done) | (simp only [wkY]; omega)) only [g2, g7, g9, g15, h0', hi0, Int.toNat_natCast, r22, r21, wkF, ↓reduceIte, reduceCtorEq, Nat.reduceAdd, Nat.reduceLeDiff, Nat.reduceMul, Nat.reduceLT, Nat.reduceEqDiff, wkG, wkH]
          refine DB_is (alike_h (n := 19977) x.cell x.rb m' (by omega) O6) ?_
          rintro v h7 ⟨rfl, O7⟩
          simp only at O7
          simp (maxSteps := 4000000) (disch := first | assumption | omega | (simp only [wkX, *]; done) | (simp only [wkY]; omega)) only [yi, wkF, ↓reduceIte, reduceCtorEq, Nat.reduceAdd, Nat.reduceLeDiff, Nat.reduceMul, Nat.reduceLT, Nat.reduceEqDiff, wkG, wkH]
          exact Is_in ⟨l.length - (i + 1), sub_lt7 hk h0, i + 1, S', F', rfl, rfl, rfl, rfl, rfl, rfl, rfl, h0, m', O7⟩
        have h0' : ¬ (i : Int) < (l.length : Int) := by omega
        simp (disch := first | assumption | omega | (simp only [wkX, *]; done) | (simp only [wkY]; omega)) only [g2, g7, g9, g15, h0', wkF, ↓reduceIte, reduceCtorEq, Nat.reduceAdd, Nat.reduceLeDiff, Nat.reduceMul, Nat.reduceLT, Nat.reduceEqDiff, wkG, wkH]
        refine Is_in ?_
        simp (disch := first | assumption | omega | (simp only [wkX, *]; done) | (simp only [wkY]; omega)) only [g2, g7, g9, g15, wkF, ↓reduceIte, reduceCtorEq, Nat.reduceAdd, Nat.reduceLeDiff, Nat.reduceMul, Nat.reduceLT, Nat.reduceEqDiff, wkG, wkH]
        exact leaf1 rfl
      · rcases hsim with ⟨k1, k2⟩ | ⟨S', F', k1, k2, _⟩
        · rw [k2] at hF1; cases hF1
        · rw [k1] at hn1; cases hn1
    · simp only at O3
      have gz := O3.get 1 rfl
      simp (disch := first | assumption | omega | (simp only [wkX, *]; done) | (simp only [wkY]; omega)) only [gz, wkF, ↓reduceIte, reduceCtorEq, Nat.reduceAdd, Nat.reduceLeDiff, Nat.reduceMul, Nat.reduceLT, Nat.reduceEqDiff, wkG, wkH]
      refine Z_is (rload_h (n := 19997) (L := Q) (by omega) (by omega) (fun M h O => VQ _ h O) (fun x hx => (okx x hx).r _) O3) ?_
      rintro v h4 hv
      rcases hv with ⟨hno, _⟩ | ⟨_, hn2, rfl, O4⟩ | ⟨_, F1, rb, hF1, rfl, O4⟩
      · exact absurd hsz hno
      · rcases hsim with ⟨k1, k2⟩ | ⟨S', F', k1, k2, _⟩
        · rw [k1] at hS1; cases hS1
        · rw [k2] at hn2; cases hn2
      · simp only at O4
        have m0 : Sim S1 F1 := by
          rcases hsim with ⟨k1, k2⟩ | ⟨S', F', k1, k2, m'⟩
          · rw [k1] at hS1; cases hS1
          · rw [k1] at hS1
            rw [k2] at hF1
            cases hS1
            cases hF1
            exact m'
        have gz := O4.get 2 rfl
        simp (disch := first | assumption | omega | (simp only [wkX, *]; done) | (simp only [wkY]; omega)) only [gz, wkF, ↓reduceIte, reduceCtorEq, Nat.reduceAdd, Nat.reduceLeDiff, Nat.reduceMul, Nat.reduceLT, Nat.reduceEqDiff, wkG, wkH]
        refine Z_is (new_h (n := 19998) a b c O4) ?_
        rintro v h5 (⟨hno, _⟩ | ⟨_, lb2, rfl, O5⟩)
        · exact absurd hsz hno
        simp only at O5
        have gz := O5.get 3 rfl
        simp (disch := first | assumption | omega | (simp only [wkX, *]; done) | (simp only [wkY]; omega)) only [gz, wkF, ↓reduceIte, reduceCtorEq, Nat.reduceAdd, Nat.reduceLeDiff, Nat.reduceMul, Nat.reduceLT, Nat.reduceEqDiff, wkG, wkH]
        refine Z_is (rnew_h (n := 19998) a b c (by omega) O5) ?_
        rintro v h6 (⟨hno, _⟩ | ⟨_, rb2, rfl, O6⟩)
        · exact absurd hsz hno
        simp only at O6
        have O7 : Has ro h6 (Lg lb S1 :: Rg rb F1 :: []) := ((((O6.rid 4 rfl).rid 1 rfl).rid 0 rfl).at 1 rfl)
        clear O6 O5 O4 O3 O1 gz hsim
        simp (disch := first | assumption | omega | (simp only [wkX, *]; done) | (simp only [wkY]; omega)) only [vEqPtr_none, Bool.not_false, bne_tt, wkF, ↓reduceIte, reduceCtorEq, Nat.reduceAdd, Nat.reduceLeDiff, Nat.reduceMul, Nat.reduceLT, Nat.reduceEqDiff, wkG, wkH]
        refine L_is (fun q s => ∃ (i : Nat) (S : Ls) (F : Rf), q = l.length - i ∧ s.defers = [] ∧ s.tmps.length = 126 ∧ s.tmps.getD 2 undefV = .slice pl l.length cl ∧ s.tmps.getD 7 undefV = .pointer (some ⟨lb, 0, none⟩) ∧ s.tmps.getD 9 undefV = .pointer (some ⟨rb, 0, none⟩) ∧ s.tmps.getD 15 undefV = .int .i64 (i : Int) ∧ i ≤ l.length ∧ Sim S F ∧ Has ro s.h (Lg lb S :: Rg rb F :: [])) l.length ?_ (by omega) ?_
        · exact ⟨0, _, _, rfl, rfl, rfl, rfl, rfl, rfl, rfl, Nat.zero_le _, m0, O7⟩
        rintro q' tm df h5 ⟨i, S, F, hk, hd, hlen_, g2, g7, g9, g15, hil, m, O5⟩
        simp only at hd g2 g7 g9 g15 O5
        subst hd
        obtain ⟨w, hg_, rfl⟩ := explode hlen_
        simp only [hg_] at g2 g7 g9 g15
        clear hlen_ hg_
        by_cases h0 : i < l.length
        · have h0' : (i : Int) < (l.length : Int) := by omega
          have hi0 : (0 : Int) ≤ (i : Int) := by omega
          have hq7 : l[i]? = some l[i] := List.getElem?_eq_getElem h0
          have okq := ok _ (List.getElem_mem h0)
          have h40 := hcl40 _ (List.getElem_mem h0)
          generalize l[i] = x at hq7 okq h40
          obtain ⟨b1, off1, sp1, c1, hv1, _, rd1⟩ := (V _ _ O5).rd cq_len hq7
          have e1 : pl = some ⟨b1, off1, sp1⟩ := by injection hv1
          subst e1
          have yi : IntKind.i64.wrap ((i : Int) + 1) = ((i + 1 : Nat) : Int) := by rw [wrap_i64 (by omega) (by omega)]; omega
          simp (disch := first | assumption | omega | (simp only [wkX, *]; done) | (simp only [wkY]; omega)) only [g2, g7, g9, g15, h0', hi0, Int.toNat_natCast, rd1, wkF, ↓reduceIte, reduceCtorEq, Nat.reduceAdd, Nat.reduceLeDiff, Nat.reduceMul, Nat.reduceLT, Nat.reduceEqDiff, wkG, wkH]
          refine Z_is (step_h (n := 19978) okq h40 m (by omega) O5) ?_
          rintro v h6 ⟨rfl, S', F', m', _, O6⟩
          simp only at O6
          obtain ⟨b2, off2, sp2, c2, hv2, k2, _⟩ := (V _ _ O6).rd cq_len hq7
          have e2 : (some (⟨b1, off1, sp1⟩ : Addr)) = some ⟨b2, off2, sp2⟩ := by injection hv2
          cases e2
          have r22 := k2 2 1 (by decide)
          have r21 := k2 1 1 (by decide)
          have q2 : readN (cq x) 2 1 = some [.int .i64 x.cell] := rfl
          have q1 : readN (cq x) 1 1 = some [.int .i64 x.rb] := rfl
          rw [q2] at r22
          rw [q1] at r21
          simp (disch := first | assumption | omega | (simp only [wkX, *]; done) | (simp only [wkY]; omega)) only [wkF, ↓reduceIte, reduceCtorEq, Nat.reduceAdd, Nat.reduceLeDiff, Nat.reduceMul, Nat.reduceLT, Nat.reduceEqDiff, wkG, wkH]
          refine X_drawn _ fun an => ?_
          simp (maxSteps := 4000000) (disch := first | assumption | omega | (simp only [wkX, *]; done) | (simp only [wkY]; omega)) only [g2, g7, g9, g15, h0', hi0, Int.toNat_natCast, r22, r21, wkF, ↓reduceIte, reduceCtorEq, Nat.reduceAdd, Nat.reduceLeDiff, Nat.reduceMul, Nat.reduceLT, Nat.reduceEqDiff, wkG, wkH]
          refine DB_is (alike_h (n := 19977) x.cell x.rb m' (by omega) O6) ?_
          rintro v h7 ⟨rfl, O7⟩
          simp only at O7
          simp (maxSteps := 4000000) (disch := first | assumption | omega | (simp only [wkX, *]; done) | (simp only [wkY]; omega)) only [yi, wkF, ↓reduceIte, reduceCtorEq, Nat.reduceAdd, Nat.reduceLeDiff, Nat.reduceMul, Nat.reduceLT, Nat.reduceEqDiff, wkG, wkH]
          exact Is_in ⟨l.length - (i + 1), sub_lt7 hk h0, i + 1, S', F', rfl, rfl, rfl, rfl, rfl, rfl, rfl, h0, m', O7⟩
        have h0' : ¬ (i : Int) < (l.length : Int) := by omega
        simp (disch := first | assumption | omega | (simp only [wkX, *]; done) | (simp only [wkY]; omega)) only [g2, g7, g9, g15, h0', wkF, ↓reduceIte, reduceCtorEq, Nat.reduceAdd, Nat.reduceLeDiff, Nat.reduceMul, Nat.reduceLT, Nat.reduceEqDiff, wkG, wkH]
        refine Is_in ?_
        simp (disch := first | assumption | omega | (simp only [wkX, *]; done) | (simp only [wkY]; omega)) only [g2, g7, g9, g15, wkF, ↓reduceIte, reduceCtorEq, Nat.reduceAdd, Nat.reduceLeDiff, Nat.reduceMul, Nat.reduceLT, Nat.reduceEqDiff, wkG, wkH]
        exact leaf1 rfl
  · rcases hv with ⟨_, rfl, O3⟩ | ⟨hno, _⟩ | ⟨hno, _⟩
    · simp only at O3
      have gz := O3.get 0 rfl
      simp (disch := first | assumption | omega | (simp only [wkX, *]; done) | (simp only [wkY]; omega)) only [gz, wkF, ↓reduceIte, reduceCtorEq, Nat.reduceAdd, Nat.reduceLeDiff, Nat.reduceMul, Nat.reduceLT, Nat.reduceEqDiff, wkG, wkH]
      refine Z_is (rload_h (n := 19997) (L := Q) (by omega) (by omega) (fun M h O => VQ _ h O) (fun x hx => (okx x hx).r _) O3) ?_
      rintro v h4 hv
      rcases hv with ⟨_, rfl, O4⟩ | ⟨hno, _⟩ | ⟨hno, _⟩
      · simp only at O4
        have gz := O4.get 0 rfl
        simp (disch := first | assumption | omega | (simp only [wkX, *]; done) | (simp only [wkY]; omega)) only [gz, wkF, ↓reduceIte, reduceCtorEq, Nat.reduceAdd, Nat.reduceLeDiff, Nat.reduceMul, Nat.reduceLT, Nat.reduceEqDiff, wkG, wkH]
        refine Z_is (new_h (n := 19998) a b c O4) ?_
        rintro v h5 (⟨_, rfl, O5⟩ | ⟨hno, _⟩)
        · simp only at O5
          have gz := O5.get 0 rfl
          simp (disch := first | assumption | omega | (simp only [wkX, *]; done) | (simp only [wkY]; omega)) only [gz, wkF, ↓reduceIte, reduceCtorEq, Nat.reduceAdd, Nat.reduceLeDiff, Nat.reduceMul, Nat.reduceLT, Nat.reduceEqDiff, wkG, wkH]
          refine Z_is (rnew_h (n := 19998) a b c (by omega) O5) ?_
          rintro v h6 (⟨_, rfl, O6⟩ | ⟨hno, _⟩)
          · simp (disch := first | assumption | omega | (simp only [wkX, *]; done) | (simp only [wkY]; omega)) only [vEqPtr_none, Bool.not_false, bne_tt, wkF, ↓reduceIte, reduceCtorEq, Nat.reduceAdd, Nat.reduceLeDiff, Nat.reduceMul, Nat.reduceLT, Nat.reduceEqDiff, wkG, wkH]
            exact leaf1 rfl
          · exact absurd hno hsz
        · exact absurd hno hsz
      · exact absurd hno hsz
      · exact absurd hno hsz
    · exact absurd hno hsz
    · exact absurd hno hsz
theorem sz_inv {d : Nat} {ro : Nat → Option (List Value × Nat)} {cs : Array Value} (h : Fits2 (DFit Try.prog ro d) [.flat (.int .i64), .flat (.int .i64), .flat (.int .i64)] cs.toList) : ∃ a b c : Int, Value.agg cs = .agg #[.int .i64 a, .int .i64 b, .int .i64 c] := by
  obtain ⟨v, w, e1, h1, h⟩ := f2_cons h
  obtain ⟨v2, w2, e2, h2, h⟩ := f2_cons h
  obtain ⟨v3, w3, e3, h3, h⟩ := f2_cons h
  have e4 := f2_nil h
  obtain ⟨x1, rfl, _⟩ := flat_i64 h1
  obtain ⟨x2, rfl, _⟩ := flat_i64 h2
  obtain ⟨x3, rfl, _⟩ := flat_i64 h3
  subst e4 e3 e2
  refine ⟨x1, x2, x3, ?_⟩
  congr 1
  exact Array.toList_inj.1 e1
theorem ledgerPlays_all (ro : Nat → Option (List Value × Nat)) (vs : List Value) (ha : ArgsD Try.prog ro 2 [.agg [.flat (.int .i64), .flat (.int .i64), .flat (.int .i64)], .one (.slice 44), .one (.slice 41)] vs) : (run env 20000 4 vs (fresh ro)).True := by
  match vs, ha with
  | [v0, v1, v2], ha =>
    obtain ⟨⟨cs, rfl, h0⟩, h5, h1, -⟩ := ha
    obtain ⟨a, b, c, e⟩ := sz_inv h0
    obtain ⟨p, Q, cQ, rfl, hokx, _, _, hVQ⟩ := dslice h5 rq_kinds rq_size (by simp) rq (OkX ro) rq_inv
    obtain ⟨p, l, cl, rfl, hok, h2, h3, hV⟩ := dslice h1 cq_kinds cq_size (by simp) cq (OkQ ro) cq_inv
    rw [e]
    exact run_true (ledgerPlays_run hokx hok h2 h3 hVQ hV).all
  | [], ha => exact ha.elim
  | [_], ha => exact ha.2.elim
  | [_, _], ha => exact ha.2.2.elim
  | _ :: _ :: _ :: _ :: _, ha => exact ha.2.2.2.elim
theorem own : ownKnob Try.prog.godebug = none := by kernel_rfl
theorem mixed : Try.prog.follows .mixedOrders = true := by kernel_rfl
theorem laid_out : laidOutB Try.prog = true := by kernel_rfl
theorem ledgerPlays_kinds : Try.f4.params.toList.mapM (pdOf Try.prog) = some [.agg [.flat (.int .i64), .flat (.int .i64), .flat (.int .i64)], .one (.slice 44), .one (.slice 41)] := by kernel_rfl
theorem ledgerPlays_reads : Try.f4.params.toList.all (fun t => Try.prog.readableRec t && decide (t < Try.prog.types.size)) = true := by kernel_rfl
theorem ledgerPlays_size : Try.f4.params.size = 3 := by kernel_rfl
theorem ledgerPlays_lifted (os : Os) (started : os.Started) (H : Type) (enc : TypeId × Value → H) :
    ReturnsInHanded {} Try.checked os 4 .any (Rows.ledgerPlaysSpec.pre6 enc Try.prog Try.f4 [] false) (Rows.ledgerPlaysSpec.post enc Try.prog Try.f4 false true false false) :=
 deep_open_lifted (C := Try.checked) (n := 20000) 2 own started (by kernel_rfl) Try.func4 (ChangeSpec.witness6 false ⟨#[], #[.agg #[.int .i64 0, .int .i64 0, .int .i64 0], .slice none 0 0, .slice none 0 0], []⟩ 8 (by kernel_rfl) (by kernel_rfl) (by kernel_rfl) (by kernel_rfl)) mixed env_ok laid_out ledgerPlays_kinds ledgerPlays_reads (by rfl) Try.underlying4 rfl
    (fun ds hds => by rw [ledgerPlays_size] at hds; match ds, hds with | [_, _, _], _ => rfl) ledgerPlays_all
theorem ledgerPlays_holds : Rows.LedgerPlaysSaid :=
  OpenClaim.holds_of_wide 4 Try.f4 rfl rfl rfl rfl rfl rfl rfl ⟨rfl, rfl, rfl, rfl, rfl⟩ rfl rfl rfl rfl rfl (by kernel_rfl) Try.func4 (by kernel_rfl)
    (of_decide_eq_true (by kernel_rfl)) (by unfold Func.isWrapper; rw [if_neg (of_decide_eq_false (by kernel_rfl))]; exact ⟨rfl, rfl⟩)
    (fun os started H enc _ => by rw [OpenClaim.pre_of_none rfl]; exact ledgerPlays_lifted os started H enc)
end Go.Proofs.Ytmpnldmdchchjaa
