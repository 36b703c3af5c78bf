/-
  The document's bytes of a packet.
-/
import Derived.Test.YtpodmgbnldmlcaaDoorFk
import Derived.Test.YtpodmgbnldmlcaaDoorRmy
namespace Go.Proofs.YtpodmgbnldmlcaaDoor
open Go Go.Ideal Go.ChangeShapes Go.RowKit
set_option maxHeartbeats 0
set_option linter.unusedSimpArgs false
set_option linter.unusedVariables false
set_option maxRecDepth 100000
attribute [local irreducible] callV T.All T.Is run
theorem env14 : env 14 = some ir14 := rfl
theorem lt_field {k : Int} (h0 : 1 ≤ k) (h1 : k ≤ 11) : (lt k).length ≤ 5 ∧ ((lt k).length = 5 ∨ (row k).getD (lt k).length 0 = 0) ∧ ∀ i, i < (lt k).length → 1 ≤ (row k).getD i 0 ∧ (row k).getD i 0 ≤ 8 ∧ (lt k)[i]? = some (letter ((row k).getD i 0).toNat) := by
  have : k = 1 ∨ k = 2 ∨ k = 3 ∨ k = 4 ∨ k = 5 ∨ k = 6 ∨ k = 7 ∨ k = 8 ∨ k = 9 ∨ k = 10 ∨ k = 11 := by omega
  rcases this with rfl | rfl | rfl | rfl | rfl | rfl | rfl | rfl | rfl | rfl | rfl <;> decide
theorem Dp.buildB {env : Env} {n fuel : Nat} {ar : Option Nat} {asx plan : List (List Nat)} {i : Nat} {fr : List (Nat × Nat × Nat)} {tm : List Value} {df : List Nat} {h : Heap} {K : List Fr} {Q : IExit × St → Prop} {r : List IOper} {d : Option Nat} {anc : List Nat} {ro : Nat → Option (List Value × Nat)} {L : List Rs} (O : Has ro h L) {z len : Nat} {zero : List Value} {ps : List (Nat × Opd)} {cs : List Value} (hc : layAt (List.replicate len zero).flatten (ps.map fun p => (p.1 * z, z, p.2.eval tm)) = some cs)
    (k : ∀ b h', Has ro h' (Ob b (.cells cs z false) :: L) → Dp env n fuel ar asx plan r (i + 1) [] (putDst tm d (.slice (some ⟨b, 0, none⟩) len len)) df h' K Q) : Dp env n fuel ar asx plan (⟨d, .buildSlice z len zero ps, none, anc, true⟩ :: r) i fr tm df h K Q := by
  have e : (.buildSlice z len zero ps : IOp).exec (callV env n) tm h = .ret (.slice (some ⟨2 * h.next, 0, none⟩) len len, h.alloc (.cells cs z false)) := by
    show (.buildSlice z len zero ps : IOp).run tm h = _
    simp only [IOp.run, hc]
  exact Dp.fixed rfl e (k _ _ (O.alloc _))
section
variable {ro : Nat → Option (List Value × Nat)} {h : Heap} {R : List Rs} {p : Pkt} {l : List Cl}
/-- A number's bytes appended. -/
theorem app_num {v w : Value} {t u : List Nat} (ht : t.length ≤ 1000) (hu : u.length ≤ 8) (O : Has ro h (Sc 1 bc w u :: Sc 1 bc v t :: R)) : ∃ w' h', iappend h 1 1 v w = some (w', h') ∧ Has ro h' (Sc 1 bc w' (t ++ u) :: R) := by
  obtain ⟨w', h', ap, O2⟩ := sc_appendV (bytes := 1) (by omega) bc_len bc_one O.swap2 (O.vw 0 rfl) (by unfold roomMost; omega) (by omega)
  exact ⟨w', h', ap, O2.rid 1 rfl⟩

theorem rbytes_h {n : Nat} (hn : 2000 < n) (hl : l.length ≤ 1300) (hW : WfP p l) (V : ∀ h, Has ro h R → Vw 2 cc h p.m.cl l) (O : Has ro h R) :
    (callV env (n + 4) (.func (.func 14) #[] #[]) [pv p] h).Is fun q => ∃ v e, q.1 = .tuple #[v, .int .i64 e] ∧ code (OkP p l) = .int .i64 e ∧ Has ro q.2 (Sc 1 bc v (bytesP p l) :: R) := by
  refine call_is env14 ?_
  obtain ⟨w1, w2, w3, w4, w5⟩ := hW
  obtain ⟨pp, cq, hc, hlc⟩ := (V _ O).len
  simp (disch := first | assumption | omega | (simp only [wkD, oneCell, Option.isSome_some, *]; done) | (simp only [wkE, ne_eq]; omega)) only [ir14, List.append_nil, List.nil_append, List.cons_append, List.length_cons, List.length_nil, Nat.reduceAdd, Nat.reduceSub, List.replicate_succ, List.replicate_zero, pv, wkF, X_region, X_seq, X_block, X_loop, X_cond, Y_un, Y_store, Y_append, Y_makeMap, Y_buildSlice, ibin_shl, ibin_shr, ibin_and, ↓reduceIte, reduceCtorEq, oneCell, setAt, readN, Nat.reduceAdd, Nat.reduceLeDiff, Nat.reduceMul, layAt, Nat.reduceLT, Nat.reduceEqDiff, setParams, Int.reduceLT, Int.reduceLE, Int.reduceGT, Int.reduceGE, Int.reduceEq, Int.reduceNe]
  refine Y_boxO O ?_
  intro pb h1 O1 e1
  replace O1 : Has ro h1 (Ob pb (.cells (pc p) 1 false) :: R) := O1
  obtain ⟨r0, r1, r2, r3, r4, r5, r6, r7⟩ := rdp (O1.get 0 rfl)
  simp (disch := first | assumption | omega | (simp only [wkD, oneCell, Option.isSome_some, *]; done) | (simp only [wkE, ne_eq]; omega)) only [r7, agg_pv, wkF, X_region, X_seq, X_block, X_loop, X_cond, Y_box, Y_un, Y_store, Y_append, Y_makeMap, Y_buildSlice, ibin_shl, ibin_shr, ibin_and, ↓reduceIte, reduceCtorEq, oneCell, setAt, readN, Nat.reduceAdd, Nat.reduceLeDiff, Nat.reduceMul, layAt, Nat.reduceLT, Nat.reduceEqDiff, setParams, Int.reduceLT, Int.reduceLE, Int.reduceGT, Int.reduceGE, Int.reduceEq, Int.reduceNe]
  refine Z_is (mayP_h (n := n) (p := p) (by omega) hl w5.1 (fun h O => V h O.drop) O1) ?_
  rintro v2 h2 ⟨b, rfl, hb, O2⟩
  clear O1 r0 r1 r2 r3 r4 r5 r6 r7 e1 O
  by_cases hok : OkP p l
  case neg =>
    have : b = false := by
      cases b with
      | true => exact absurd (hb.1 rfl) hok
      | false => rfl
    subst this
    simp (disch := first | assumption | omega | (simp only [wkD, oneCell, Option.isSome_some, *]; done) | (simp only [wkE, ne_eq]; omega)) only [wkF, X_region, X_seq, X_block, X_loop, X_cond, Y_box, Y_un, Y_store, Y_append, Y_makeMap, Y_buildSlice, ibin_shl, ibin_shr, ibin_and, ↓reduceIte, reduceCtorEq, oneCell, setAt, readN, Nat.reduceAdd, Nat.reduceLeDiff, Nat.reduceMul, layAt, Nat.reduceLT, Nat.reduceEqDiff, setParams, Int.reduceLT, Int.reduceLE, Int.reduceGT, Int.reduceGE, Int.reduceEq, Int.reduceNe]
    refine leaf2 ⟨_, 71, rfl, code_f hok, ?_⟩
    rw [bytesP_f hok]
    exact O2.drop.scNil
  have : b = true := hb.2 hok
  subst this
  have hN := nums_of w5 hok.2.2.2
  have hl16 : l.length ≤ 16 := hN.2.2.2.2.1
  obtain ⟨r0, r1, r2, r3, r4, r5, r6, r7⟩ := rdp (O2.get 0 rfl)
  have u1 := u8_ub p.fr
  have u2 := u8_ub p.tt
  simp (disch := first | assumption | omega | (simp only [wkD, oneCell, Option.isSome_some, *]; done) | (simp only [wkE, ne_eq]; omega)) only [r0, r1, u1, u2, wkF, X_region, X_seq, X_block, X_loop, X_cond, Y_box, Y_un, Y_store, Y_append, Y_makeMap, ibin_shl, ibin_shr, ibin_and, ↓reduceIte, reduceCtorEq, oneCell, setAt, readN, Nat.reduceAdd, Nat.reduceLeDiff, Nat.reduceMul, layAt, Nat.reduceLT, Nat.reduceEqDiff, setParams, Int.reduceLT, Int.reduceLE, Int.reduceGT, Int.reduceGE, Int.reduceEq, Int.reduceNe]
  refine Y_buildSliceO O2 (cs := [ub p.fr, ub p.tt].flatMap bc) rfl ?_
  intro b3 h3 O3 e3
  replace O3 : Has ro h3 (Sc 1 bc (.slice (some ⟨b3, 0, none⟩) 2 2) [ub p.fr, ub p.tt] :: Ob pb (.cells (pc p) 1 false) :: R) := Has.scClose (b := b3) (c := 2) (rest := []) (sp := none) (t := false) (zz := 1) rfl (Nat.le_refl _) rfl (Or.inr rfl) O3
  clear O2 e3 r0 r1 r2 r3 r4 r5 r6 r7
  have x4 : IntKind.u64.wrap (p.fe : Int) = (p.fe : Int) := by rw [u64_of (by omega) (by omega), Int.toNat_natCast]
  have r4 := (rdp (O3.get 1 rfl)).2.2.1
  simp (disch := first | assumption | omega | (simp only [wkD, oneCell, Option.isSome_some, *]; done) | (simp only [wkE, ne_eq]; omega)) only [r4, x4, wkF, X_region, X_seq, X_block, X_loop, X_cond, Y_box, Y_un, Y_store, Y_append, Y_makeMap, Y_buildSlice, ibin_shl, ibin_shr, ibin_and, ↓reduceIte, reduceCtorEq, oneCell, setAt, readN, Nat.reduceAdd, Nat.reduceLeDiff, Nat.reduceMul, layAt, Nat.reduceLT, Nat.reduceEqDiff, setParams, Int.reduceLT, Int.reduceLE, Int.reduceGT, Int.reduceGE, Int.reduceEq, Int.reduceNe]
  refine Z_is (number_h (n := n + 2) (m := 4) (x := p.fe) (by omega) (by omega) (by omega) (by omega) O3) ?_
  rintro v4 h4 N4
  obtain ⟨u4, g4h, ap4, P4⟩ := app_num (by simp only [List.length_append, List.length_cons, List.length_nil, be_len]; omega) (by rw [be_len]; omega) N4
  simp (disch := first | assumption | omega | (simp only [wkD, oneCell, Option.isSome_some, *]; done) | (simp only [wkE, ne_eq]; omega)) only [ap4, wkF, X_region, X_seq, X_block, X_loop, X_cond, Y_box, Y_un, Y_store, Y_append, Y_makeMap, Y_buildSlice, ibin_shl, ibin_shr, ibin_and, ↓reduceIte, reduceCtorEq, oneCell, setAt, readN, Nat.reduceAdd, Nat.reduceLeDiff, Nat.reduceMul, layAt, Nat.reduceLT, Nat.reduceEqDiff, setParams, Int.reduceLT, Int.reduceLE, Int.reduceGT, Int.reduceGE, Int.reduceEq, Int.reduceNe]
  have x5 : IntKind.u64.wrap (p.te : Int) = (p.te : Int) := by rw [u64_of (by omega) (by omega), Int.toNat_natCast]
  have r5 := (rdp (P4.get 1 rfl)).2.2.2.1
  simp (disch := first | assumption | omega | (simp only [wkD, oneCell, Option.isSome_some, *]; done) | (simp only [wkE, ne_eq]; omega)) only [r5, x5, wkF, X_region, X_seq, X_block, X_loop, X_cond, Y_box, Y_un, Y_store, Y_append, Y_makeMap, Y_buildSlice, ibin_shl, ibin_shr, ibin_and, ↓reduceIte, reduceCtorEq, oneCell, setAt, readN, Nat.reduceAdd, Nat.reduceLeDiff, Nat.reduceMul, layAt, Nat.reduceLT, Nat.reduceEqDiff, setParams, Int.reduceLT, Int.reduceLE, Int.reduceGT, Int.reduceGE, Int.reduceEq, Int.reduceNe]
  refine Z_is (number_h (n := n + 2) (m := 4) (x := p.te) (by omega) (by omega) (by omega) (by omega) P4) ?_
  rintro v5 h5 N5
  obtain ⟨u5, g5h, ap5, P5⟩ := app_num (by simp only [List.length_append, List.length_cons, List.length_nil, be_len]; omega) (by rw [be_len]; omega) N5
  simp (disch := first | assumption | omega | (simp only [wkD, oneCell, Option.isSome_some, *]; done) | (simp only [wkE, ne_eq]; omega)) only [ap5, wkF, X_region, X_seq, X_block, X_loop, X_cond, Y_box, Y_un, Y_store, Y_append, Y_makeMap, Y_buildSlice, ibin_shl, ibin_shr, ibin_and, ↓reduceIte, reduceCtorEq, oneCell, setAt, readN, Nat.reduceAdd, Nat.reduceLeDiff, Nat.reduceMul, layAt, Nat.reduceLT, Nat.reduceEqDiff, setParams, Int.reduceLT, Int.reduceLE, Int.reduceGT, Int.reduceGE, Int.reduceEq, Int.reduceNe]
  have x6 : IntKind.u64.wrap (p.sq : Int) = (p.sq : Int) := by rw [u64_of (by omega) (by omega), Int.toNat_natCast]
  have r6 := (rdp (P5.get 1 rfl)).2.2.2.2.1
  simp (disch := first | assumption | omega | (simp only [wkD, oneCell, Option.isSome_some, *]; done) | (simp only [wkE, ne_eq]; omega)) only [r6, x6, wkF, X_region, X_seq, X_block, X_loop, X_cond, Y_box, Y_un, Y_store, Y_append, Y_makeMap, Y_buildSlice, ibin_shl, ibin_shr, ibin_and, ↓reduceIte, reduceCtorEq, oneCell, setAt, readN, Nat.reduceAdd, Nat.reduceLeDiff, Nat.reduceMul, layAt, Nat.reduceLT, Nat.reduceEqDiff, setParams, Int.reduceLT, Int.reduceLE, Int.reduceGT, Int.reduceGE, Int.reduceEq, Int.reduceNe]
  refine Z_is (number_h (n := n + 2) (m := 4) (x := p.sq) (by omega) (by omega) (by omega) (by omega) P5) ?_
  rintro v6 h6 N6
  obtain ⟨u6, g6h, ap6, P6⟩ := app_num (by simp only [List.length_append, List.length_cons, List.length_nil, be_len]; omega) (by rw [be_len]; omega) N6
  simp (disch := first | assumption | omega | (simp only [wkD, oneCell, Option.isSome_some, *]; done) | (simp only [wkE, ne_eq]; omega)) only [ap6, wkF, X_region, X_seq, X_block, X_loop, X_cond, Y_box, Y_un, Y_store, Y_append, Y_makeMap, Y_buildSlice, ibin_shl, ibin_shr, ibin_and, ↓reduceIte, reduceCtorEq, oneCell, setAt, readN, Nat.reduceAdd, Nat.reduceLeDiff, Nat.reduceMul, layAt, Nat.reduceLT, Nat.reduceEqDiff, setParams, Int.reduceLT, Int.reduceLE, Int.reduceGT, Int.reduceGE, Int.reduceEq, Int.reduceNe]
  have x7 : IntKind.u64.wrap (p.mt : Int) = (p.mt : Int) := by rw [u64_of (by omega) (by omega), Int.toNat_natCast]
  have r7 := (rdp (P6.get 1 rfl)).2.2.2.2.2.1
  simp (disch := first | assumption | omega | (simp only [wkD, oneCell, Option.isSome_some, *]; done) | (simp only [wkE, ne_eq]; omega)) only [r7, x7, wkF, X_region, X_seq, X_block, X_loop, X_cond, Y_box, Y_un, Y_store, Y_append, Y_makeMap, Y_buildSlice, ibin_shl, ibin_shr, ibin_and, ↓reduceIte, reduceCtorEq, oneCell, setAt, readN, Nat.reduceAdd, Nat.reduceLeDiff, Nat.reduceMul, layAt, Nat.reduceLT, Nat.reduceEqDiff, setParams, Int.reduceLT, Int.reduceLE, Int.reduceGT, Int.reduceGE, Int.reduceEq, Int.reduceNe]
  refine Z_is (number_h (n := n + 2) (m := 4) (x := p.mt) (by omega) (by omega) (by omega) (by omega) P6) ?_
  rintro v7 h7 N7
  obtain ⟨u7, g7h, ap7, P7⟩ := app_num (by simp only [List.length_append, List.length_cons, List.length_nil, be_len]; omega) (by rw [be_len]; omega) N7
  simp (disch := first | assumption | omega | (simp only [wkD, oneCell, Option.isSome_some, *]; done) | (simp only [wkE, ne_eq]; omega)) only [ap7, wkF, X_region, X_seq, X_block, X_loop, X_cond, Y_box, Y_un, Y_store, Y_append, Y_makeMap, Y_buildSlice, ibin_shl, ibin_shr, ibin_and, ↓reduceIte, reduceCtorEq, oneCell, setAt, readN, Nat.reduceAdd, Nat.reduceLeDiff, Nat.reduceMul, layAt, Nat.reduceLT, Nat.reduceEqDiff, setParams, Int.reduceLT, Int.reduceLE, Int.reduceGT, Int.reduceGE, Int.reduceEq, Int.reduceNe]
  have r8 := (rdp (P7.get 1 rfl)).2.2.2.2.2.2.1
  have hTl : ((((([ub p.fr, ub p.tt] ++ be p.fe 4) ++ be p.te 4) ++ be p.sq 4) ++ be p.mt 4)).length = 18 := by simp only [List.length_append, List.length_cons, List.length_nil, be_len]
  have hTe : ((((([ub p.fr, ub p.tt] ++ be p.fe 4) ++ be p.te 4) ++ be p.sq 4) ++ be p.mt 4)) ++ plainB p.m l = allB p l := by
    unfold allB
    simp only [List.flatMap_cons, List.flatMap_nil, List.append_nil, List.append_assoc]
  generalize ((((([ub p.fr, ub p.tt] ++ be p.fe 4) ++ be p.te 4) ++ be p.sq 4) ++ be p.mt 4)) = T at P7 hTl hTe
  clear O3 N4 N5 N6 N7 P4 P5 P6 ap4 ap5 ap6 ap7 r4 r5 r6 r7
  simp (disch := first | assumption | omega | (simp only [wkD, oneCell, Option.isSome_some, *]; done) | (simp only [wkE, ne_eq]; omega)) only [r8, wkF, X_region, X_seq, X_block, X_loop, X_cond, Y_un, Y_store, Y_append, Y_makeMap, Y_buildSlice, ibin_shl, ibin_shr, ibin_and, ↓reduceIte, reduceCtorEq, oneCell, setAt, readN, Nat.reduceAdd, Nat.reduceLeDiff, Nat.reduceMul, layAt, Nat.reduceLT, Nat.reduceEqDiff, setParams, Int.reduceLT, Int.reduceLE, Int.reduceGT, Int.reduceGE, Int.reduceEq, Int.reduceNe]
  refine Y_boxO P7 ?_
  intro mb h8 O8 e8
  replace O8 : Has ro h8 (Ob mb (.cells (mc (mz 0)) 1 false) :: Sc 1 bc u7 T :: Ob pb (.cells (pc p) 1 false) :: R) := O8
  have g8 := O8.get 0 rfl
  have p8 := O8.can 0 rfl
  have O9 := O8.set 0 rfl (.cells (mc p.m) 1 false)
  simp only [List.set_cons_zero] at O9
  have hone : (mc p.m).all oneCell = true := by
    have : oneCell p.m.cl = true := by rw [hc]; rfl
    simp only [mc, List.all_cons, this, List.all_nil, Bool.and_true]
    rfl
  have hs8 : setAt (mc (mz 0)) 0 (mc p.m) = mc p.m := by simp [setAt, mc]
  simp (disch := first | assumption | omega | (simp only [wkD, oneCell, Option.isSome_some, *]; done) | (simp only [wkE, ne_eq]; omega)) only [g8, p8, hs8, hone, mc_len, cellsOf_agg, wkF, X_region, X_block, X_loop, X_cond, Y_box, Y_un, Y_store, Y_append, Y_makeMap, Y_buildSlice, ibin_shl, ibin_shr, ibin_and, ↓reduceIte, reduceCtorEq, readN, Nat.reduceAdd, Nat.reduceLeDiff, Nat.reduceMul, layAt, Nat.reduceLT, Nat.reduceEqDiff, setParams, Int.reduceLT, Int.reduceLE, Int.reduceGT, Int.reduceGE, Int.reduceEq, Int.reduceNe]
  generalize h8.setB mb (.cells (mc p.m) 1 false) = h9 at O9 ⊢
  clear O8 P7 g8 p8 hs8 e8 r8 hone
  have r9 := (rdm (O9.get 0 rfl)).1
  have u9 := u8_ub p.m.kd
  rw [X_seq]
  simp (disch := first | assumption | omega | (simp only [wkD, oneCell, Option.isSome_some, *]; done) | (simp only [wkE, ne_eq]; omega)) only [r9, u9, wkF, X_region, X_seq, X_block, X_loop, X_cond, Y_box, Y_un, Y_store, Y_append, Y_makeMap, ibin_shl, ibin_shr, ibin_and, ↓reduceIte, reduceCtorEq, oneCell, setAt, readN, Nat.reduceAdd, Nat.reduceLeDiff, Nat.reduceMul, layAt, Nat.reduceLT, Nat.reduceEqDiff, setParams, Int.reduceLT, Int.reduceLE, Int.reduceGT, Int.reduceGE, Int.reduceEq, Int.reduceNe]
  refine Y_buildSliceO O9 (cs := bc (ub p.m.kd)) rfl ?_
  intro b10 h10 O10 e10
  have V10 : Vw 1 bc h10 (.slice (some ⟨b10, 0, none⟩) 1 1) [ub p.m.kd] := O10.one 0 rfl
  obtain ⟨w, h11, ap, O11⟩ := sc_appendV (bytes := 1) (by omega) bc_len bc_one (O10.at 2 rfl) V10 (by simp only [List.length_cons, List.length_nil]; unfold roomMost; omega) (by omega)
  replace O11 : Has ro h11 (Sc 1 bc w (T ++ [ub p.m.kd]) :: Ob mb (.cells (mc p.m) 1 false) :: Ob pb (.cells (pc p) 1 false) :: R) := (show Has ro h11 (Sc 1 bc w (T ++ [ub p.m.kd]) :: Ob b10 (.cells (bc (ub p.m.kd)) 1 false) :: Ob mb (.cells (mc p.m) 1 false) :: Ob pb (.cells (pc p) 1 false) :: R) from O11).rid 1 rfl
  have r11 := (rdm (O11.get 1 rfl)).1
  have nm := fun h => names_e (n := n + 2) (k := p.m.kd) (h := h)
  clear O9 O10 V10 e10 r9
  simp (disch := first | assumption | omega | (simp only [wkD, oneCell, Option.isSome_some, *]; done) | (simp only [wkE, ne_eq]; omega)) only [ap, r11, nm, wkF, X_region, X_seq, X_block, X_loop, X_cond, Y_box, Y_un, Y_store, Y_append, Y_makeMap, Y_buildSlice, ibin_shl, ibin_shr, ibin_and, ↓reduceIte, reduceCtorEq, oneCell, setAt, readN, Nat.reduceAdd, Nat.reduceLeDiff, Nat.reduceMul, layAt, Nat.reduceLT, Nat.reduceEqDiff, setParams, Int.reduceLT, Int.reduceLE, Int.reduceGT, Int.reduceGE, Int.reduceEq, Int.reduceNe]
  obtain ⟨f1, f2, f3⟩ := lt_field hok.2.2.2.1.1 hok.2.2.2.1.2
  have sl := str_len (lt p.m.kd)
  have hb256 := (lt_ok hok.2.2.2.1.1 hok.2.2.2.1.2).2
  refine L_is (fun q s => ∃ (i : Nat) (v : Value), s.defers = [] ∧ s.tmps.length = 179 ∧ s.tmps.getD 5 undefV = v ∧ s.tmps.getD 6 undefV = .pointer (some ⟨mb, 0, none⟩) ∧ s.tmps.getD 7 undefV = .string (strB (lt p.m.kd)) ∧ s.tmps.getD 8 undefV = .int .i64 (i : Int) ∧ q = (lt p.m.kd).length - i ∧ i ≤ (lt p.m.kd).length ∧ Has ro s.h (Sc 1 bc v ((T ++ [ub p.m.kd]) ++ ((row p.m.kd).take i).flatMap (fb p.m l)) :: Ob mb (.cells (mc p.m) 1 false) :: Ob pb (.cells (pc p) 1 false) :: R)) (lt p.m.kd).length ?_ (by omega) ?_
  · refine ⟨0, w, rfl, rfl, rfl, rfl, rfl, rfl, rfl, by omega, ?_⟩
    rw [List.take_zero, List.flatMap_nil, List.append_nil]
    exact O11
  clear O11 ap r11 nm
  clear w
  rintro q_ tm df h12 ⟨i, v, hd, hlen_, g5, g6, g7, g8, hq, hi, O⟩
  simp only at hd g5 g6 g7 g8 O
  subst hd
  obtain ⟨w, hg_, rfl⟩ := explode hlen_
  simp only [hg_] at g5 g6 g7 g8
  clear hlen_ hg_
  by_cases hlt : i < (lt p.m.kd).length
  case neg =>
    have hlt' : ¬ (i : Int) < ((lt p.m.kd).length : Int) := by omega
    have hil : i = (lt p.m.kd).length := by omega
    simp (disch := first | assumption | omega | (simp only [wkD, oneCell, Option.isSome_some, *]; done) | (simp only [wkE, ne_eq]; omega)) only [g5, g6, g7, g8, Y_lenStr, vLenStr_str, sl, hlt', wkF, X_region, X_seq, X_block, X_loop, X_cond, Y_box, Y_un, Y_store, Y_append, Y_makeMap, Y_buildSlice, ibin_shl, ibin_shr, ibin_and, ↓reduceIte, reduceCtorEq, oneCell, setAt, readN, Nat.reduceAdd, Nat.reduceLeDiff, Nat.reduceMul, layAt, Nat.reduceLT, Nat.reduceEqDiff, setParams, Int.reduceLT, Int.reduceLE, Int.reduceGT, Int.reduceGE, Int.reduceEq, Int.reduceNe]
    refine Is_in ?_
    have hz := fbs_take (m := p.m) (l := l) (j := i) (by omega) (by rw [hil]; exact f2)
    rw [hz, List.append_assoc] at O
    have eA : T ++ ([ub p.m.kd] ++ (row p.m.kd).flatMap (fb p.m l)) = allB p l := by rw [← hTe]; rfl
    rw [eA] at O
    replace O : Has ro h12 (Sc 1 bc v (allB p l) :: R) := (O.rid 2 rfl).rid 1 rfl
    have hlt2 := allB_lt p l
    have hlen2 : (allB p l).length ≤ 600 := by
      have := plainB_len (m := p.m) hl16
      rw [← hTe, List.length_append]
      omega
    rw [bytesP_t hok]
    have hcode := code_t hok
    generalize allB p l = A at O hlt2 hlen2 ⊢
    have O9 : Has ro h12 (Sc 1 bc (.slice none 0 0) (comp (A.take 0)) :: Sc 1 bc v A :: R) := Has.scNil O
    obtain ⟨q8, c8, hv8, -⟩ := O.scVal 0 rfl
    subst hv8
    simp (disch := first | assumption | omega | (simp only [wkD, oneCell, Option.isSome_some, *]; done) | (simp only [wkE, ne_eq]; omega)) only [g5, g6, g7, g8, wkF, X_region, X_seq, X_block, X_loop, X_cond, Y_box, Y_un, Y_store, Y_append, Y_makeMap, Y_buildSlice, ibin_shl, ibin_shr, ibin_and, ↓reduceIte, reduceCtorEq, oneCell, setAt, readN, Nat.reduceAdd, Nat.reduceLeDiff, Nat.reduceMul, layAt, Nat.reduceLT, Nat.reduceEqDiff, setParams, Int.reduceLT, Int.reduceLE, Int.reduceGT, Int.reduceGE, Int.reduceEq, Int.reduceNe]
    refine L_is (fun q s => ∃ (j : Nat) (v : Value), s.defers = [] ∧ s.tmps.length = 179 ∧ s.tmps.getD 5 undefV = .slice q8 A.length c8 ∧ s.tmps.getD 10 undefV = v ∧ s.tmps.getD 11 undefV = .int .i64 (j : Int) ∧ q = A.length - j ∧ j ≤ A.length ∧ Has ro s.h (Sc 1 bc v (comp (A.take j)) :: Sc 1 bc (.slice q8 A.length c8) A :: R)) A.length ?_ (by omega) ?_
    · exact ⟨0, _, rfl, rfl, rfl, rfl, rfl, rfl, by omega, O9⟩
    clear O O9 g5 g6 g7 g8
    rintro q_ tm df h13 ⟨j, v, hd, hlen_, g5, g10, g11, hq, hj, O⟩
    simp only at hd g5 g10 g11 O
    subst hd
    obtain ⟨w, hg_, rfl⟩ := explode hlen_
    simp only [hg_] at g5 g10 g11
    clear hlen_ hg_
    by_cases hjt : j < A.length
    · have hjt' : (j : Int) < (A.length : Int) := by omega
      have y1 : IntKind.i64.wrap ((j : Int) + 1) = ((j + 1 : Nat) : Int) := by rw [wrap_i64 (by omega) (by omega)]; omega
      obtain ⟨b', o', s', c', hv', k1⟩ := rdW bc_len (O.vw 1 rfl) (i := j) hjt
      cases hv'
      have hb := hlt2 _ (List.getElem_mem hjt)
      have k1' : readC (h13.get b') (o' + j * 1) 1 = some [.int .u8 (A[j] : Int)] := k1
      have yb : IntKind.u8.wrap (255 - (A[j] : Int)) = ((255 - A[j] : Nat) : Int) := by rw [u8_wrap]; omega
      simp (disch := first | assumption | omega | (simp only [wkD, oneCell, Option.isSome_some, *]; done) | (simp only [wkE, ne_eq]; omega)) only [g5, g10, g11, hjt', wkF, X_region, X_seq, X_block, X_loop, X_cond, Y_box, Y_un, Y_store, Y_append, Y_makeMap, Y_buildSlice, ibin_shl, ibin_shr, ibin_and, ↓reduceIte, reduceCtorEq, oneCell, setAt, readN, Nat.reduceAdd, Nat.reduceLeDiff, Nat.reduceMul, layAt, Nat.reduceLT, Nat.reduceEqDiff, setParams, Int.reduceLT, Int.reduceLE, Int.reduceGT, Int.reduceGE, Int.reduceEq, Int.reduceNe]
      refine X_plan [] O.fine ?_
      refine Dp.move ?_
      refine Dp.move ?_
      refine Dp.move ?_
      simp only [putDst_some, putDst_none, List.set_cons_succ, List.set_cons_zero]
      refine Dp.idx (ii := j) rfl rfl hjt ?_
      refine Dp.load1 rfl k1' (fun k _ => by rw [plan_none]; simp) (fun x hx => by cases hx) ?_
      refine Dp.move ?_
      refine Dp.move ?_
      simp only [putDst_some, putDst_none, List.set_cons_succ, List.set_cons_zero]
      refine Dp.idx (ii := j) rfl rfl hjt ?_
      refine Dp.load1 rfl k1' (fun k _ => by rw [plan_none]; simp) (fun x hx => by cases hx) ?_
      simp only [putDst_some, putDst_none, List.set_cons_succ, List.set_cons_zero]
      refine Dp.bin (a := .int .u8 255) (b := .int .u8 (A[j] : Int)) (v := .int .u8 ((255 - A[j] : Nat) : Int)) rfl rfl (by rw [ibin_sub, yb]) ?_
      refine Dp.buildB O (cs := [A[j], 255 - A[j]].flatMap bc) rfl ?_
      intro b14 h14 O14
      have V4 : Vw 1 bc h14 (.slice (some ⟨b14, 0, none⟩) 2 2) [A[j], 255 - A[j]] := Has.vwo O14 0 rfl rfl
      have lc := comp_len (A.take j)
      rw [List.length_take] at lc
      obtain ⟨w2, h15, ap, O15⟩ := sc_appendV (bytes := 1) (by omega) bc_len bc_one (O14.at 1 rfl) V4 (by simp only [List.length_cons, List.length_nil]; unfold roomMost; omega) (by omega)
      replace O15 : Has ro h15 (Sc 1 bc w2 (comp (A.take j) ++ [A[j], 255 - A[j]]) :: Sc 1 bc (.slice (some ⟨b', o', s'⟩) A.length c8) A :: R) := (show Has ro h15 (Sc 1 bc w2 (comp (A.take j) ++ [A[j], 255 - A[j]]) :: Ob b14 _ :: Sc 1 bc (.slice (some ⟨b', o', s'⟩) A.length c8) A :: R) from O15).rid 1 rfl
      have e2 : A.take (j + 1) = A.take j ++ [A[j]] := by rw [List.take_add_one, List.getElem?_eq_getElem hjt]; rfl
      have e3 : comp (A.take j) ++ [A[j], 255 - A[j]] = comp (A.take (j + 1)) := by
        unfold comp
        rw [e2, List.flatMap_append, List.flatMap_singleton]
      rw [e3] at O15
      simp only [putDst_some, putDst_none, List.set_cons_succ, List.set_cons_zero]
      refine Dp.appendB (h' := h15) (w := w2) ap ?_
      refine Dp.move ?_
      refine Dp.nil ?_
      simp (disch := first | assumption | omega | (simp only [wkD, oneCell, Option.isSome_some, *]; done) | (simp only [wkE, ne_eq]; omega)) only [g5, g10, g11, y1, wkF, X_region, X_seq, X_block, X_loop, X_cond, Y_box, Y_un, Y_store, Y_append, Y_makeMap, Y_buildSlice, ibin_shl, ibin_shr, ibin_and, ↓reduceIte, reduceCtorEq, oneCell, setAt, readN, Nat.reduceAdd, Nat.reduceLeDiff, Nat.reduceMul, layAt, Nat.reduceLT, Nat.reduceEqDiff, setParams, Int.reduceLT, Int.reduceLE, Int.reduceGT, Int.reduceGE, Int.reduceEq, Int.reduceNe]
      exact Is_in ⟨A.length - (j + 1), by omega, j + 1, w2, rfl, rfl, rfl, rfl, rfl, rfl, by omega, O15⟩
    · have hjt' : ¬ (j : Int) < (A.length : Int) := by omega
      simp (disch := first | assumption | omega | (simp only [wkD, oneCell, Option.isSome_some, *]; done) | (simp only [wkE, ne_eq]; omega)) only [g5, g10, g11, hjt', wkF, X_region, X_seq, X_block, X_loop, X_cond, Y_box, Y_un, Y_store, Y_append, Y_makeMap, Y_buildSlice, ibin_shl, ibin_shr, ibin_and, ↓reduceIte, reduceCtorEq, oneCell, setAt, readN, Nat.reduceAdd, Nat.reduceLeDiff, Nat.reduceMul, layAt, Nat.reduceLT, Nat.reduceEqDiff, setParams, Int.reduceLT, Int.reduceLE, Int.reduceGT, Int.reduceGE, Int.reduceEq, Int.reduceNe]
      refine Is_in ?_
      simp (disch := first | assumption | omega | (simp only [wkD, oneCell, Option.isSome_some, *]; done) | (simp only [wkE, ne_eq]; omega)) only [g5, g10, g11, wkF, X_region, X_seq, X_block, X_loop, X_cond, Y_box, Y_un, Y_store, Y_append, Y_makeMap, Y_buildSlice, ibin_shl, ibin_shr, ibin_and, ↓reduceIte, reduceCtorEq, oneCell, setAt, readN, Nat.reduceAdd, Nat.reduceLeDiff, Nat.reduceMul, layAt, Nat.reduceLT, Nat.reduceEqDiff, setParams, Int.reduceLT, Int.reduceLE, Int.reduceGT, Int.reduceGE, Int.reduceEq, Int.reduceNe]
      rw [List.take_of_length_le (show A.length ≤ j by omega)] at O
      exact leaf2 ⟨_, 0, rfl, hcode, O.rid 1 rfl⟩
  have hlt' : (i : Int) < ((lt p.m.kd).length : Int) := by omega
  have y1 : IntKind.i64.wrap ((i : Int) + 1) = ((i + 1 : Nat) : Int) := by rw [wrap_i64 (by omega) (by omega)]; omega
  obtain ⟨d1, d2, d3⟩ := f3 i hlt
  obtain ⟨f, hf⟩ : ∃ f : Nat, (row p.m.kd).getD i 0 = (f : Int) := ⟨((row p.m.kd).getD i 0).toNat, by omega⟩
  rw [hf] at d1 d2 d3
  rw [Int.toNat_natCast] at d3
  have e1 : (row p.m.kd).take (i + 1) = (row p.m.kd).take i ++ [(f : Int)] := by rw [take_next (by rw [row_len]; omega), hf]
  have hfl := fbs_len (m := p.m) hl16 ((row p.m.kd).take i)
  rw [List.length_take, row_len] at hfl
  have hld := (List.getElem?_eq_some_iff.1 d3).2
  have ix := idx_str (L := lt p.m.kd) (i := i) hlt (hb256 _ (List.getElem_mem hlt)) (k := .i64)
  rw [hld] at ix
  have fin : ∀ {s : St} {w' : Value}, s.defers = [] → s.tmps.length = 179 → s.tmps.getD 5 undefV = w' → s.tmps.getD 6 undefV = .pointer (some ⟨mb, 0, none⟩) → s.tmps.getD 7 undefV = .string (strB (lt p.m.kd)) → s.tmps.getD 8 undefV = .int .i64 ((i + 1 : Nat) : Int) → Has ro s.h (Sc 1 bc w' (((T ++ [ub p.m.kd]) ++ ((row p.m.kd).take i).flatMap (fb p.m l)) ++ fb p.m l (f : Int)) :: Ob mb (.cells (mc p.m) 1 false) :: Ob pb (.cells (pc p) 1 false) :: R) → ∃ k', k' < q_ ∧ ∃ (i : Nat) (v : Value), s.defers = [] ∧ s.tmps.length = 179 ∧ s.tmps.getD 5 undefV = v ∧ s.tmps.getD 6 undefV = .pointer (some ⟨mb, 0, none⟩) ∧ s.tmps.getD 7 undefV = .string (strB (lt p.m.kd)) ∧ s.tmps.getD 8 undefV = .int .i64 (i : Int) ∧ k' = (lt p.m.kd).length - i ∧ i ≤ (lt p.m.kd).length ∧ Has ro s.h (Sc 1 bc v ((T ++ [ub p.m.kd]) ++ ((row p.m.kd).take i).flatMap (fb p.m l)) :: Ob mb (.cells (mc p.m) 1 false) :: Ob pb (.cells (pc p) 1 false) :: R) := by
    intro s w' a1 a2 a3 a4 a5 a6 a7
    refine ⟨(lt p.m.kd).length - (i + 1), by omega, i + 1, w', a1, a2, a3, a4, a5, a6, rfl, by omega, ?_⟩
    rw [e1, List.flatMap_append, List.flatMap_singleton, ← List.append_assoc]
    exact a7
  obtain ⟨n1, n2, n3, n4, n5, n6⟩ := hN
  obtain ⟨r0, r1, r2, r3, r4, r5, r6, r7, r8, r9⟩ := rdm (O.get 1 rfl)
  rw [hc] at r8
  have hbase : ((T ++ [ub p.m.kd]) ++ ((row p.m.kd).take i).flatMap (fb p.m l)).length ≤ 600 := by
    rw [List.length_append, List.length_append, hTl]
    simp only [List.length_cons, List.length_nil]
    omega
  generalize ((T ++ [ub p.m.kd]) ++ ((row p.m.kd).take i).flatMap (fb p.m l)) = U at O hbase fin
  have hcase : f = 1 ∨ f = 2 ∨ f = 3 ∨ f = 4 ∨ f = 5 ∨ f = 6 ∨ f = 7 ∨ f = 8 := by omega
  rcases hcase with rfl | rfl | rfl | rfl | rfl | rfl | rfl | rfl
  · have wu := u64_of n1 (by omega)
    have ix : vIndexStr (.string (strB (lt p.m.kd))) (.int .i64 (i : Int)) = some (.int .u8 99) := ix
    simp (disch := first | assumption | omega | (simp only [wkD, oneCell, Option.isSome_some, *]; done) | (simp only [wkE, ne_eq]; omega)) only [g5, g6, g7, g8, Y_lenStr, vLenStr_str, sl, hlt', Y_indexStr, ix, r1, r2, r3, wu, wkF, X_region, X_seq, X_block, X_loop, X_cond, Y_box, Y_un, Y_store, Y_append, Y_makeMap, Y_buildSlice, ibin_shl, ibin_shr, ibin_and, ↓reduceIte, reduceCtorEq, oneCell, setAt, readN, Nat.reduceAdd, Nat.reduceLeDiff, Nat.reduceMul, layAt, Nat.reduceLT, Nat.reduceEqDiff, setParams, Int.reduceLT, Int.reduceLE, Int.reduceGT, Int.reduceGE, Int.reduceEq, Int.reduceNe]
    refine Z_is (number_h (n := n + 2) (m := 2) (x := p.m.cell.toNat) (by omega) (by omega) (by omega) (by omega) O) ?_
    rintro v13 h13 N13
    obtain ⟨u14, h14, ap14, P14⟩ := app_num (by omega) (by rw [be_len]; omega) N13
    simp (disch := first | assumption | omega | (simp only [wkD, oneCell, Option.isSome_some, *]; done) | (simp only [wkE, ne_eq]; omega)) only [ap14, y1, wkF, X_region, X_seq, X_block, X_loop, X_cond, Y_box, Y_un, Y_store, Y_append, Y_makeMap, Y_buildSlice, ibin_shl, ibin_shr, ibin_and, ↓reduceIte, reduceCtorEq, oneCell, setAt, readN, Nat.reduceAdd, Nat.reduceLeDiff, Nat.reduceMul, layAt, Nat.reduceLT, Nat.reduceEqDiff, setParams, Int.reduceLT, Int.reduceLE, Int.reduceGT, Int.reduceGE, Int.reduceEq, Int.reduceNe]
    exact Is_in (fin rfl rfl rfl rfl rfl rfl P14)
  · have wu : IntKind.u64.wrap (p.m.gen : Int) = (p.m.gen : Int) := by rw [u64_of (by omega) (by omega), Int.toNat_natCast]
    have ix : vIndexStr (.string (strB (lt p.m.kd))) (.int .i64 (i : Int)) = some (.int .u8 103) := ix
    simp (disch := first | assumption | omega | (simp only [wkD, oneCell, Option.isSome_some, *]; done) | (simp only [wkE, ne_eq]; omega)) only [g5, g6, g7, g8, Y_lenStr, vLenStr_str, sl, hlt', Y_indexStr, ix, r1, r2, r3, wu, wkF, X_region, X_seq, X_block, X_loop, X_cond, Y_box, Y_un, Y_store, Y_append, Y_makeMap, Y_buildSlice, ibin_shl, ibin_shr, ibin_and, ↓reduceIte, reduceCtorEq, oneCell, setAt, readN, Nat.reduceAdd, Nat.reduceLeDiff, Nat.reduceMul, layAt, Nat.reduceLT, Nat.reduceEqDiff, setParams, Int.reduceLT, Int.reduceLE, Int.reduceGT, Int.reduceGE, Int.reduceEq, Int.reduceNe]
    refine Z_is (number_h (n := n + 2) (m := 4) (x := p.m.gen) (by omega) (by omega) (by omega) (by omega) O) ?_
    rintro v13 h13 N13
    obtain ⟨u14, h14, ap14, P14⟩ := app_num (by omega) (by rw [be_len]; omega) N13
    simp (disch := first | assumption | omega | (simp only [wkD, oneCell, Option.isSome_some, *]; done) | (simp only [wkE, ne_eq]; omega)) only [ap14, y1, wkF, X_region, X_seq, X_block, X_loop, X_cond, Y_box, Y_un, Y_store, Y_append, Y_makeMap, Y_buildSlice, ibin_shl, ibin_shr, ibin_and, ↓reduceIte, reduceCtorEq, oneCell, setAt, readN, Nat.reduceAdd, Nat.reduceLeDiff, Nat.reduceMul, layAt, Nat.reduceLT, Nat.reduceEqDiff, setParams, Int.reduceLT, Int.reduceLE, Int.reduceGT, Int.reduceGE, Int.reduceEq, Int.reduceNe]
    exact Is_in (fin rfl rfl rfl rfl rfl rfl P14)
  · have wu := trivial
    have ix : vIndexStr (.string (strB (lt p.m.kd))) (.int .i64 (i : Int)) = some (.int .u8 115) := ix
    simp (disch := first | assumption | omega | (simp only [wkD, oneCell, Option.isSome_some, *]; done) | (simp only [wkE, ne_eq]; omega)) only [g5, g6, g7, g8, Y_lenStr, vLenStr_str, sl, hlt', Y_indexStr, ix, r1, r2, r3, wu, wkF, X_region, X_seq, X_block, X_loop, X_cond, Y_box, Y_un, Y_store, Y_append, Y_makeMap, Y_buildSlice, ibin_shl, ibin_shr, ibin_and, ↓reduceIte, reduceCtorEq, oneCell, setAt, readN, Nat.reduceAdd, Nat.reduceLeDiff, Nat.reduceMul, layAt, Nat.reduceLT, Nat.reduceEqDiff, setParams, Int.reduceLT, Int.reduceLE, Int.reduceGT, Int.reduceGE, Int.reduceEq, Int.reduceNe]
    refine Z_is (number_h (n := n + 2) (m := 8) (x := p.m.stamp) (by omega) (by omega) (by omega) (by omega) O) ?_
    rintro v13 h13 N13
    obtain ⟨u14, h14, ap14, P14⟩ := app_num (by omega) (by rw [be_len]; omega) N13
    simp (disch := first | assumption | omega | (simp only [wkD, oneCell, Option.isSome_some, *]; done) | (simp only [wkE, ne_eq]; omega)) only [ap14, y1, wkF, X_region, X_seq, X_block, X_loop, X_cond, Y_box, Y_un, Y_store, Y_append, Y_makeMap, Y_buildSlice, ibin_shl, ibin_shr, ibin_and, ↓reduceIte, reduceCtorEq, oneCell, setAt, readN, Nat.reduceAdd, Nat.reduceLeDiff, Nat.reduceMul, layAt, Nat.reduceLT, Nat.reduceEqDiff, setParams, Int.reduceLT, Int.reduceLE, Int.reduceGT, Int.reduceGE, Int.reduceEq, Int.reduceNe]
    exact Is_in (fin rfl rfl rfl rfl rfl rfl P14)
  · have wu := u8_ub p.m.prio
    have ix : vIndexStr (.string (strB (lt p.m.kd))) (.int .i64 (i : Int)) = some (.int .u8 112) := ix
    simp (disch := first | assumption | omega | (simp only [wkD, oneCell, Option.isSome_some, *]; done) | (simp only [wkE, ne_eq]; omega)) only [g5, g6, g7, g8, Y_lenStr, vLenStr_str, sl, hlt', Y_indexStr, ix, r4, r5, r6, r7, wu, wkF, X_region, X_seq, X_block, X_loop, X_cond, Y_box, Y_un, Y_store, Y_append, Y_makeMap, ibin_shl, ibin_shr, ibin_and, ↓reduceIte, reduceCtorEq, oneCell, setAt, readN, Nat.reduceAdd, Nat.reduceLeDiff, Nat.reduceMul, layAt, Nat.reduceLT, Nat.reduceEqDiff, setParams, Int.reduceLT, Int.reduceLE, Int.reduceGT, Int.reduceGE, Int.reduceEq, Int.reduceNe]
    refine Y_buildSliceO O (cs := bc (ub p.m.prio)) rfl ?_
    intro b13 h13 O13 e13
    have V13 : Vw 1 bc h13 (.slice (some ⟨b13, 0, none⟩) 1 1) [ub p.m.prio] := O13.one 0 rfl
    obtain ⟨w14, h14, ap14, O14⟩ := sc_appendV (bytes := 1) (by omega) bc_len bc_one (O13.at 1 rfl) V13 (by simp only [List.length_cons, List.length_nil]; unfold roomMost; omega) (by omega)
    simp (disch := first | assumption | omega | (simp only [wkD, oneCell, Option.isSome_some, *]; done) | (simp only [wkE, ne_eq]; omega)) only [ap14, y1, wkF, X_region, X_seq, X_block, X_loop, X_cond, Y_box, Y_un, Y_store, Y_append, Y_makeMap, Y_buildSlice, ibin_shl, ibin_shr, ibin_and, ↓reduceIte, reduceCtorEq, oneCell, setAt, readN, Nat.reduceAdd, Nat.reduceLeDiff, Nat.reduceMul, layAt, Nat.reduceLT, Nat.reduceEqDiff, setParams, Int.reduceLT, Int.reduceLE, Int.reduceGT, Int.reduceGE, Int.reduceEq, Int.reduceNe]
    exact Is_in (fin rfl rfl rfl rfl rfl rfl (Has.rid O14 1 rfl))
  · have wu := u8_ub p.m.hops
    have ix : vIndexStr (.string (strB (lt p.m.kd))) (.int .i64 (i : Int)) = some (.int .u8 104) := ix
    simp (disch := first | assumption | omega | (simp only [wkD, oneCell, Option.isSome_some, *]; done) | (simp only [wkE, ne_eq]; omega)) only [g5, g6, g7, g8, Y_lenStr, vLenStr_str, sl, hlt', Y_indexStr, ix, r4, r5, r6, r7, wu, wkF, X_region, X_seq, X_block, X_loop, X_cond, Y_box, Y_un, Y_store, Y_append, Y_makeMap, ibin_shl, ibin_shr, ibin_and, ↓reduceIte, reduceCtorEq, oneCell, setAt, readN, Nat.reduceAdd, Nat.reduceLeDiff, Nat.reduceMul, layAt, Nat.reduceLT, Nat.reduceEqDiff, setParams, Int.reduceLT, Int.reduceLE, Int.reduceGT, Int.reduceGE, Int.reduceEq, Int.reduceNe]
    refine Y_buildSliceO O (cs := bc (ub p.m.hops)) rfl ?_
    intro b13 h13 O13 e13
    have V13 : Vw 1 bc h13 (.slice (some ⟨b13, 0, none⟩) 1 1) [ub p.m.hops] := O13.one 0 rfl
    obtain ⟨w14, h14, ap14, O14⟩ := sc_appendV (bytes := 1) (by omega) bc_len bc_one (O13.at 1 rfl) V13 (by simp only [List.length_cons, List.length_nil]; unfold roomMost; omega) (by omega)
    simp (disch := first | assumption | omega | (simp only [wkD, oneCell, Option.isSome_some, *]; done) | (simp only [wkE, ne_eq]; omega)) only [ap14, y1, wkF, X_region, X_seq, X_block, X_loop, X_cond, Y_box, Y_un, Y_store, Y_append, Y_makeMap, Y_buildSlice, ibin_shl, ibin_shr, ibin_and, ↓reduceIte, reduceCtorEq, oneCell, setAt, readN, Nat.reduceAdd, Nat.reduceLeDiff, Nat.reduceMul, layAt, Nat.reduceLT, Nat.reduceEqDiff, setParams, Int.reduceLT, Int.reduceLE, Int.reduceGT, Int.reduceGE, Int.reduceEq, Int.reduceNe]
    exact Is_in (fin rfl rfl rfl rfl rfl rfl (Has.rid O14 1 rfl))
  · have wu := u8_ub p.m.orig
    have ix : vIndexStr (.string (strB (lt p.m.kd))) (.int .i64 (i : Int)) = some (.int .u8 111) := ix
    simp (disch := first | assumption | omega | (simp only [wkD, oneCell, Option.isSome_some, *]; done) | (simp only [wkE, ne_eq]; omega)) only [g5, g6, g7, g8, Y_lenStr, vLenStr_str, sl, hlt', Y_indexStr, ix, r4, r5, r6, r7, wu, wkF, X_region, X_seq, X_block, X_loop, X_cond, Y_box, Y_un, Y_store, Y_append, Y_makeMap, ibin_shl, ibin_shr, ibin_and, ↓reduceIte, reduceCtorEq, oneCell, setAt, readN, Nat.reduceAdd, Nat.reduceLeDiff, Nat.reduceMul, layAt, Nat.reduceLT, Nat.reduceEqDiff, setParams, Int.reduceLT, Int.reduceLE, Int.reduceGT, Int.reduceGE, Int.reduceEq, Int.reduceNe]
    refine Y_buildSliceO O (cs := bc (ub p.m.orig)) rfl ?_
    intro b13 h13 O13 e13
    have V13 : Vw 1 bc h13 (.slice (some ⟨b13, 0, none⟩) 1 1) [ub p.m.orig] := O13.one 0 rfl
    obtain ⟨w14, h14, ap14, O14⟩ := sc_appendV (bytes := 1) (by omega) bc_len bc_one (O13.at 1 rfl) V13 (by simp only [List.length_cons, List.length_nil]; unfold roomMost; omega) (by omega)
    simp (disch := first | assumption | omega | (simp only [wkD, oneCell, Option.isSome_some, *]; done) | (simp only [wkE, ne_eq]; omega)) only [ap14, y1, wkF, X_region, X_seq, X_block, X_loop, X_cond, Y_box, Y_un, Y_store, Y_append, Y_makeMap, Y_buildSlice, ibin_shl, ibin_shr, ibin_and, ↓reduceIte, reduceCtorEq, oneCell, setAt, readN, Nat.reduceAdd, Nat.reduceLeDiff, Nat.reduceMul, layAt, Nat.reduceLT, Nat.reduceEqDiff, setParams, Int.reduceLT, Int.reduceLE, Int.reduceGT, Int.reduceGE, Int.reduceEq, Int.reduceNe]
    exact Is_in (fin rfl rfl rfl rfl rfl rfl (Has.rid O14 1 rfl))
  · have a1 : IntKind.i64.wrap (p.m.oth + 256) = p.m.oth + 256 := wrap_i64 (by have := hok.2.2.2.2.2.1.2.2.2.2.1; omega) (by have := hok.2.2.2.2.2.1.2.2.2.2.1; omega)
    have a2 : IntKind.u8.wrap ((p.m.oth + 256).tmod 256) = ((ub p.m.oth : Nat) : Int) := by
      have hoth := hok.2.2.2.2.2.1.2.2.2.2.1
      rw [u8_wrap, Int.tmod_eq_emod_of_nonneg (by omega)]
      unfold ub
      omega
    have n0 : (256 : Int) ≠ 0 := by decide
    have ix : vIndexStr (.string (strB (lt p.m.kd))) (.int .i64 (i : Int)) = some (.int .u8 119) := ix
    simp (disch := first | assumption | omega | (simp only [wkD, oneCell, Option.isSome_some, *]; done) | (simp only [wkE, ne_eq]; omega)) only [g5, g6, g7, g8, Y_lenStr, vLenStr_str, sl, hlt', Y_indexStr, ix, r4, r5, r6, r7, a1, n0, a2, wkF, X_region, X_seq, X_block, X_loop, X_cond, Y_box, Y_un, Y_store, Y_append, Y_makeMap, ibin_shl, ibin_shr, ibin_and, ↓reduceIte, reduceCtorEq, oneCell, setAt, readN, Nat.reduceAdd, Nat.reduceLeDiff, Nat.reduceMul, layAt, Nat.reduceLT, Nat.reduceEqDiff, setParams, Int.reduceLT, Int.reduceLE, Int.reduceGT, Int.reduceGE, Int.reduceEq, Int.reduceNe]
    refine Y_buildSliceO O (cs := bc (ub p.m.oth)) rfl ?_
    intro b13 h13 O13 e13
    have V13 : Vw 1 bc h13 (.slice (some ⟨b13, 0, none⟩) 1 1) [ub p.m.oth] := O13.one 0 rfl
    obtain ⟨w14, h14, ap14, O14⟩ := sc_appendV (bytes := 1) (by omega) bc_len bc_one (O13.at 1 rfl) V13 (by simp only [List.length_cons, List.length_nil]; unfold roomMost; omega) (by omega)
    simp (disch := first | assumption | omega | (simp only [wkD, oneCell, Option.isSome_some, *]; done) | (simp only [wkE, ne_eq]; omega)) only [ap14, y1, wkF, X_region, X_seq, X_block, X_loop, X_cond, Y_box, Y_un, Y_store, Y_append, Y_makeMap, Y_buildSlice, ibin_shl, ibin_shr, ibin_and, ↓reduceIte, reduceCtorEq, oneCell, setAt, readN, Nat.reduceAdd, Nat.reduceLeDiff, Nat.reduceMul, layAt, Nat.reduceLT, Nat.reduceEqDiff, setParams, Int.reduceLT, Int.reduceLE, Int.reduceGT, Int.reduceGE, Int.reduceEq, Int.reduceNe]
    exact Is_in (fin rfl rfl rfl rfl rfl rfl (Has.rid O14 1 rfl))
  · have wu := u8_ub (l.length : Int)
    have ix : vIndexStr (.string (strB (lt p.m.kd))) (.int .i64 (i : Int)) = some (.int .u8 108) := ix
    simp (disch := first | assumption | omega | (simp only [wkD, oneCell, Option.isSome_some, *]; done) | (simp only [wkE, ne_eq]; omega)) only [g5, g6, g7, g8, Y_lenStr, vLenStr_str, sl, hlt', Y_indexStr, ix, r8, wu, wkF, X_region, X_seq, X_block, X_loop, X_cond, Y_box, Y_un, Y_store, Y_append, Y_makeMap, ibin_shl, ibin_shr, ibin_and, ↓reduceIte, reduceCtorEq, oneCell, setAt, readN, Nat.reduceAdd, Nat.reduceLeDiff, Nat.reduceMul, layAt, Nat.reduceLT, Nat.reduceEqDiff, setParams, Int.reduceLT, Int.reduceLE, Int.reduceGT, Int.reduceGE, Int.reduceEq, Int.reduceNe]
    refine Y_buildSliceO O (cs := bc (ub (l.length : Int))) rfl ?_
    intro b13 h13 O13 e13
    have V13 : Vw 1 bc h13 (.slice (some ⟨b13, 0, none⟩) 1 1) [ub (l.length : Int)] := O13.one 0 rfl
    obtain ⟨w14, h14, ap14, O14⟩ := sc_appendV (bytes := 1) (by omega) bc_len bc_one (O13.at 1 rfl) V13 (by simp only [List.length_cons, List.length_nil]; unfold roomMost; omega) (by omega)
    replace O14 : Has ro h14 (Sc 1 bc w14 (U ++ [ub (l.length : Int)]) :: Ob mb (.cells (mc p.m) 1 false) :: Ob pb (.cells (pc p) 1 false) :: R) := (show Has ro h14 (Sc 1 bc w14 (U ++ [ub (l.length : Int)]) :: Ob b13 (.cells (bc (ub (l.length : Int))) 1 false) :: Ob mb (.cells (mc p.m) 1 false) :: Ob pb (.cells (pc p) 1 false) :: R) from O14).rid 1 rfl
    have rl : ∀ {h : Heap} {L : List Rs}, Has ro h (Ob mb (.cells (mc p.m) 1 false) :: L) → readC (h.get mb) 8 1 = some [.slice pp l.length cq] := fun {h L} O => by
      have := (rdm (O.get 0 rfl)).2.2.2.2.2.2.2.2.1
      rw [hc] at this
      exact this
    clear O O13 V13 e13 r0 r1 r2 r3 r4 r5 r6 r7 r8 r9
    simp (disch := first | assumption | omega | (simp only [wkD, oneCell, Option.isSome_some, *]; done) | (simp only [wkE, ne_eq]; omega)) only [ap14, wkF, X_region, X_seq, X_block, X_loop, X_cond, Y_box, Y_un, Y_store, Y_append, Y_makeMap, Y_buildSlice, ibin_shl, ibin_shr, ibin_and, ↓reduceIte, reduceCtorEq, oneCell, setAt, readN, Nat.reduceAdd, Nat.reduceLeDiff, Nat.reduceMul, layAt, Nat.reduceLT, Nat.reduceEqDiff, setParams, Int.reduceLT, Int.reduceLE, Int.reduceGT, Int.reduceGE, Int.reduceEq, Int.reduceNe]
    refine L_is (fun q s => ∃ (c : Nat) (v : Value), s.defers = [] ∧ s.tmps.length = 179 ∧ s.tmps.getD 5 undefV = v ∧ s.tmps.getD 6 undefV = .pointer (some ⟨mb, 0, none⟩) ∧ s.tmps.getD 7 undefV = .string (strB (lt p.m.kd)) ∧ s.tmps.getD 8 undefV = .int .i64 (i : Int) ∧ s.tmps.getD 9 undefV = .int .i64 (c : Int) ∧ q = l.length - c ∧ c ≤ l.length ∧ Has ro s.h (Sc 1 bc v ((U ++ [ub (l.length : Int)]) ++ (l.take c).flatMap clb) :: Ob mb (.cells (mc p.m) 1 false) :: Ob pb (.cells (pc p) 1 false) :: R)) l.length ?_ (by omega) ?_
    · refine ⟨0, w14, rfl, rfl, rfl, rfl, rfl, rfl, rfl, rfl, by omega, ?_⟩
      rw [List.take_zero, List.flatMap_nil, List.append_nil]
      exact O14
    clear O14 ap14 g5 g6 g7 g8
    rintro q2_ tm df h15 ⟨c, v, hd, hlen_, g5, g6, g7, g8, g9, hq2, hci, O⟩
    simp only at hd g5 g6 g7 g8 g9 O
    subst hd
    obtain ⟨w2, hg_, rfl⟩ := explode hlen_
    simp only [hg_] at g5 g6 g7 g8 g9
    clear hlen_ hg_
    have r8 := rl (O.at 1 rfl)
    by_cases hlc2 : c < l.length
    · have hlc' : (c : Int) < (l.length : Int) := by omega
      have c0 : (0 : Int) ≤ (c : Int) := by omega
      have y2 : IntKind.i64.wrap ((c : Int) + 1) = ((c + 1 : Nat) : Int) := by rw [wrap_i64 (by omega) (by omega)]; omega
      obtain ⟨j1, j2, j3⟩ := n6 c hlc2
      have hgd : l[c]? = some (l.getD c ⟨0, 0⟩) := by rw [List.getD_eq_getElem?_getD, List.getElem?_eq_getElem hlc2]; rfl
      obtain ⟨b1, o1, s1, d1', hv, kk, -⟩ := (V _ O.drop.drop.drop).rd cc_len hgd
      rw [hc] at hv
      cases hv
      have rc : ∀ h, Has ro h R → readC (h.get b1) (o1 + c * 2) 1 = some [.int .i64 (cel l c)] ∧ readC (h.get b1) (o1 + c * 2 + 1) 1 = some [.int .u32 ((l.getD c ⟨0, 0⟩).g : Int)] := fun h O => by
        obtain ⟨b2, o2, s2, d2', hv2, kk2, -⟩ := (V _ O).rd cc_len hgd
        rw [hc] at hv2
        cases hv2
        exact ⟨kk2 0 1 (by omega), kk2 1 1 (by omega)⟩
      have k2 := (rc _ O.drop.drop.drop).1
      have x1 := u64_of j1 (by omega)
      have x2 : IntKind.u64.wrap ((l.getD c ⟨0, 0⟩).g : Int) = ((l.getD c ⟨0, 0⟩).g : Int) := by rw [u64_of (by omega) (by omega), Int.toNat_natCast]
      have ltk : ((l.take c).flatMap clb).length ≤ 6 * 16 := by
        rw [clb_len, List.length_take]
        omega
      simp (disch := first | assumption | omega | (simp only [wkD, oneCell, Option.isSome_some, *]; done) | (simp only [wkE, ne_eq]; omega)) only [g5, g6, g7, g8, g9, r8, hlc', c0, k2, Int.toNat_natCast, x1, wkF, X_region, X_seq, X_block, X_loop, X_cond, Y_box, Y_un, Y_store, Y_append, Y_makeMap, Y_buildSlice, ibin_shl, ibin_shr, ibin_and, ↓reduceIte, reduceCtorEq, oneCell, setAt, readN, Nat.reduceAdd, Nat.reduceLeDiff, Nat.reduceMul, layAt, Nat.reduceLT, Nat.reduceEqDiff, setParams, Int.reduceLT, Int.reduceLE, Int.reduceGT, Int.reduceGE, Int.reduceEq, Int.reduceNe]
      refine Z_is (number_h (n := n + 2) (m := 2) (x := (cel l c).toNat) (by omega) (by omega) (by omega) (by omega) O) ?_
      rintro v16 h16 N16
      obtain ⟨u17, h17, ap17, P17⟩ := app_num (by simp only [List.length_append, List.length_cons, List.length_nil]; omega) (by rw [be_len]; omega) N16
      have r8b := rl (P17.at 1 rfl)
      have k3 := (rc _ P17.drop.drop.drop).2
      simp (disch := first | assumption | omega | (simp only [wkD, oneCell, Option.isSome_some, *]; done) | (simp only [wkE, ne_eq]; omega)) only [ap17, r8b, hlc', c0, k3, Int.toNat_natCast, x2, wkF, X_region, X_seq, X_block, X_loop, X_cond, Y_box, Y_un, Y_store, Y_append, Y_makeMap, Y_buildSlice, ibin_shl, ibin_shr, ibin_and, ↓reduceIte, reduceCtorEq, oneCell, setAt, readN, Nat.reduceAdd, Nat.reduceLeDiff, Nat.reduceMul, layAt, Nat.reduceLT, Nat.reduceEqDiff, setParams, Int.reduceLT, Int.reduceLE, Int.reduceGT, Int.reduceGE, Int.reduceEq, Int.reduceNe]
      refine Z_is (number_h (n := n + 2) (m := 4) (x := (l.getD c ⟨0, 0⟩).g) (by omega) (by omega) (by omega) (by omega) P17) ?_
      rintro v18 h18 N18
      obtain ⟨u19, h19, ap19, P19⟩ := app_num (by simp only [List.length_append, List.length_cons, List.length_nil, be_len]; omega) (by rw [be_len]; omega) N18
      simp (disch := first | assumption | omega | (simp only [wkD, oneCell, Option.isSome_some, *]; done) | (simp only [wkE, ne_eq]; omega)) only [ap19, y2, wkF, X_region, X_seq, X_block, X_loop, X_cond, Y_box, Y_un, Y_store, Y_append, Y_makeMap, Y_buildSlice, ibin_shl, ibin_shr, ibin_and, ↓reduceIte, reduceCtorEq, oneCell, setAt, readN, Nat.reduceAdd, Nat.reduceLeDiff, Nat.reduceMul, layAt, Nat.reduceLT, Nat.reduceEqDiff, setParams, Int.reduceLT, Int.reduceLE, Int.reduceGT, Int.reduceGE, Int.reduceEq, Int.reduceNe]
      refine Is_in ⟨l.length - (c + 1), by omega, c + 1, u19, rfl, rfl, rfl, rfl, rfl, rfl, rfl, rfl, by omega, ?_⟩
      have e2 : l.take (c + 1) = l.take c ++ [l.getD c ⟨0, 0⟩] := by
        rw [List.take_add_one, hgd]
        rfl
      rw [e2, List.flatMap_append, List.flatMap_singleton, ← List.append_assoc]
      show Has ro h19 (Sc 1 bc u19 (((U ++ [ub (l.length : Int)]) ++ (l.take c).flatMap clb) ++ (be (cel l c).toNat 2 ++ be (l.getD c ⟨0, 0⟩).g 4)) :: _)
      rw [← List.append_assoc]
      exact P19
    · have hlc' : ¬ (c : Int) < (l.length : Int) := by omega
      simp (disch := first | assumption | omega | (simp only [wkD, oneCell, Option.isSome_some, *]; done) | (simp only [wkE, ne_eq]; omega)) only [g5, g6, g7, g8, g9, r8, hlc', wkF, X_region, X_seq, X_block, X_loop, X_cond, Y_box, Y_un, Y_store, Y_append, Y_makeMap, Y_buildSlice, ibin_shl, ibin_shr, ibin_and, ↓reduceIte, reduceCtorEq, oneCell, setAt, readN, Nat.reduceAdd, Nat.reduceLeDiff, Nat.reduceMul, layAt, Nat.reduceLT, Nat.reduceEqDiff, setParams, Int.reduceLT, Int.reduceLE, Int.reduceGT, Int.reduceGE, Int.reduceEq, Int.reduceNe]
      refine Is_in ?_
      simp (disch := first | assumption | omega | (simp only [wkD, oneCell, Option.isSome_some, *]; done) | (simp only [wkE, ne_eq]; omega)) only [y1, wkF, X_region, X_seq, X_block, X_loop, X_cond, Y_box, Y_un, Y_store, Y_append, Y_makeMap, Y_buildSlice, ibin_shl, ibin_shr, ibin_and, ↓reduceIte, reduceCtorEq, oneCell, setAt, readN, Nat.reduceAdd, Nat.reduceLeDiff, Nat.reduceMul, layAt, Nat.reduceLT, Nat.reduceEqDiff, setParams, Int.reduceLT, Int.reduceLE, Int.reduceGT, Int.reduceGE, Int.reduceEq, Int.reduceNe]
      rw [List.take_of_length_le (show l.length ≤ c by omega), List.append_assoc] at O
      exact Is_in (fin rfl rfl rfl rfl rfl rfl O)
end
end Go.Proofs.YtpodmgbnldmlcaaDoor
