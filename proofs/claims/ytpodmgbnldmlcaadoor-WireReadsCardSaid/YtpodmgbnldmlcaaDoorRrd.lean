/-
  The document's packet of bytes (function 18).
-/
import Derived.Test.YtpodmgbnldmlcaaDoorFk
import Derived.Test.YtpodmgbnldmlcaaDoorGwf
import Derived.Test.YtpodmgbnldmlcaaDoorRby
namespace Go.Proofs.YtpodmgbnldmlcaaDoor
open Go Go.Ideal Go.ChangeShapes Go.RowKit
set_option maxHeartbeats 0
set_option linter.unusedSimpArgs false
set_option linter.unusedVariables false
set_option maxRecDepth 100000
attribute [local irreducible] callV T.All T.Is run
theorem env18 : env 18 = some ir18 := rfl
theorem map_of_inj : ∀ {A B : List Nat}, (∀ b ∈ A, b < 256) → (∀ b ∈ B, b < 256) → A.map UInt8.ofNat = B.map UInt8.ofNat → A = B
  | [], [], _, _, _ => rfl
  | [], _ :: _, _, _, h => by cases h
  | _ :: _, [], _, _, h => by cases h
  | a :: A, b :: B, hA, hB, h => by
    rw [List.map_cons, List.map_cons] at h
    injection h with h1 h2
    have e := map_of_inj (fun x hx => hA x (by simp [hx])) (fun x hx => hB x (by simp [hx])) h2
    have ha := hA a (by simp)
    have hb := hB b (by simp)
    have := congrArg UInt8.toNat h1
    simp only [UInt8.toNat_ofNat'] at this
    rw [e, show a = b by omega]
theorem str_neq {A B : List Nat} (hA : ∀ b ∈ A, b < 256) (hB : ∀ b ∈ B, b < 256) : ibin .neq (.string (strB A)) (.string (strB B)) = some (.bool (!decide (A = B))) := by
  have e : ibin .neq (.string (strB A)) (.string (strB B)) = some (.bool (!((strB A).toList == (strB B).toList))) := rfl
  rw [e, ByteArray.toList_eq, ByteArray.toList_eq]
  have k : ∀ L : List Nat, (strB L).data.toList = L.map UInt8.ofNat := fun L => rfl
  rw [k, k]
  by_cases h : A = B
  · subst h; simp
  · rw [decide_eq_false h]
    have : (A.map UInt8.ofNat == B.map UInt8.ofNat) = false := by
      rw [beq_eq_false_iff_ne]
      exact fun hh => h (map_of_inj hA hB hh)
    rw [this]
theorem bytesP_lt (p : Pkt) (l : List Cl) : ∀ b ∈ bytesP p l, b < 256 := by
  intro b hb
  by_cases h : OkP p l
  · rw [bytesP_t h] at hb
    have hA := allB_lt p l
    obtain ⟨x, hx, hx2⟩ := List.mem_flatMap.1 hb
    have := hA x hx
    simp only [List.mem_cons, List.not_mem_nil, or_false] at hx2
    omega
  · rw [bytesP_f h] at hb
    cases hb
/-- What is read as the program has it is what is guessed. -/
theorem rd_guess {B : List Nat} (hB : ∀ b ∈ B, b < 256) (h : RdOk B) : guessP (evs B) = { (readS B).1 with m := { (readS B).1.m with cl := nilS } } ∧ (guessM (evs B)).2.1 = (readS B).2.1 ∧ B = bytesP (guessP (evs B)) (guessM (evs B)).2.1 ∧ OkP (guessP (evs B)) (guessM (evs B)).2.1 := by
  obtain ⟨hb, hw⟩ := read_back hB h
  have ho := h.2
  have he : evs B = allB (readS B).1 (readS B).2.1 := by
    have := evs_comp (allB (readS B).1 (readS B).2.1)
    rw [← hb] at this
    exact this
  obtain ⟨g1, g2⟩ := guess_forth ho hw
  rw [← he] at g1 g2
  have ok : OkP (guessP (evs B)) (guessM (evs B)).2.1 := by rw [g1, g2]; exact ho
  refine ⟨g1, g2, ?_, ok⟩
  rw [bytesP_t ok, g1, g2]
  exact hb
theorem guess_rd {B : List Nat} (hB : ∀ b ∈ B, b < 256) (ok : OkP (guessP (evs B)) (guessM (evs B)).2.1) (h : B = bytesP (guessP (evs B)) (guessM (evs B)).2.1) : RdOk B := by
  have hw := (guess_wf (B := evs B) (evs_by hB)).1
  obtain ⟨h1, -⟩ := read_ok ok hw
  rw [bytesP_t ok] at h
  rw [← h] at h1
  exact h1
section
variable {ro : Nat → Option (List Value × Nat)} {h : Heap} {R : List Rs} {B : List Nat}
theorem rread_h {n c : Nat} {p : Option Addr} (hn : 3000 < n) (hN : B.length ≤ 1500) (hB : ∀ b ∈ B, b < 256) (V : ∀ h, Has ro h R → Vw 1 bc h (.slice p B.length c) B) (O : Has ro h R) :
    (callV env (n + 5) (.func (.func 18) #[] #[]) [.slice p B.length c] h).Is fun q => (RdOk B ∧ ∃ cv, q.1 = .tuple #[pv { (readS B).1 with m := { (readS B).1.m with cl := cv } }, .int .i64 0] ∧ Has ro q.2 (Sc 2 cc cv (readS B).2.1 :: R)) ∨ (¬ RdOk B ∧ q.1 = .tuple #[pv pz, .int .i64 70] ∧ Has ro q.2 R) := by
  refine call_is env18 ?_
  simp (disch := first | assumption | omega | (simp only [wkD, oneCell, Option.isSome_some, *]; done) | (simp only [wkE, ne_eq]; omega)) only [ir18, List.append_nil, List.nil_append, List.cons_append, List.length_cons, List.length_nil, Nat.reduceAdd, Nat.reduceSub, List.replicate_succ, List.replicate_zero, wkF, X_region, X_seq, X_block, X_loop, X_cond, Y_un, Y_store, Y_append, Y_makeMap, Y_buildSlice, ibin_shl, ibin_shr, ibin_and, ↓reduceIte, reduceCtorEq, oneCell, setAt, readN, Nat.reduceAdd, Nat.reduceLeDiff, Nat.reduceMul, layAt, Nat.reduceLT, Nat.reduceEqDiff, setParams, Int.reduceLT, Int.reduceLE, Int.reduceGT, Int.reduceGE, Int.reduceEq, Int.reduceNe]
  refine Y_boxO O ?_
  intro rb h1 O1 e1
  replace O1 : Has ro h1 (Ob rb (.cells (pc pz) 1 false) :: R) := O1
  have O2 := Has.scNil (z := 1) (g := bc) O1
  simp (disch := first | assumption | omega | (simp only [wkD, oneCell, Option.isSome_some, *]; done) | (simp only [wkE, ne_eq]; omega)) only [wkF, X_region, X_seq, X_block, X_loop, X_cond, Y_box, Y_un, Y_store, Y_append, Y_makeMap, Y_buildSlice, ibin_shl, ibin_shr, ibin_and, ↓reduceIte, reduceCtorEq, oneCell, setAt, readN, Nat.reduceAdd, Nat.reduceLeDiff, Nat.reduceMul, layAt, Nat.reduceLT, Nat.reduceEqDiff, setParams, Int.reduceLT, Int.reduceLE, Int.reduceGT, Int.reduceGE, Int.reduceEq, Int.reduceNe]
  refine L_is (fun q s => ∃ (i : Nat) (v : Value), s.defers = [] ∧ s.tmps.length = 40 ∧ s.tmps.getD 0 undefV = .slice p B.length c ∧ s.tmps.getD 2 undefV = .pointer (some ⟨rb, 0, none⟩) ∧ s.tmps.getD 4 undefV = v ∧ s.tmps.getD 5 undefV = .int .i64 ((2 * i : Nat) : Int) ∧ q = (evs B).length - i ∧ i ≤ (evs B).length ∧ Has ro s.h (Sc 1 bc v ((evs B).take i) :: Ob rb (.cells (pc pz) 1 false) :: R)) (evs B).length ?_ (by rw [evs_len]; omega) ?_
  · exact ⟨0, _, rfl, rfl, rfl, rfl, rfl, rfl, rfl, by omega, O2⟩
  clear O1 O2 e1
  rintro q_ tm df h9 ⟨i, v, hd, hlen_, g0, g2, g4, g5, hq, hi, O⟩
  simp only at hd g0 g2 g4 g5 O
  subst hd
  obtain ⟨w, hg_, rfl⟩ := explode hlen_
  simp only [hg_] at g0 g2 g4 g5
  clear hlen_ hg_
  have hlen := evs_len B
  by_cases hlt : i < (evs B).length
  · have hlt2 : 2 * i < B.length := by omega
    have hlt' : ((2 * i : Nat) : Int) < (B.length : Int) := by omega
    have c0 : (0 : Int) ≤ ((2 * i : Nat) : Int) := by omega
    have y1 : IntKind.i64.wrap (((2 * i : Nat) : Int) + 2) = ((2 * (i + 1) : Nat) : Int) := by rw [wrap_i64 (by omega) (by omega)]; omega
    obtain ⟨b', o', s', c', hv', k1⟩ := rdW bc_len (V _ O.drop.drop) (i := 2 * i) hlt2
    cases hv'
    have gx : bc B[2 * i] = [.int .u8 (B[2 * i] : Int)] := rfl
    have ge : (evs B)[i] = B[2 * i] := by
      have := evs_get B i
      rw [List.getElem?_eq_getElem hlt, List.getElem?_eq_getElem hlt2] at this
      exact Option.some.inj this
    simp (disch := first | assumption | omega | (simp only [wkD, oneCell, Option.isSome_some, *]; done) | (simp only [wkE, ne_eq]; omega)) only [g0, g2, g4, g5, hlt', c0, Int.toNat_natCast, k1, gx, wkF, X_region, X_seq, X_block, X_loop, X_cond, Y_box, Y_un, Y_store, Y_append, Y_makeMap, ibin_shl, ibin_shr, ibin_and, ↓reduceIte, reduceCtorEq, oneCell, setAt, readN, Nat.reduceAdd, Nat.reduceLeDiff, Nat.reduceMul, layAt, Nat.reduceLT, Nat.reduceEqDiff, setParams, Int.reduceLT, Int.reduceLE, Int.reduceGT, Int.reduceGE, Int.reduceEq, Int.reduceNe]
    refine Y_buildSliceO O (cs := bc B[2 * i]) rfl ?_
    intro b10 h10 O10 e10
    have V4 : Vw 1 bc h10 (.slice (some ⟨b10, 0, none⟩) 1 1) [B[2 * i]] := O10.one 0 rfl
    obtain ⟨w, h11, ap, O11⟩ := sc_appendV (bytes := 1) (by omega) bc_len bc_one (O10.at 1 rfl) V4 (by rw [List.length_take]; simp only [List.length_cons, List.length_nil]; unfold roomMost; omega) (by omega)
    replace O11 : Has ro h11 (Sc 1 bc w ((evs B).take i ++ [B[2 * i]]) :: Ob rb (.cells (pc pz) 1 false) :: R) := (show Has ro h11 (Sc 1 bc w ((evs B).take i ++ [B[2 * i]]) :: Ob b10 _ :: Ob rb (.cells (pc pz) 1 false) :: R) from O11).rid 1 rfl
    have e2 : (evs B).take i ++ [B[2 * i]] = (evs B).take (i + 1) := by rw [List.take_add_one, List.getElem?_eq_getElem hlt, ge]; rfl
    rw [e2] at O11
    simp (disch := first | assumption | omega | (simp only [wkD, oneCell, Option.isSome_some, *]; done) | (simp only [wkE, ne_eq]; omega)) only [g0, g2, g4, g5, ap, y1, wkF, X_region, X_seq, X_block, X_loop, X_cond, Y_box, Y_un, Y_store, Y_append, Y_makeMap, Y_buildSlice, ibin_shl, ibin_shr, ibin_and, ↓reduceIte, reduceCtorEq, oneCell, setAt, readN, Nat.reduceAdd, Nat.reduceLeDiff, Nat.reduceMul, layAt, Nat.reduceLT, Nat.reduceEqDiff, setParams, Int.reduceLT, Int.reduceLE, Int.reduceGT, Int.reduceGE, Int.reduceEq, Int.reduceNe]
    exact Is_in ⟨(evs B).length - (i + 1), by omega, i + 1, w, rfl, rfl, rfl, rfl, rfl, rfl, rfl, by omega, O11⟩
  have hlt' : ¬ ((2 * i : Nat) : Int) < (B.length : Int) := by omega
  simp (disch := first | assumption | omega | (simp only [wkD, oneCell, Option.isSome_some, *]; done) | (simp only [wkE, ne_eq]; omega)) only [g0, g2, g4, g5, hlt', wkF, X_region, X_seq, X_block, X_loop, X_cond, Y_box, Y_un, Y_store, Y_append, Y_makeMap, Y_buildSlice, ibin_shl, ibin_shr, ibin_and, ↓reduceIte, reduceCtorEq, oneCell, setAt, readN, Nat.reduceAdd, Nat.reduceLeDiff, Nat.reduceMul, layAt, Nat.reduceLT, Nat.reduceEqDiff, setParams, Int.reduceLT, Int.reduceLE, Int.reduceGT, Int.reduceGE, Int.reduceEq, Int.reduceNe]
  refine Is_in ?_
  rw [List.take_of_length_le (show (evs B).length ≤ i by omega)] at O
  simp (disch := first | assumption | omega | (simp only [wkD, oneCell, Option.isSome_some, *]; done) | (simp only [wkE, ne_eq]; omega)) only [g0, g2, g4, g5, wkF, X_region, X_seq, X_block, X_loop, X_cond, Y_un, Y_store, Y_append, Y_makeMap, Y_buildSlice, ibin_shl, ibin_shr, ibin_and, ↓reduceIte, reduceCtorEq, oneCell, setAt, readN, Nat.reduceAdd, Nat.reduceLeDiff, Nat.reduceMul, layAt, Nat.reduceLT, Nat.reduceEqDiff, setParams, Int.reduceLT, Int.reduceLE, Int.reduceGT, Int.reduceGE, Int.reduceEq, Int.reduceNe]
  refine Z_is (guess_h (n := n + 2) (B := evs B) (by omega) (by omega) (evs_by hB) (fun h O => O.vw 0 rfl) O) ?_
  rintro w3 h3 ⟨cv, rfl, O3⟩
  obtain ⟨hw, hcl⟩ := guess_wf (B := evs B) (evs_by hB)
  have G1 := fun (h : RdOk B) => rd_guess hB h
  have G2 := guess_rd hB
  generalize hgl : (guessM (evs B)).2.1 = L at O3 hw hcl G1 G2
  have hgm : (guessM (evs B)).1 = (guessP (evs B)).m := rfl
  rw [hgm]
  generalize hgp : guessP (evs B) = P at hw G1 G2 ⊢
  replace O3 : Has ro h3 (Sc 2 cc cv L :: Sc 1 bc v (evs B) :: Ob rb (.cells (pc pz) 1 false) :: R) := O3
  simp (disch := first | assumption | omega | (simp only [wkD, oneCell, Option.isSome_some, *]; done) | (simp only [wkE, ne_eq]; omega)) only [wkF, X_region, X_seq, X_block, X_loop, X_cond, Y_un, Y_store, Y_append, Y_makeMap, Y_buildSlice, ibin_shl, ibin_shr, ibin_and, ↓reduceIte, reduceCtorEq, oneCell, setAt, readN, Nat.reduceAdd, Nat.reduceLeDiff, Nat.reduceMul, layAt, Nat.reduceLT, Nat.reduceEqDiff, setParams, Int.reduceLT, Int.reduceLE, Int.reduceGT, Int.reduceGE, Int.reduceEq, Int.reduceNe]
  refine Y_boxO O3 ?_
  intro pb h4 O4 e4
  replace O4 : Has ro h4 (Ob pb (.cells (pc pz) 1 false) :: Sc 2 cc cv L :: Sc 1 bc v (evs B) :: Ob rb (.cells (pc pz) 1 false) :: R) := O4
  have gp := O4.get 0 rfl
  have pp := O4.can 0 rfl
  obtain ⟨z1, z2⟩ := scOne O4 1 rfl
  have hone : (pc { P with m := { P.m with cl := cv } }).all oneCell = true := by
    simp only [pc, mc, List.all_cons, z2, List.all_nil, Bool.and_true]
    rfl
  have hs5 : setAt (pc pz) 0 (pc { P with m := { P.m with cl := cv } }) = pc { P with m := { P.m with cl := cv } } := by simp [setAt, pc, mc]
  have O5 := O4.set 0 rfl (.cells (pc { P with m := { P.m with cl := cv } }) 1 false)
  simp only [List.set_cons_zero] at O5
  obtain ⟨r0, r1, r2, r3, r4, r5, r6, r7⟩ := rdp (O5.get 0 rfl)
  clear r0 r1 r2 r3 r4 r5 r6
  have hcp : cellsOf (pv { P with m := { P.m with cl := cv } }) = pc { P with m := { P.m with cl := cv } } := (cellsOf_agg _).trans rfl
  simp (disch := first | assumption | omega | (simp only [wkD, oneCell, Option.isSome_some, *]; done) | (simp only [wkE, ne_eq]; omega)) only [gp, pp, hcp, hs5, hone, pc_len, wkF, X_region, X_block, X_loop, X_cond, Y_box, Y_un, Y_store, Y_append, Y_makeMap, Y_buildSlice, ibin_shl, ibin_shr, ibin_and, ↓reduceIte, reduceCtorEq, readN, Nat.reduceAdd, Nat.reduceLeDiff, Nat.reduceMul, layAt, Nat.reduceLT, Nat.reduceEqDiff, setParams, Int.reduceLT, Int.reduceLE, Int.reduceGT, Int.reduceGE, Int.reduceEq, Int.reduceNe]
  generalize h4.setB pb (.cells (pc { P with m := { P.m with cl := cv } }) 1 false) = h5 at O5 r7 ⊢
  clear O3 O4 gp pp e4
  rw [X_seq]
  simp (disch := first | assumption | omega | (simp only [wkD, oneCell, Option.isSome_some, *]; done) | (simp only [wkE, ne_eq]; omega)) only [r7, agg_pv, wkF, X_region, X_seq, X_block, X_loop, X_cond, Y_box, Y_un, Y_store, Y_append, Y_makeMap, Y_buildSlice, ibin_shl, ibin_shr, ibin_and, ↓reduceIte, reduceCtorEq, oneCell, setAt, readN, Nat.reduceAdd, Nat.reduceLeDiff, Nat.reduceMul, layAt, Nat.reduceLT, Nat.reduceEqDiff, setParams, Int.reduceLT, Int.reduceLE, Int.reduceGT, Int.reduceGE, Int.reduceEq, Int.reduceNe]
  refine Z_is (rbytes_h (n := n) (p := { P with m := { P.m with cl := cv } }) (l := L) (by omega) (by omega) hw (fun h O => O.vw 1 rfl) O5) ?_
  rintro w6 h6 ⟨bv, e, rfl, he, O6⟩
  replace O6 : Has ro h6 (Sc 1 bc bv (bytesP P L) :: Ob pb (.cells (pc { P with m := { P.m with cl := cv } }) 1 false) :: Sc 2 cc cv L :: Sc 1 bc v (evs B) :: Ob rb (.cells (pc pz) 1 false) :: R) := O6
  clear O5 r7
  have gr := O6.get 4 rfl
  have pr_ := O6.can 4 rfl
  have hsz : setAt (pc pz) 0 (pc pz) = pc pz := by simp [setAt, pc, mc]
  have honz : (pc pz).all oneCell = true := rfl
  have hpz : [Value.int .i64 0, .int .i64 0, .int .u32 0, .int .u32 0, .int .u32 0, .int .u32 0, .int .i64 0, .int .i64 0, .int .u32 0, .int .u64 0, .int .i64 0, .int .i64 0, .int .i64 0, .int .i64 0, .slice none 0 0] = pc pz := rfl
  have Oz := O6.set 4 rfl (.cells (pc pz) 1 false)
  simp only [List.set_cons_succ, List.set_cons_zero] at Oz
  by_cases hok : OkP P L
  · rw [code_t (show OkP { P with m := { P.m with cl := cv } } L from hok)] at he
    have h7 : (0 : Int) = e := by injection he
    subst h7
    simp (disch := first | assumption | omega | (simp only [wkD, oneCell, Option.isSome_some, *]; done) | (simp only [wkE, ne_eq]; omega)) only [wkF, X_region, X_seq, X_block, X_loop, X_cond, Y_box, Y_un, Y_store, Y_append, Y_makeMap, Y_buildSlice, ibin_shl, ibin_shr, ibin_and, ↓reduceIte, reduceCtorEq, oneCell, setAt, readN, Nat.reduceAdd, Nat.reduceLeDiff, Nat.reduceMul, layAt, Nat.reduceLT, Nat.reduceEqDiff, setParams, Int.reduceLT, Int.reduceLE, Int.reduceGT, Int.reduceGE, Int.reduceEq, Int.reduceNe]
    rw [Y_bytesStrV (B := bytesP P L) (O6.vw 0 rfl)]
    simp (disch := first | assumption | omega | (simp only [wkD, oneCell, Option.isSome_some, *]; done) | (simp only [wkE, ne_eq]; omega)) only [wkF, X_region, X_seq, X_block, X_loop, X_cond, Y_box, Y_un, Y_store, Y_append, Y_makeMap, Y_buildSlice, ibin_shl, ibin_shr, ibin_and, ↓reduceIte, reduceCtorEq, oneCell, setAt, readN, Nat.reduceAdd, Nat.reduceLeDiff, Nat.reduceMul, layAt, Nat.reduceLT, Nat.reduceEqDiff, setParams, Int.reduceLT, Int.reduceLE, Int.reduceGT, Int.reduceGE, Int.reduceEq, Int.reduceNe]
    rw [Y_bytesStrV (B := B) (V _ O6.drop.drop.drop.drop.drop)]
    have sn := str_neq (bytesP_lt P L) hB
    by_cases hbb : bytesP P L = B
    · rw [decide_eq_true hbb] at sn
      have hr : RdOk B := G2 hok hbb.symm
      obtain ⟨q1, q2, q3, q4⟩ := G1 hr
      have O7 := O6.set 4 rfl (.cells (pc { P with m := { P.m with cl := cv } }) 1 false)
      simp only [List.set_cons_succ, List.set_cons_zero] at O7
      obtain ⟨r0, r1, r2, r3, r4, r5, r6, r7⟩ := rdp (O6.get 1 rfl)
      clear r0 r1 r2 r3 r4 r5 r6
      simp (disch := first | assumption | omega | (simp only [wkD, oneCell, Option.isSome_some, *]; done) | (simp only [wkE, ne_eq]; omega)) only [sn, r7, gr, pr_, hs5, hone, pc_len, cellsOf_agg, wkF, X_region, X_seq, X_block, X_loop, X_cond, Y_box, Y_un, Y_store, Y_append, Y_makeMap, Y_buildSlice, ibin_shl, ibin_shr, ibin_and, ↓reduceIte, reduceCtorEq, readN, Nat.reduceAdd, Nat.reduceLeDiff, Nat.reduceMul, layAt, Nat.reduceLT, Nat.reduceEqDiff, setParams, Int.reduceLT, Int.reduceLE, Int.reduceGT, Int.reduceGE, Int.reduceEq, Int.reduceNe]
      refine leafO _ (answer2 _ _ _ _ (cellN O7 4 rfl rfl rfl) rfl) (Or.inl ⟨hr, cv, ?_, ?_⟩)
      · rw [q1]; rfl
      · rw [← q2]
        exact ((((O7.rid 4 rfl).rid 3 rfl).rid 1 rfl).rid 0 rfl)
    · rw [decide_eq_false hbb] at sn
      have hr : ¬ RdOk B := fun h => hbb (G1 h).2.2.1.symm
      simp (disch := first | assumption | omega | (simp only [wkD, oneCell, Option.isSome_some, *]; done) | (simp only [wkE, ne_eq]; omega)) only [sn, gr, pr_, hpz, hsz, honz, pc_len, cellsOf_agg, wkF, X_region, X_seq, X_block, X_loop, X_cond, Y_box, Y_un, Y_store, Y_append, Y_makeMap, Y_buildSlice, ibin_shl, ibin_shr, ibin_and, ↓reduceIte, reduceCtorEq, readN, Nat.reduceAdd, Nat.reduceLeDiff, Nat.reduceMul, layAt, Nat.reduceLT, Nat.reduceEqDiff, setParams, Int.reduceLT, Int.reduceLE, Int.reduceGT, Int.reduceGE, Int.reduceEq, Int.reduceNe]
      refine leafO _ (answer2 _ _ _ _ (cellN Oz 4 rfl rfl rfl) rfl) (Or.inr ⟨hr, rfl, Oz.drop.drop.drop.drop.drop⟩)
  · rw [code_f (show ¬ OkP { P with m := { P.m with cl := cv } } L from hok)] at he
    have h7 : (71 : Int) = e := by injection he
    subst h7
    have hr : ¬ RdOk B := fun h => hok (G1 h).2.2.2
    simp (disch := first | assumption | omega | (simp only [wkD, oneCell, Option.isSome_some, *]; done) | (simp only [wkE, ne_eq]; omega)) only [gr, pr_, hpz, hsz, honz, pc_len, cellsOf_agg, wkF, X_region, X_seq, X_block, X_loop, X_cond, Y_box, Y_un, Y_store, Y_append, Y_makeMap, Y_buildSlice, ibin_shl, ibin_shr, ibin_and, ↓reduceIte, reduceCtorEq, readN, Nat.reduceAdd, Nat.reduceLeDiff, Nat.reduceMul, layAt, Nat.reduceLT, Nat.reduceEqDiff, setParams, Int.reduceLT, Int.reduceLE, Int.reduceGT, Int.reduceGE, Int.reduceEq, Int.reduceNe]
    refine leafO _ (answer2 _ _ _ _ (cellN Oz 4 rfl rfl rfl) rfl) (Or.inr ⟨hr, rfl, Oz.drop.drop.drop.drop.drop⟩)
end
end Go.Proofs.YtpodmgbnldmlcaaDoor
