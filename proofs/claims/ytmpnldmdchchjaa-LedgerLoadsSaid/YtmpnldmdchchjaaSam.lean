import Derived.Test.YtmpnldmdchchjaaFk
import Derived.Test.YtmpnldmdchchjaaLod
namespace Go.Proofs.Ytmpnldmdchchjaa
open Go Go.Ideal Go.ChangeShapes Go.RowKit
set_option maxHeartbeats 0
set_option linter.unusedSimpArgs false
set_option linter.unusedVariables false
set_option maxRecDepth 100000
attribute [local irreducible] callV T.All T.Is run
theorem env19 : env 19 = some ir19 := rfl
theorem map_flat1 : ∀ B : List Nat, B.map UInt8.ofNat = B.flatMap (fun x => [UInt8.ofNat x])
  | [] => rfl
  | x :: B => by rw [List.map_cons, List.flatMap_cons, map_flat1 B]; rfl
def strB (B : List Nat) : ByteArray := ⟨(B.map UInt8.ofNat).toArray⟩
noncomputable def vBS (h : Heap) (v : Value) : Option Value := match v with
  | .slice none _ _ => some (.string .empty)
  | .slice (some a) len _ => if len = 0 then some (.string .empty) else match readC (h.get a.block) a.off len with
    | some cs => if cs.all (fun c => match c with | .int .u8 _ => true | _ => false) then some (.string ⟨(cs.map fun c => match c with | .int _ n => UInt8.ofNat n.toNat | _ => 0).toArray⟩) else none
    | none => none
  | _ => none
section
variable {call : Caller} {fuel : Nat} {ar : Option Nat} {tm : List Value} {df : List Nat} {h : Heap} {K : List Fr} {r : List IOper} {d : Option Nat} {anc : List Nat} {bar : Bool} {an : List (List Nat)} {ix : Nat} {fr : List (Nat × Nat × Nat)}
theorem E_bytesStr (x : Opd) : (.bytesStr x : IOp).run tm h = T.ofOpt ((vBS h (x.eval tm)).map fun v => (v, h)) := by
  simp only [IOp.run, vBS]
  generalize Opd.eval tm x = v
  cases v <;> try rfl
  rename_i p n c
  cases p with
  | none => rfl
  | some a =>
    simp only [read_eq]
    by_cases h0 : n = 0
    · rw [if_pos h0, if_pos h0]; rfl
    · rw [if_neg h0, if_neg h0]
      cases readC (h.get a.block) a.off n with
      | none => rfl
      | some cs =>
        by_cases hh : (cs.all fun c => match c with | .int .u8 _ => true | _ => false) = true
        · simp only [if_pos hh]; exact if_pos hh
        · simp only [if_neg hh]; exact if_neg hh
theorem Y_bytesStr (x : Opd) : Y call fuel ar (⟨d, .bytesStr x, none, anc, bar⟩ :: r) tm df h K = ZO call fuel ar (vBS h (x.eval tm)) d r tm df h K := Y_read (by intro f a b; cases b) (E_bytesStr x)
theorem D_bytesStrF (x : Opd) : D call fuel ar an (⟨d, .bytesStr x, none, anc, false⟩ :: r) ix fr tm df h K = DO call fuel ar an (vBS (seen0 an ix fr h) (x.eval tm)) d r ix fr tm df h K := D_readF rfl (by intro f b h; cases h) (E_bytesStr x)
theorem vBS_seen (an : List (List Nat)) (i : Nat) (h : Heap) (v : Value) : vBS (seen0 an i [] h) v = vBS h v := by
  unfold vBS
  simp only [seen0_nil_get]
theorem vBS_vw {v : Value} {B : List Nat} (V : Vw 1 bx h v B) : vBS h v = some (.string (strB B)) := by
  have hf := V.firstN bx_len
  obtain ⟨p, c, e, hc⟩ := V.len
  rw [e] at hf ⊢
  unfold vBS
  cases p with
  | none =>
    have : B = [] := by
      rcases Nat.eq_zero_or_pos B.length with h0 | h0
      · exact List.eq_nil_of_length_eq_zero h0
      · obtain ⟨p', c', e', _, k⟩ := V
        rw [e] at e'
        cases e'
        obtain ⟨b, off, sp, A, B', zz, t, k1, _⟩ := k h0
        cases k1
    subst this
    rfl
  | some a =>
    rcases Nat.eq_zero_or_pos B.length with h0 | h0
    · have : B = [] := List.eq_nil_of_length_eq_zero h0
      subst this
      simp only [List.length_nil, if_true]
      rfl
    · simp only
      rw [if_neg (by omega)]
      rw [firstN_slice, if_neg (by omega), Nat.mul_one] at hf
      have hf2 : readC (h.get a.block) a.off B.length = some (B.flatMap bx) := by
        have := hf
        rw [read_eq] at this
        exact this
      rw [hf2]
      simp only
      have hall : ((B.flatMap bx).all fun c => match c with | .int .u8 _ => true | _ => false) = true := by
        rw [List.all_eq_true]
        intro c hc
        obtain ⟨x, _, hx⟩ := List.mem_flatMap.1 hc
        unfold bx at hx
        rw [List.mem_singleton] at hx
        subst hx
        rfl
      rw [if_pos hall]
      unfold strB
      simp only [List.map_flatMap, bx, List.map_cons, List.map_nil, Int.toNat_natCast]
      have e3 : B.map UInt8.ofNat = B.flatMap (fun x => [UInt8.ofNat x]) := map_flat1 B
      rw [e3]
end
theorem str_ne (s : ByteArray) : ibin .neq (.string s) (.string s) = some (.bool false) := by simp [ibin]
def rkey (x : Rq) : Int × Int × List Nat := (x.kd, x.nn, x.B)
section
variable {ro : Nat → Option (List Value × Nat)} {h : Heap} {R : List Rs} {n : Nat}
theorem samerec_h {va vb : Value} {A B : List Rq} (hn : A.length + 10 < n) (hl : A.length < 1000000) (hk : A.map rkey = B.map rkey) (Va : Vw 3 rq h va A) (Vb : Vw 3 rq h vb B) (da : ∀ x ∈ A, Vw 1 bx h x.dv x.B) (db : ∀ x ∈ B, Vw 1 bx h x.dv x.B) :
    (callV env (n + 1) (.func (.func 19) #[] #[]) [va, vb] h).Is fun p => p = (.bool true, h) := by
  have hlen : A.length = B.length := by have := congrArg List.length hk; simpa using this
  obtain ⟨pa, ca, rfl, _⟩ := Va.len
  obtain ⟨pb, cb, rfl, _⟩ := Vb.len
  refine call_is env19 ?_
  have hlen' : ((A.length : Int) = (B.length : Int)) = True := eq_true (by omega)
  simp (disch := first | assumption | omega | (simp only [wkD, oneCell, Option.isSome_some, *]; done) | (simp only [wkE, ne_eq]; omega)) only [ir19, List.append_nil, List.nil_append, List.cons_append, List.length_cons, List.length_nil, Nat.reduceAdd, Nat.reduceSub, List.replicate_succ, List.replicate_zero, hlen', wkF, X_region, X_seq, X_block, X_loop, X_cond, Y_box, Y_un, Y_store, Y_append, Y_makeMap, Y_buildSlice, ibin_shl, ibin_shr, ibin_and, ↓reduceIte, reduceCtorEq, oneCell, setAt, readN, Nat.reduceAdd, Nat.reduceLeDiff, Nat.reduceMul, layAt, Nat.reduceLT, Nat.reduceEqDiff, setParams, Int.reduceLT, Int.reduceLE, Int.reduceGT, Int.reduceGE, Int.reduceEq, Int.reduceNe]
  refine L_is (fun q s => ∃ i : Nat, q = A.length - i ∧ i ≤ A.length ∧ s.defers = [] ∧ s.tmps.length = 56 ∧ s.tmps.getD 0 undefV = .slice pa A.length ca ∧ s.tmps.getD 1 undefV = .slice pb B.length cb ∧ s.tmps.getD 5 undefV = .int .i64 (i : Int) ∧ s.h = h) A.length ?_ (by omega) ?_
  · exact ⟨0, rfl, Nat.zero_le _, rfl, rfl, rfl, rfl, rfl, rfl⟩
  rintro q tm df h2 ⟨i, hk', hi, hd, hlen_, g0, g1, g5, hh⟩
  simp only at hd g0 g1 g5 hh
  subst hd hh
  obtain ⟨w, hg_, rfl⟩ := explode hlen_
  simp only [hg_] at g0 g1 g5
  clear hlen_ hg_
  by_cases h0 : i < A.length
  · have h0' : (i : Int) < (A.length : Int) := by omega
    have h0b : (i : Int) < (B.length : Int) := by omega
    have hi0 : (0 : Int) ≤ (i : Int) := by omega
    have ga : A[i]? = some A[i] := List.getElem?_eq_getElem h0
    have gb : B[i]? = some B[i] := List.getElem?_eq_getElem (by omega)
    have hkk : rkey A[i] = rkey B[i] := by
      have e := congrArg (fun l : List (Int × Int × List Nat) => l[i]?) hk
      simp only [List.getElem?_map, ga, gb, Option.map_some] at e
      exact Option.some.inj e
    have va1 := vBS_vw (da _ (List.getElem_mem h0))
    have vb1 := vBS_vw (db _ (List.getElem_mem (l := B) (n := i) (by omega)))
    generalize A[i] = x at ga hkk va1
    generalize B[i] = y at gb hkk vb1
    obtain ⟨kd, nn, xd, xB⟩ := x
    obtain ⟨kd2, nn2, yd, yB⟩ := y
    simp only [rkey, Prod.mk.injEq] at hkk
    obtain ⟨rfl, rfl, rfl⟩ := hkk
    simp only at va1 vb1
    obtain ⟨b1, off1, sp1, c1, hv1, k1, _⟩ := Va.rd rq_len ga
    obtain ⟨b2, off2, sp2, c2, hv2, k2, _⟩ := Vb.rd rq_len gb
    have e1 : pa = some ⟨b1, off1, sp1⟩ := by injection hv1
    have e2 : pb = some ⟨b2, off2, sp2⟩ := by injection hv2
    subst e1 e2
    have r10 := k1 0 1 (by decide)
    have r11 := k1 1 1 (by decide)
    have r12 := k1 2 1 (by decide)
    have r20 := k2 0 1 (by decide)
    have r21 := k2 1 1 (by decide)
    have r22 := k2 2 1 (by decide)
    rw [Nat.add_zero] at r10 r20
    have q0 : ∀ (a b : Int) (v : Value) (B : List Nat), readN (rq ⟨a, b, v, B⟩) 0 1 = some [.int .i64 a] := fun _ _ _ _ => rfl
    have q1 : ∀ (a b : Int) (v : Value) (B : List Nat), readN (rq ⟨a, b, v, B⟩) 1 1 = some [.int .i64 b] := fun _ _ _ _ => rfl
    have q2 : ∀ (a b : Int) (v : Value) (B : List Nat), readN (rq ⟨a, b, v, B⟩) 2 1 = some [v] := fun _ _ _ _ => rfl
    rw [q0] at r10 r20
    rw [q1] at r11 r21
    rw [q2] at r12 r22
    have yi : IntKind.i64.wrap ((i : Int) + 1) = ((i + 1 : Nat) : Int) := by rw [wrap_i64 (by omega) (by omega)]; omega
    simp (disch := first | assumption | omega | (simp only [wkD, oneCell, Option.isSome_some, *]; done) | (simp only [wkE, ne_eq]; omega)) only [g0, g1, g5, h0', wkF, X_region, X_seq, X_block, X_loop, X_cond, Y_box, Y_un, Y_store, Y_append, Y_makeMap, Y_buildSlice, ibin_shl, ibin_shr, ibin_and, ↓reduceIte, reduceCtorEq, oneCell, setAt, readN, Nat.reduceAdd, Nat.reduceLeDiff, Nat.reduceMul, layAt, Nat.reduceLT, Nat.reduceEqDiff, setParams, Int.reduceLT, Int.reduceLE, Int.reduceGT, Int.reduceGE, Int.reduceEq, Int.reduceNe]
    refine X_drawn _ fun an => ?_
    simp (maxSteps := 4000000) (disch := first | assumption | omega | (simp only [wkD, oneCell, Option.isSome_some, *]; done) | (simp only [wkE, ne_eq]; omega)) only [g0, g1, g5, h0', h0b, hi0, Int.toNat_natCast, r10, r11, r12, r20, r21, r22, D_bytesStrF, vBS_seen, va1, vb1, str_ne, yi, wkF, X_region, X_seq, X_block, X_loop, X_cond, Y_box, Y_un, Y_store, Y_append, Y_makeMap, Y_buildSlice, ibin_shl, ibin_shr, ibin_and, ↓reduceIte, reduceCtorEq, oneCell, setAt, readN, Nat.reduceAdd, Nat.reduceLeDiff, Nat.reduceMul, layAt, Nat.reduceLT, Nat.reduceEqDiff, setParams, Int.reduceLT, Int.reduceLE, Int.reduceGT, Int.reduceGE, Int.reduceEq, Int.reduceNe]
    exact Is_in ⟨A.length - (i + 1), by omega, i + 1, rfl, h0, rfl, rfl, rfl, rfl, rfl, rfl⟩
  · have h0' : ¬ (i : Int) < (A.length : Int) := by omega
    simp (disch := first | assumption | omega | (simp only [wkD, oneCell, Option.isSome_some, *]; done) | (simp only [wkE, ne_eq]; omega)) only [g0, g1, g5, h0', wkF, X_region, X_seq, X_block, X_loop, X_cond, Y_box, Y_un, Y_store, Y_append, Y_makeMap, Y_buildSlice, ibin_shl, ibin_shr, ibin_and, ↓reduceIte, reduceCtorEq, oneCell, setAt, readN, Nat.reduceAdd, Nat.reduceLeDiff, Nat.reduceMul, layAt, Nat.reduceLT, Nat.reduceEqDiff, setParams, Int.reduceLT, Int.reduceLE, Int.reduceGT, Int.reduceGE, Int.reduceEq, Int.reduceNe]
    refine Is_in ?_
    simp (disch := first | assumption | omega | (simp only [wkD, oneCell, Option.isSome_some, *]; done) | (simp only [wkE, ne_eq]; omega)) only [g0, g1, g5, wkF, X_region, X_seq, X_block, X_loop, X_cond, Y_box, Y_un, Y_store, Y_append, Y_makeMap, Y_buildSlice, ibin_shl, ibin_shr, ibin_and, ↓reduceIte, reduceCtorEq, oneCell, setAt, readN, Nat.reduceAdd, Nat.reduceLeDiff, Nat.reduceMul, layAt, Nat.reduceLT, Nat.reduceEqDiff, setParams, Int.reduceLT, Int.reduceLE, Int.reduceGT, Int.reduceGE, Int.reduceEq, Int.reduceNe]
    exact leaf1 rfl
end
end Go.Proofs.Ytmpnldmdchchjaa
