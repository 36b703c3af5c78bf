/-
  Bytes as texts; more steps through a drawn region.
-/
import Derived.Test.YtpodmgbnldmlcaaDoorFk
import Derived.Test.YtpodmgbnldmlcaaDoorSiz
namespace Go.Proofs.YtpodmgbnldmlcaaDoor
open Go Go.Ideal Go.ChangeShapes Go.RowKit
set_option maxHeartbeats 0
set_option linter.unusedSimpArgs false
set_option linter.unusedVariables false
set_option maxRecDepth 100000
attribute [local irreducible] callV T.All T.Is run
section
variable {env : Env} {n fuel : Nat} {ar : Option Nat} {asx plan : List (List Nat)} {i : Nat} {fr : List (Nat × Nat × Nat)} {tm : List Value} {df : List Nat} {h : Heap} {K : List Fr} {Q : IExit × St → Prop} {r : List IOper} {d : Option Nat} {anc : List Nat} {bar : Bool} {v : Value}
theorem Dp.buildFree {ro : Nat → Option (List Value × Nat)} {L : List Rs} (O : Has ro h L) {z len : Nat} {zero : List Value} {ps : List (Nat × Opd)} {cs : List Value} (hc : layAt (List.replicate len zero).flatten (ps.map fun p => (p.1 * z, z, p.2.eval tm)) = some cs)
    (k : ∀ b h', Has ro h' (Ob b (.cells cs z false) :: L) → h'.next = h.next + 1 → Ext h h' → Dp env n fuel ar asx plan r (i + 1) ((i, h.next, h.next + 1) :: fr) (putDst tm d (.slice (some ⟨b, 0, none⟩) len len)) df h' K Q) : Dp env n fuel ar asx plan (⟨d, .buildSlice z len zero ps, none, anc, false⟩ :: r) i fr tm df h K Q := by
  have e : ∀ h' : Heap, (.buildSlice z len zero ps : IOp).exec (callV env n) tm h' = .ret (.slice (some ⟨2 * h'.next, 0, none⟩) len len, h'.alloc (.cells cs z false)) := fun h' => by
    show (.buildSlice z len zero ps : IOp).run tm h' = _
    simp only [IOp.run, hc]
  have K1 := k _ _ (O.alloc _) rfl ((Ext.refl h).alloc _)
  refine ⟨Goes.free rfl (e _) ?_, ?_⟩
  · have hn : h.next < ((seenBy asx plan i fr h).alloc (.cells cs z false)).next := by show h.next < h.next + 1; omega
    rw [if_pos hn]
    exact K1.goes
  · rw [Y_op, e, Z_ret]
    exact K1.runs
theorem Dp.appendB {z bytes : Nat} {s x : Opd} {w : Value} {h' : Heap} (ha : iappend h z bytes (s.eval tm) (x.eval tm) = some (w, h')) (k : Dp env n fuel ar asx plan r (i + 1) [] (putDst tm d w) df h' K Q) : Dp env n fuel ar asx plan (⟨d, .append z bytes s x, none, anc, true⟩ :: r) i fr tm df h K Q := by
  refine Dp.fixed rfl ?_ k
  show (.append z bytes s x : IOp).run tm h = _
  simp only [IOp.run, ha]
  rfl
theorem Dp.un {o : UnOp} {x : Opd} {a : Value} (hx : x.eval tm = a) (hb : iun o a = some v) (k : Dp env n fuel ar asx plan r (i + 1) fr (putDst tm d v) df h K Q) : Dp env n fuel ar asx plan (⟨d, .un o x, none, anc, bar⟩ :: r) i fr tm df h K Q := by
  refine Dp.pure rfl ?_ k
  simp only [IOp.run, hx, hb]
  rfl
end

def mz (k : Int) : Msg := ⟨k, 0, 0, 0, 0, 0, 0, 0, nilS⟩
theorem set_msg (p : Pkt) (m : Msg) : setAt (pc p) 6 (mc m) = pc { p with m := m } := by
  simp [setAt, pc, mc]
theorem map_flat1 : ∀ B : List Nat, B.map UInt8.ofNat = B.flatMap (fun x => [UInt8.ofNat x])
  | [] => rfl
  | x :: B => by rw [List.map_cons, List.flatMap_cons, map_flat1 B]; rfl
def strB (B : List Nat) : ByteArray := ⟨(B.map UInt8.ofNat).toArray⟩
theorem bytesStr_run {h : Heap} {tm : List Value} {x : Opd} {B : List Nat} (V : Vw 1 bc h (x.eval tm) B) : (.bytesStr x : IOp).run tm h = .ret (.string (strB B), h) := by
  have hf := V.firstN bc_len
  obtain ⟨p, c, e, hc⟩ := V.len
  simp only [IOp.run]
  rw [e] at hf ⊢
  cases p with
  | none =>
    have : B = [] := by
      rcases Nat.eq_zero_or_pos B.length with h0 | h0
      · exact List.eq_nil_of_length_eq_zero h0
      · obtain ⟨p', c', e', _, k⟩ := V
        rw [e] at e'
        cases e'
        obtain ⟨b, off, sp, A, B', zz, t, k1, _⟩ := k h0
        cases k1
    subst this
    rfl
  | some a =>
    rcases Nat.eq_zero_or_pos B.length with h0 | h0
    · have : B = [] := List.eq_nil_of_length_eq_zero h0
      subst this
      simp only [List.length_nil, if_true]
      rfl
    · simp only
      rw [if_neg (by omega)]
      rw [firstN_slice, if_neg (by omega), Nat.mul_one] at hf
      rw [hf]
      simp only
      refine (if_pos ?_).trans ?_
      · rw [List.all_eq_true]
        intro c hc
        obtain ⟨x, _, hx⟩ := List.mem_flatMap.1 hc
        unfold bc at hx
        rw [List.mem_singleton] at hx
        subst hx
        rfl
      · unfold strB
        simp only [List.map_flatMap, bc, List.map_cons, List.map_nil, Int.toNat_natCast]
        have e3 : B.map UInt8.ofNat = B.flatMap (fun x => [UInt8.ofNat x]) := map_flat1 B
        rw [e3]
theorem Y_bytesStrV {call : Caller} {fuel : Nat} {ar : Option Nat} {tm : List Value} {df : List Nat} {h : Heap} {K : List Fr} {d : Option Nat} {anc : List Nat} {bar : Bool} {r : List IOper} {x : Opd} {B : List Nat} (V : Vw 1 bc h (x.eval tm) B) : Y call fuel ar (⟨d, .bytesStr x, none, anc, bar⟩ :: r) tm df h K = Y call fuel ar r (putDst tm d (.string (strB B))) df h K := by
  have e : (.bytesStr x : IOp).exec call tm h = .ret (.string (strB B), h) := by
    show (.bytesStr x : IOp).run tm h = _
    exact bytesStr_run V
  rw [Y_op, e, Z_ret]
theorem str_eq (s : ByteArray) : ibin .eql (.string s) (.string s) = some (.bool true) := by simp [ibin]
end Go.Proofs.YtpodmgbnldmlcaaDoor
