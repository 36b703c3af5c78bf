import Derived.Test.YtmpnldmdchchjaaFj
import Derived.Test.YtmpnldmdchchjaaFf
namespace Go.Ideal
open Go
structure Rs where
  is : Heap → (Nat → Prop) → Prop
  stable : ∀ {h h' : Heap} {S : Nat → Prop}, is h S → (∀ b, S b → h'.get b = h.get b) → is h' S
def Own (h : Heap) : List Rs → (Nat → Prop) → Prop
  | [], S => ∀ b, ¬ S b
  | r :: L, S => ∃ S1 S2 : Nat → Prop, (∀ b, S b ↔ (S1 b ∨ S2 b)) ∧ (∀ b, S1 b → ¬ S2 b) ∧ r.is h S1 ∧ Own h L S2
theorem Own.stable : ∀ {L : List Rs} {h h' : Heap} {S : Nat → Prop}, Own h L S → (∀ b, S b → h'.get b = h.get b) → Own h' L S
  | [], _, _, _, o, _ => o
  | r :: L, h, h', S, ⟨S1, S2, e, d, a, o⟩, g => ⟨S1, S2, e, d, r.stable a fun b hb => g b ((e b).2 (Or.inl hb)), o.stable fun b hb => g b ((e b).2 (Or.inr hb))⟩
def Gd (h : Heap) (S : Nat → Prop) : Prop := ∀ b, S b → b % 2 = 0 ∧ (h.floor ≤ b / 2 ∨ b / 2 ∈ h.may) ∧ b < 2 * h.next
structure Has (ro : Nat → Option (List Value × Nat)) (h : Heap) (L : List Rs) : Prop where
  fine : h.Fine
  ro : h.ro = ro
  own : ∃ S, Gd h S ∧ Own h L S
def Ob (b : Nat) (o : IObj) : Rs := ⟨fun h S => (∀ x, S x ↔ x = b) ∧ h.get b = some o, fun ⟨a, g⟩ k => ⟨a, (k b ((a b).2 rfl)).trans g⟩⟩
def Rs.star (p q : Rs) : Rs := ⟨fun h S => Own h [p, q] S, fun a g => a.stable g⟩
def Rs.all (l : List Rs) : Rs := ⟨fun h S => Own h l S, fun a g => a.stable g⟩
def Rs.ex {α : Type} (F : α → Rs) : Rs := ⟨fun h S => ∃ a, (F a).is h S, fun ⟨a, x⟩ g => ⟨a, (F a).stable x g⟩⟩
def Rs.and (p : Prop) (q : Rs) : Rs := ⟨fun h S => p ∧ q.is h S, fun ⟨a, x⟩ g => ⟨a, q.stable x g⟩⟩
def Rs.emp : Rs := ⟨fun _ S => ∀ b, ¬ S b, fun a _ => a⟩
section
variable {ro : Nat → Option (List Value × Nat)} {h h' : Heap} {L : List Rs} {r r' : Rs} {i b : Nat} {o o' : IObj}
theorem Own.append : ∀ {L M : List Rs} {h : Heap} {S : Nat → Prop}, Own h (L ++ M) S ↔ ∃ S1 S2 : Nat → Prop, (∀ b, S b ↔ (S1 b ∨ S2 b)) ∧ (∀ b, S1 b → ¬ S2 b) ∧ Own h L S1 ∧ Own h M S2
  | [], M, h, S => by
    constructor
    · intro o
      exact ⟨fun _ => False, S, fun b => by simp, fun b hb => hb.elim, fun b hb => hb, o⟩
    · rintro ⟨S1, S2, e, d, a, o⟩
      have : S = S2 := by
        funext b
        have h1 := e b
        have h2 := a b
        simp only [h2, false_or] at h1
        exact propext h1
      rw [this]; exact o
  | r :: L, M, h, S => by
    constructor
    · rintro ⟨S1, S2, e, d, a, o⟩
      obtain ⟨S3, S4, e', d', a', o'⟩ := Own.append.1 o
      refine ⟨fun b => S1 b ∨ S3 b, S4, fun b => by rw [e, e', or_assoc], fun b hb h4 => ?_, ⟨S1, S3, fun b => Iff.rfl, fun b h1 h3 => d b h1 ((e' b).2 (Or.inl h3)), a, a'⟩, o'⟩
      rcases hb with hb | hb
      · exact d b hb ((e' b).2 (Or.inr h4))
      · exact d' b hb h4
    · rintro ⟨S1, S2, e, d, ⟨S3, S4, e', d', a', o'⟩, o⟩
      refine ⟨S3, fun b => S4 b ∨ S2 b, fun b => by rw [e, e', or_assoc], fun b h3 hb => ?_, a', Own.append.2 ⟨S4, S2, fun b => Iff.rfl, fun b h4 h2 => d b ((e' b).2 (Or.inr h4)) h2, o', o⟩⟩
      rcases hb with hb | hb
      · exact d' b h3 hb
      · exact d b ((e' b).2 (Or.inl h3)) hb
theorem Own.perm {L M : List Rs} (p : L.Perm M) : ∀ {S : Nat → Prop}, Own h L S → Own h M S := by
  induction p with
  | nil => exact fun o => o
  | cons x _ ih => rintro S ⟨S1, S2, e, d, a, o⟩; exact ⟨S1, S2, e, d, a, ih o⟩
  | swap x y l =>
    rintro S ⟨S1, S2, e, d, a, S3, S4, e', d', a', o⟩
    refine ⟨S3, fun b => S1 b ∨ S4 b, fun b => ?_, fun b h3 hb => ?_, a', S1, S4, fun b => Iff.rfl, fun b h1 h4 => d b h1 ((e' b).2 (Or.inr h4)), a, o⟩
    · rw [e, e', or_left_comm]
    · rcases hb with hb | hb
      · exact d b hb ((e' b).2 (Or.inl h3))
      · exact d' b h3 hb
  | trans _ _ ih1 ih2 => exact fun o => ih2 (ih1 o)
theorem perm_front : ∀ {L : List Rs} {i : Nat} {r : Rs}, L[i]? = some r → L.Perm (r :: L.eraseIdx i)
  | [], i, r, h => by simp at h
  | a :: L, 0, r, h => by simp at h; subst h; exact List.Perm.refl _
  | a :: L, i + 1, r, h => by
    simp at h
    exact ((perm_front h).cons a).trans (List.Perm.swap _ _ _)
theorem Has.perm {M : List Rs} (O : Has ro h L) (p : L.Perm M) : Has ro h M := by
  obtain ⟨f, e, S, g, o⟩ := O
  exact ⟨f, e, S, g, o.perm p⟩
theorem Has.at (O : Has ro h L) (i : Nat) {r : Rs} (hi : L[i]? = some r) : Has ro h (r :: L.eraseIdx i) := O.perm (perm_front hi)
theorem Has.back (O : Has ro h (r' :: L.eraseIdx i)) (hi : i < L.length) : Has ro h (L.set i r') := by
  refine O.perm (List.Perm.symm ?_)
  have h1 : (L.set i r')[i]? = some r' := by rw [List.getElem?_set, if_pos rfl, if_pos hi]
  have h2 := perm_front h1
  have h3 : (L.set i r').eraseIdx i = L.eraseIdx i := by
    rw [List.eraseIdx_set_eq]
  rw [h3] at h2
  exact h2
theorem Has.drop (O : Has ro h (r :: L)) : Has ro h L := by
  obtain ⟨f, e, S, g, S1, S2, e1, d, a, o⟩ := O
  exact ⟨f, e, S2, fun b hb => g b ((e1 b).2 (Or.inr hb)), o⟩
theorem Has.rid (O : Has ro h L) (i : Nat) {r : Rs} (hi : L[i]? = some r) : Has ro h (L.eraseIdx i) := (O.at i hi).drop
theorem Has.swap2 {p q : Rs} (O : Has ro h (p :: q :: L)) : Has ro h (q :: p :: L) := O.perm (List.Perm.swap _ _ _)
theorem Has.step (O : Has ro h (r :: L)) : ∃ S, r.is h S ∧ Gd h S ∧ ∀ (h' : Heap) (r' : Rs) (S' : Nat → Prop), Chg S h h' → r'.is h' S' → (∀ b, S' b → S b ∨ (b % 2 = 0 ∧ 2 * h.next ≤ b ∧ b < 2 * h'.next)) → Has ro h' (r' :: L) := by
  obtain ⟨f, e, S0, g, S1, S2, e1, d, a, o⟩ := O
  refine ⟨S1, a, fun b hb => g b ((e1 b).2 (Or.inl hb)), fun h' r' S' c a' hs => ⟨c.fine f, c.ro.trans e, fun b => S' b ∨ S2 b, ?_, S', S2, fun b => Iff.rfl, ?_, a', o.stable fun b hb => ?_⟩⟩
  · intro b hb
    have hn := c.next
    have hf := f.1
    rw [c.floor, c.may]
    rcases hb with hb | hb
    · rcases hs b hb with h1 | h1
      · have := g b ((e1 b).2 (Or.inl h1)); exact ⟨this.1, this.2.1, Nat.lt_of_lt_of_le this.2.2 (by omega)⟩
      · exact ⟨h1.1, Or.inl (by omega), h1.2.2⟩
    · have := g b ((e1 b).2 (Or.inr hb)); exact ⟨this.1, this.2.1, Nat.lt_of_lt_of_le this.2.2 (by omega)⟩
  · intro b hb h2
    rcases hs b hb with h1 | h1
    · exact d b h1 h2
    · have := g b ((e1 b).2 (Or.inr h2)); omega
  · exact c.old b (Or.inr (g b ((e1 b).2 (Or.inr hb))).2.2) (fun h1 => d b h1 hb)
theorem Has.ext (O : Has ro h L) (e : Ext h h') : Has ro h' L := by
  obtain ⟨f, e0, S, g, o⟩ := O
  refine ⟨e.fine f, e.ro.trans e0, S, fun b hb => ?_, o.stable fun b hb => e.old b (Or.inr (g b hb).2.2)⟩
  have g1 := g b hb
  have := e.next
  rw [e.floor, e.may]
  exact ⟨g1.1, g1.2.1, Nat.lt_of_lt_of_le g1.2.2 (by omega)⟩
def New (h h' : Heap) (r : Rs) : Prop := ∃ S : Nat → Prop, r.is h' S ∧ ∀ b, S b → b % 2 = 0 ∧ 2 * h.next ≤ b ∧ b < 2 * h'.next
theorem Has.new (O : Has ro h L) (e : Ext h h') (n : New h h' r) : Has ro h' (r :: L) := by
  obtain ⟨S', a, hs⟩ := n
  obtain ⟨f, e0, S, g, o⟩ := O
  refine ⟨e.fine f, e.ro.trans e0, fun b => S' b ∨ S b, fun b hb => ?_, S', S, fun b => Iff.rfl, fun b h1 h2 => ?_, a, o.stable fun b hb => e.old b (Or.inr (g b hb).2.2)⟩
  · have := e.next
    have := f.1
    rw [e.floor, e.may]
    rcases hb with hb | hb
    · have := hs b hb; exact ⟨this.1, Or.inl (by omega), this.2.2⟩
    · have := g b hb; exact ⟨this.1, this.2.1, Nat.lt_of_lt_of_le this.2.2 (by omega)⟩
  · have := hs b h1
    have := g b h2
    omega
theorem new_alloc (hf : h.Fine) (o : IObj) : New h (h.alloc o) (Ob (2 * h.next) o) :=
  ⟨fun b => b = 2 * h.next, ⟨fun x => Iff.rfl, get_alloc_new hf⟩, fun b hb => by subst hb; rw [alloc_next]; omega⟩
theorem Has.alloc (O : Has ro h L) (o : IObj) : Has ro (h.alloc o) (Ob (2 * h.next) o :: L) := O.new ((Ext.refl h).alloc o) (new_alloc O.fine o)
theorem Has.info (O : Has ro h L) {i b : Nat} {o : IObj} (hi : L[i]? = some (Ob b o)) : h.get b = some o ∧ b % 2 = 0 ∧ (h.floor ≤ b / 2 ∨ b / 2 ∈ h.may) ∧ b < 2 * h.next ∧ canPut h b = true := by
  obtain ⟨f, e, S, g, S1, S2, e1, d, ⟨a1, a2⟩, o⟩ := O.at i hi
  have := g b ((e1 b).2 (Or.inl ((a1 b).2 rfl)))
  exact ⟨a2, this.1, this.2.1, this.2.2, decide_eq_true ⟨this.1, this.2.1⟩⟩
theorem Has.get (O : Has ro h L) (i : Nat) {b : Nat} {o : IObj} (hi : L[i]? = some (Ob b o)) : h.get b = some o := (O.info hi).1
theorem Has.can (O : Has ro h L) (i : Nat) {b : Nat} {o : IObj} (hi : L[i]? = some (Ob b o)) : canPut h b = true := (O.info hi).2.2.2.2
theorem Has.set (O : Has ro h L) (i : Nat) {b : Nat} {o : IObj} (hi : L[i]? = some (Ob b o)) (o' : IObj) : Has ro (h.setB b o') (L.set i (Ob b o')) := by
  have hl := (List.getElem?_eq_some_iff.1 hi).1
  obtain ⟨hg, he, _⟩ := O.info hi
  refine Has.back ?_ hl
  obtain ⟨S, ⟨a1, a2⟩, g, k⟩ := (O.at i hi).step
  exact k _ (Ob b o') S ((Chg.refl S h).setB b o' he fun _ => (a1 b).2 rfl) ⟨a1, get_setB_same he (by rw [hg]; rfl)⟩ fun b hb => Or.inl hb
theorem Has.odd (O : Has ro h L) {b : Nat} {o : Option IObj} (hb : b % 2 = 1) (hg : (fresh ro).get b = o) : h.get b = o := by
  rw [← hg]
  unfold Heap.get
  rw [if_pos hb, if_pos hb, O.ro]
  rfl
theorem Has.star {p q : Rs} : Has ro h (Rs.star p q :: L) ↔ Has ro h (p :: q :: L) := by
  constructor
  · rintro ⟨f, e, S, g, S1, S2, e1, d, a, o⟩
    exact ⟨f, e, S, g, (Own.append (L := [p, q])).2 ⟨S1, S2, e1, d, a, o⟩⟩
  · rintro ⟨f, e, S, g, o⟩
    obtain ⟨S1, S2, e1, d, a, o⟩ := (Own.append (L := [p, q])).1 o
    exact ⟨f, e, S, g, S1, S2, e1, d, a, o⟩
theorem Has.all {l : List Rs} : Has ro h (Rs.all l :: L) ↔ Has ro h (l ++ L) := by
  constructor
  · rintro ⟨f, e, S, g, S1, S2, e1, d, a, o⟩
    exact ⟨f, e, S, g, Own.append.2 ⟨S1, S2, e1, d, a, o⟩⟩
  · rintro ⟨f, e, S, g, o⟩
    obtain ⟨S1, S2, e1, d, a, o⟩ := Own.append.1 o
    exact ⟨f, e, S, g, S1, S2, e1, d, a, o⟩
theorem Has.ex {α : Type} {F : α → Rs} : Has ro h (Rs.ex F :: L) ↔ ∃ a, Has ro h (F a :: L) := by
  constructor
  · rintro ⟨f, e, S, g, S1, S2, e1, d, ⟨a, x⟩, o⟩
    exact ⟨a, f, e, S, g, S1, S2, e1, d, x, o⟩
  · rintro ⟨a, f, e, S, g, S1, S2, e1, d, x, o⟩
    exact ⟨f, e, S, g, S1, S2, e1, d, ⟨a, x⟩, o⟩
theorem Has.and {p : Prop} {q : Rs} : Has ro h (Rs.and p q :: L) ↔ p ∧ Has ro h (q :: L) := by
  constructor
  · rintro ⟨f, e, S, g, S1, S2, e1, d, ⟨a, x⟩, o⟩
    exact ⟨a, f, e, S, g, S1, S2, e1, d, x, o⟩
  · rintro ⟨a, f, e, S, g, S1, S2, e1, d, x, o⟩
    exact ⟨f, e, S, g, S1, S2, e1, d, ⟨a, x⟩, o⟩
theorem Has.emp : Has ro h (Rs.emp :: L) ↔ Has ro h L := by
  constructor
  · exact Has.drop
  · rintro ⟨f, e, S, g, o⟩
    exact ⟨f, e, S, g, fun _ => False, S, fun b => by simp, fun b hb => hb.elim, fun b hb => hb, o⟩
theorem Has.mono (O : Has ro h (r :: L)) (k : ∀ S, r.is h S → Gd h S → r'.is h S) : Has ro h (r' :: L) := by
  obtain ⟨f, e, S, g, S1, S2, e1, d, a, o⟩ := O
  exact ⟨f, e, S, g, S1, S2, e1, d, k S1 a fun b hb => g b ((e1 b).2 (Or.inl hb)), o⟩
theorem Has.start (ro : Nat → Option (List Value × Nat)) : Has ro (fresh ro) [] := ⟨fresh_fine ro, rfl, fun _ => False, fun b hb => hb.elim, fun b hb => hb⟩
theorem Has.zero (hf : h.Fine) (hr : h.ro = ro) : Has ro h [] := ⟨hf, hr, fun _ => False, fun b hb => hb.elim, fun b hb => hb⟩
theorem Has.ne (O : Has ro h L) (i j : Nat) {b b' : Nat} {o o' : IObj} (hij : i < j) (hi : L[i]? = some (Ob b o)) (hj : L[j]? = some (Ob b' o')) : b ≠ b' := by
  rintro rfl
  have h1 : (L.eraseIdx i)[j - 1]? = some (Ob b o') := by
    rw [List.getElem?_eraseIdx, if_neg (by omega), Nat.sub_add_cancel (by omega)]
    exact hj
  obtain ⟨f, e, S, g, S1, S2, e1, d, ⟨a1, a2⟩, o⟩ := O.at i hi
  obtain ⟨S3, S4, e3, d3, ⟨a3, a4⟩, o3⟩ := o.perm (perm_front h1)
  exact d b ((a1 b).2 rfl) ((e3 b).2 (Or.inl ((a3 b).2 rfl)))
end
section
variable {call : Caller} {fuel : Nat} {ar : Option Nat} {tm : List Value} {df : List Nat} {h : Heap} {K : List Fr} {r : List IOper} {d : Option Nat} {anc : List Nat} {bar : Bool} {Q : IExit × St → Prop} {ro : Nat → Option (List Value × Nat)} {L : List Rs}
theorem Y_boxO (O : Has ro h L) {x : Opd} (k : ∀ b h', Has ro h' (Ob b (.cells (cellsOf (x.eval tm)) 1 false) :: L) → Ext h h' → (Y call fuel ar r (putDst tm d (.pointer (some ⟨b, 0, none⟩))) df h' K).Is Q) : (Y call fuel ar (⟨d, .box x, none, anc, bar⟩ :: r) tm df h K).Is Q := by
  rw [Y_box]
  exact k _ _ (O.alloc _) ((Ext.refl h).alloc _)
theorem Y_makeMapO (O : Has ro h L) (k : ∀ b h', Has ro h' (Ob b (.map [] 0) :: L) → Ext h h' → (Y call fuel ar r (putDst tm d (.map (some b))) df h' K).Is Q) : (Y call fuel ar (⟨d, .makeMap, none, anc, bar⟩ :: r) tm df h K).Is Q := by
  rw [Y_makeMap]
  exact k _ _ (O.alloc _) ((Ext.refl h).alloc _)
theorem Y_buildSliceO (O : Has ro h L) {z len : Nat} {zero : List Value} {ps : List (Nat × Opd)} {cs : List Value} (hc : layAt (List.replicate len zero).flatten (ps.map fun p => (p.1 * z, z, p.2.eval tm)) = some cs)
    (k : ∀ b h', Has ro h' (Ob b (.cells cs z false) :: L) → Ext h h' → (Y call fuel ar r (putDst tm d (.slice (some ⟨b, 0, none⟩) len len)) df h' K).Is Q) : (Y call fuel ar (⟨d, .buildSlice z len zero ps, none, anc, bar⟩ :: r) tm df h K).Is Q := by
  rw [Y_buildSlice, pBuildSlice, hc, ZP_some]
  exact k _ _ (O.alloc _) ((Ext.refl h).alloc _)
end
section
variable {call : Caller} {fuel : Nat} {ar : Option Nat} {tm : List Value} {df : List Nat} {h : Heap} {K : List Fr} {r : List IOper} {d : Option Nat} {Q : IExit × St → Prop} {ro : Nat → Option (List Value × Nat)} {L : List Rs} {an : List (List Nat)} {ix : Nat} {fr : List (Nat × Nat × Nat)} {b : ICode}
theorem X_abs (O : Has ro h L) (k : ∀ h', Has ro h' L → (X call fuel ar b tm df h' K).Is Q) : (X call fuel ar b tm df h K).Is Q := k h O
end
section
variable {α : Type} {z : Nat} {g : α → List Value}
def Sc (z : Nat) (g : α → List Value) (v : Value) (l : List α) : Rs := ⟨fun h S => (l = [] ∧ v = .slice none 0 0 ∧ ∀ b, ¬ S b) ∨
  ∃ b c rest sp zz t, v = .slice (some ⟨b, 0, sp⟩) l.length c ∧ (∀ x, S x ↔ x = b) ∧ l.length ≤ c ∧ rest.length = (c - l.length) * z ∧ (sp = some z ∧ t = true ∨ sp = none) ∧ h.get b = some (.cells (l.flatMap g ++ rest) zz t), by
  rintro h h' S (q | ⟨b, c, rest, sp, zz, t, b1, b2, b3, b4, b5, b6⟩) k
  · exact Or.inl q
  · exact Or.inr ⟨b, c, rest, sp, zz, t, b1, b2, b3, b4, b5, (k b ((b2 b).2 rfl)).trans b6⟩⟩
variable {ro : Nat → Option (List Value × Nat)} {h : Heap} {L : List Rs} {v : Value} {l : List α}
theorem Has.scNil (O : Has ro h L) : Has ro h (Sc z g (.slice none 0 0) ([] : List α) :: L) := (Has.emp.2 O).mono fun S hs _ => Or.inl ⟨rfl, rfl, hs⟩
theorem Has.scOpen (O : Has ro h (Sc z g v l :: L)) : (l = [] ∧ v = .slice none 0 0 ∧ Has ro h L) ∨ ∃ b c rest sp zz t, v = .slice (some ⟨b, 0, sp⟩) l.length c ∧ l.length ≤ c ∧ rest.length = (c - l.length) * z ∧ (sp = some z ∧ t = true ∨ sp = none) ∧ Has ro h (Ob b (.cells (l.flatMap g ++ rest) zz t) :: L) := by
  have O2 := O
  obtain ⟨f, e, S, g', S1, S2, e1, d, a, o⟩ := O
  rcases a with ⟨rfl, rfl, hs⟩ | ⟨b, c, rest, sp, zz, t, b1, b2, b3, b4, b5, b6⟩
  · exact Or.inl ⟨rfl, rfl, O2.drop⟩
  · exact Or.inr ⟨b, c, rest, sp, zz, t, b1, b3, b4, b5, f, e, S, g', S1, S2, e1, d, ⟨b2, b6⟩, o⟩
theorem Has.scClose {b c zz : Nat} {rest : List Value} {sp : Option Nat} {t : Bool} (hv : v = .slice (some ⟨b, 0, sp⟩) l.length c) (hc : l.length ≤ c) (hr : rest.length = (c - l.length) * z) (hs : sp = some z ∧ t = true ∨ sp = none) (O : Has ro h (Ob b (.cells (l.flatMap g ++ rest) zz t) :: L)) : Has ro h (Sc z g v l :: L) :=
  O.mono fun S a _ => Or.inr ⟨b, c, rest, sp, zz, t, hv, a.1, hc, hr, hs, a.2⟩
theorem Has.scVal (O : Has ro h L) (i : Nat) (hi : L[i]? = some (Sc z g v l)) : ∃ p c, v = .slice p l.length c ∧ (0 < l.length → ∃ b rest sp zz t, p = some ⟨b, 0, sp⟩ ∧ h.get b = some (.cells (l.flatMap g ++ rest) zz t) ∧ b % 2 = 0 ∧ b < 2 * h.next) := by
  rcases (O.at i hi).scOpen with ⟨rfl, rfl, _⟩ | ⟨b, c, rest, sp, zz, t, b1, b2, b3, b4, O2⟩
  · exact ⟨none, 0, rfl, fun h => by simp at h⟩
  · obtain ⟨q1, q2, q3, q4, q5⟩ := O2.info (i := 0) rfl
    exact ⟨_, c, b1, fun _ => ⟨b, rest, sp, zz, t, rfl, q1, q2, q4⟩⟩
theorem sc_append (hz : 0 < z) (hg : ∀ x, (g x).length = z) (hgo : ∀ x, (g x).all oneCell = true) (O : Has ro h (Sc z g v l :: L)) {x : Value} {xs : List α} {bytes : Nat} (hx : lenOf? x = some xs.length) (hxf : 0 < xs.length → firstN h z xs.length x = some (xs.flatMap g)) (hlen : (l.length + xs.length) * bytes ≤ roomMost) (hb1 : 1 ≤ bytes) :
    ∃ v' h', iappend h z bytes v x = some (v', h') ∧ Has ro h' (Sc z g v' (l ++ xs) :: L) := by
  have hroom : l.length + xs.length ≤ roomMost := Nat.le_trans (by
    have := Nat.mul_le_mul_left (l.length + xs.length) hb1
    omega) hlen
  have hal : ∀ ys : List α, (ys.flatMap g).all oneCell = true := by
    intro ys
    rw [List.all_flatMap, List.all_eq_true]
    intro y _
    exact hgo y
  by_cases hn : xs.length = 0
  · have hxs : xs = [] := List.eq_nil_of_length_eq_zero hn
    subst hxs
    obtain ⟨p, c, hv, _⟩ := O.scVal 0 rfl
    refine ⟨v, h, ?_, by rw [List.append_nil]; exact O⟩
    subst hv
    unfold iappend
    rw [hx]
    simp only [List.length_nil, if_true]
    cases x <;> simp [lenOf?] at hx <;> rfl
  have hxf' := hxf (by omega)
  rcases O.scOpen with ⟨rfl, rfl, O1⟩ | ⟨b, c, rest, sp, zz, t, rfl, hc, hr, hs, O1⟩
  · refine ⟨.slice (some ⟨2 * h.next, 0, some z⟩) xs.length xs.length, h.alloc (.cells (xs.flatMap g) z true), ?_, Has.scClose (rest := []) (sp := some z) (t := true) rfl (Nat.le_refl _) (by simp) (Or.inl ⟨rfl, rfl⟩) (by rw [List.append_nil]; exact O1.alloc _)⟩
    unfold iappend
    simp only [hx, hxf']
    rw [if_neg hn, if_neg (by omega), if_pos ⟨by simpa using hlen, by simpa using hroom⟩]
    have : firstN h z 0 (.slice none 0 0) = some [] := rfl
    simp only [this, List.nil_append, Nat.zero_add]
  · obtain ⟨hgb, hb, hbf, hbx, hcp⟩ := O1.info (i := 0) rfl
    have hfll := flatMap_len hg l
    have hflx := flatMap_len hg xs
    by_cases hlt : l.length + xs.length ≤ c
    · have hsp : (c - l.length) * z = (c - (l.length + xs.length)) * z + xs.length * z := by
        rw [← Nat.add_mul]; congr 1; omega
      refine ⟨.slice (some ⟨b, 0, sp⟩) (l.length + xs.length) c, h.setB b (.cells (l.flatMap g ++ (xs.flatMap g ++ rest.drop (xs.flatMap g).length)) zz t), ?_, Has.scClose (b := b) (c := c) (rest := rest.drop (xs.flatMap g).length) (sp := sp) (t := t) (zz := zz) (by simp) (by simpa using hlt) (by rw [List.length_drop, List.length_append]; omega) hs (by
        have := O1.set 0 rfl (.cells (l.flatMap g ++ (xs.flatMap g ++ rest.drop (xs.flatMap g).length)) zz t)
        rw [List.flatMap_append, List.append_assoc]
        exact this)⟩
      unfold iappend
      simp only [hx, hxf']
      rw [if_neg hn, if_pos hlt]
      have : h.write ⟨b, 0 + l.length * z, none⟩ (xs.flatMap g) = some (h.setB b (.cells (l.flatMap g ++ (xs.flatMap g ++ rest.drop (xs.flatMap g).length)) zz t)) := by
        rw [write_eq, hgb, writeC_cells, if_pos ⟨by rw [List.length_append]; omega, hal xs, hcp⟩]
        rw [show 0 + l.length * z = (l.flatMap g).length by omega, setAt_append _ _ _ (by omega)]
      simp only [this]
    · have hold : firstN h z l.length (.slice (some ⟨b, 0, sp⟩) l.length c) = some (l.flatMap g) := by
        rw [firstN_slice]
        by_cases h0 : l.length * z = 0
        · rw [if_pos h0]
          have : l.flatMap g = [] := List.eq_nil_of_length_eq_zero (by rw [hfll]; exact h0)
          rw [this]
        · rw [if_neg h0]
          show h.read ⟨b, 0, none⟩ (l.length * z) = _
          rw [read_eq, hgb]
          simp only [readC, readN]
          rw [if_pos (by rw [List.length_append]; omega), List.drop_zero, ← hfll, List.take_left']
          rfl
      have e1 : spotOk z ⟨b, 0, sp⟩ = true := by
        unfold spotOk
        rcases hs with ⟨rfl, _⟩ | rfl <;> simp
      have e2 : isCells h b = true := by unfold isCells; rw [hgb]
      by_cases hrc : reaches h z ⟨b, 0, sp⟩ c = true
      · refine ⟨.slice (some ⟨2 * h.next, 0, some z⟩) (l.length + xs.length) (l.length + xs.length), (h.kill b).alloc (.cells (l.flatMap g ++ xs.flatMap g) z true), ?_, ?_⟩
        · unfold iappend
          simp only [hx, hxf']
          rw [if_neg hn, if_neg hlt, if_pos ⟨hlen, hroom⟩]
          simp only [hold, e1, e2, hrc, Bool.not_true, Bool.or_self, Bool.false_eq_true, if_false, if_true, hal, put_none hgb hcp]
          rfl
        · have O3 : Has ro (h.kill b) L := by
            obtain ⟨f, e, S, g', S1, S2, q1, q2, ⟨a1, a2⟩, o⟩ := O1
            exact ⟨f, e, S2, fun x hx => g' x ((q1 x).2 (Or.inr hx)), o.stable fun x hx => kill_get hb fun e => q2 x ((a1 x).2 e) hx⟩
          have O4 := O3.alloc (.cells (l.flatMap g ++ xs.flatMap g) z true)
          rw [← List.flatMap_append] at O4
          rw [← List.flatMap_append]
          exact Has.scClose (rest := []) (sp := some z) (t := true) (b := 2 * h.next) (c := l.length + xs.length) (by simp) (by simp) (by simp) (Or.inl ⟨rfl, rfl⟩) (by rw [List.append_nil]; exact O4)
      · refine ⟨.slice (some ⟨2 * h.next, 0, some z⟩) (l.length + xs.length) (l.length + xs.length), h.alloc (.cells (l.flatMap g ++ xs.flatMap g) z true), ?_, ?_⟩
        · unfold iappend
          simp only [hx, hxf']
          rw [if_neg hn, if_neg hlt, if_pos ⟨hlen, hroom⟩]
          simp only [hold, e1, e2, hrc, Bool.not_true, Bool.or_self, Bool.false_eq_true, if_false]
        · have O4 := O1.drop.alloc (.cells (l.flatMap g ++ xs.flatMap g) z true)
          rw [← List.flatMap_append] at O4
          rw [← List.flatMap_append]
          exact Has.scClose (rest := []) (sp := some z) (t := true) (b := 2 * h.next) (c := l.length + xs.length) (by simp) (by simp) (by simp) (Or.inl ⟨rfl, rfl⟩) (by rw [List.append_nil]; exact O4)
end
end Go.Ideal
namespace Go.Ideal
open Go
section
variable {call : Caller} {fuel : Nat} {ar : Option Nat} {tm : List Value} {df : List Nat} {h : Heap} {K : List Fr} {Q : IExit × St → Prop}
theorem kont_append : ∀ (K1 K2 : List Fr) (p : IExit × St), kont call fuel ar (K1 ++ K2) p = (kont call fuel ar K1 p).bind (kont call fuel ar K2)
  | [], K2, p => by rw [kont_nil]; rfl
  | .code c :: K1, K2, (e, s) => by
    cases e with
    | normal =>
      rw [List.cons_append, kont_code', kont_code']
      unfold X
      rw [T.bind_assoc]
      congr 1
      funext q
      exact kont_append K1 K2 q
    | exit j => rw [List.cons_append, kont_code_exit, kont_code_exit]; exact kont_append K1 K2 _
    | ret => rw [List.cons_append, kont_code_ret, kont_code_ret]; exact kont_append K1 K2 _
  | .blk id :: K1, K2, (e, s) => by
    cases e with
    | normal => rw [List.cons_append, kont_blk, kont_blk]; exact kont_append K1 K2 _
    | ret => rw [List.cons_append, kont_blk_ret, kont_blk_ret]; exact kont_append K1 K2 _
    | exit j =>
      by_cases hj : j = id
      · subst hj
        rw [List.cons_append, kont_blk_exit, kont_blk_exit]; exact kont_append K1 K2 _
      · rw [List.cons_append, kont_blk_other _ _ _ hj, kont_blk_other _ _ _ hj]; exact kont_append K1 K2 _
where kont_code' {call : Caller} {fuel : Nat} {ar : Option Nat} {K : List Fr} (c : ICode) (s : St) : kont call fuel ar (.code c :: K) (.normal, s) = X call fuel ar c s.tmps s.defers s.h K := kont_code c
theorem X_append (c : ICode) (K1 K2 : List Fr) : X call fuel ar c tm df h (K1 ++ K2) = (X call fuel ar c tm df h K1).bind (kont call fuel ar K2) := by
  unfold X
  rw [T.bind_assoc]
  congr 1
  funext q
  exact kont_append K1 K2 q
noncomputable def Mid (call : Caller) (fuel : Nat) (ar : Option Nat) (df : List Nat) (K : List Fr) (Q : IExit × St → Prop) (J : St → Prop) (p : IExit × St) : Prop :=
  (p.1 = .normal ∧ p.2.defers = df ∧ J p.2) ∨ (p.1 ≠ .normal ∧ (kont call fuel ar K p).Is Q)
theorem mid_go {J : St → Prop} {x : T (IExit × St)} (h1 : x.Is (Mid call fuel ar df K Q J)) (h2 : ∀ tm h, J ⟨tm, df, h⟩ → (kont call fuel ar K (.normal, ⟨tm, df, h⟩)).Is Q) : (x.bind (kont call fuel ar K)).Is Q := by
  refine T.Is.bind h1 ?_
  rintro ⟨e, tm1, df1, hh⟩ (⟨p1, p2, p3⟩ | ⟨p1, p2⟩)
  · simp only at p1 p2 p3
    subst p1 p2
    exact h2 _ _ p3
  · exact p2
theorem X_cut0 {c : ICode} (J : St → Prop) (h1 : (X call fuel ar c tm df h []).Is (Mid call fuel ar df K Q J)) (h2 : ∀ tm h, J ⟨tm, df, h⟩ → (kont call fuel ar K (.normal, ⟨tm, df, h⟩)).Is Q) : (X call fuel ar c tm df h K).Is Q := by
  have := mid_go h1 h2
  rw [← X_append] at this
  exact this
theorem mid_in {J : St → Prop} {tm1 : List Value} {h1 : Heap} (j : J ⟨tm1, df, h1⟩) : (T.ret (IExit.normal, St.mk tm1 df h1)).Is (Mid call fuel ar df K Q J) := Or.inl ⟨rfl, rfl, j⟩
end
attribute [irreducible] Mid
end Go.Ideal
namespace Go.Ideal
open Go
structure KeyK (κ : Type) [DecidableEq κ] where
  agg : Option (List CK)
  kv : κ → Value
  ok : ∀ k, keyOk agg (kv k) = true
  eq : ∀ a b, keyEq agg (kv a) (kv b) = some (decide (a = b))
def intKey (k : IntKind) : KeyK Int where
  agg := none
  kv := fun x => .int k x
  ok := fun _ => rfl
  eq := fun a b => by simp only [keyEq, if_true]; rfl
section
variable {κ ν : Type} [DecidableEq κ] (K : KeyK κ) (vv : ν → Value)
def lk (m : List (κ × ν)) (k : κ) : Option ν := (m.find? fun p => decide (p.1 = k)).map (·.2)
def upd1 (m : List (κ × ν)) (k : κ) (v : ν) : List (κ × ν) := if (lk m k).isSome then m.map (fun p => if p.1 = k then (k, v) else p) else m ++ [(k, v)]
def del1 (m : List (κ × ν)) (k : κ) : List (κ × ν) := m.filter fun p => decide (p.1 ≠ k)
def NoDup (m : List (κ × ν)) : Prop := (m.map (·.1)).Nodup
def Me (es : List Ent) (m : List (κ × ν)) : Prop := es.map (fun e => (e.key, e.val)) = m.map (fun p => (K.kv p.1, vv p.2))
def Mp (r : Nat) (m : List (κ × ν)) : Rs := ⟨fun h S => (∀ x, S x ↔ x = r) ∧ NoDup m ∧ ∃ es c, h.get r = some (.map es c) ∧ Me K vv es m, fun ⟨a, n, es, c, g, q⟩ k => ⟨a, n, es, c, (k r ((a r).2 rfl)).trans g, q⟩⟩
end
section
variable {κ ν : Type} [DecidableEq κ] {K : KeyK κ} {vv : ν → Value} {m : List (κ × ν)} {k : κ} {v : ν}
theorem lk_nil : lk ([] : List (κ × ν)) k = none := rfl
theorem lk_cons (p : κ × ν) : lk (p :: m) k = if p.1 = k then some p.2 else lk m k := by
  unfold lk
  rw [List.find?_cons]
  by_cases h : p.1 = k <;> simp [h]
theorem lk_append (m' : List (κ × ν)) : lk (m ++ m') k = match lk m k with | some v => some v | none => lk m' k := by
  induction m with
  | nil => rfl
  | cons p m ih =>
    rw [List.cons_append, lk_cons, lk_cons, ih]
    split <;> rfl
theorem lk_none : lk m k = none ↔ ∀ p ∈ m, p.1 ≠ k := by
  induction m with
  | nil => simp [lk_nil]
  | cons p m ih =>
    rw [lk_cons]
    by_cases e : p.1 = k
    · simp [e]
    · rw [if_neg e, ih]
      simp [e]
theorem lk_map (k' : κ) : lk (m.map fun p => if p.1 = k then (k, v) else p) k' = if k' = k ∧ (lk m k).isSome = true then some v else lk m k' := by
  induction m with
  | nil => simp [lk_nil]
  | cons p m ih =>
    rw [List.map_cons, lk_cons, lk_cons, lk_cons, ih]
    by_cases e : p.1 = k
    · simp only [e, if_true]
      by_cases e2 : k = k'
      · subst e2; simp
      · rw [if_neg e2, if_neg (fun h => e2 h.1.symm), if_neg (fun h => e2 h.1.symm), if_neg e2]
    · simp only [if_neg e]
      by_cases e2 : p.1 = k'
      · have : ¬ k' = k := fun h => e (e2.trans h)
        simp [e2, this]
      · simp [e2]
theorem lk_upd (k' : κ) : lk (upd1 m k v) k' = if k' = k then some v else lk m k' := by
  unfold upd1
  by_cases h : (lk m k).isSome = true
  · rw [if_pos h, lk_map]
    simp [h]
  · rw [if_neg h, lk_append]
    have hn : lk m k = none := by simpa using h
    by_cases e : k' = k
    · subst e
      rw [hn]
      simp [lk_cons]
    · rw [if_neg e]
      cases h2 : lk m k' with
      | some w => rfl
      | none => rw [lk_cons, if_neg (fun h => e h.symm)]; rfl
theorem lk_del (k' : κ) : lk (del1 m k) k' = if k' = k then none else lk m k' := by
  unfold del1
  induction m with
  | nil => simp [lk_nil]
  | cons p m ih =>
    rw [List.filter_cons]
    by_cases e : p.1 = k
    · simp only [e, ne_eq, not_true_eq_false, decide_false, Bool.false_eq_true, if_false]
      rw [ih, lk_cons, e]
      by_cases e2 : k' = k
      · simp [e2]
      · rw [if_neg e2, if_neg e2, if_neg (fun h => e2 h.symm)]
    · simp only [ne_eq, e, not_false_eq_true, decide_true, if_true]
      rw [lk_cons, ih, lk_cons]
      by_cases e2 : k' = k
      · have : ¬ p.1 = k' := fun h => e (h.trans e2)
        rw [if_neg this, if_pos e2, if_pos e2]
      · rw [if_neg e2, if_neg e2]
theorem upd_nodup (hn : NoDup m) : NoDup (upd1 m k v) := by
  unfold upd1 NoDup
  by_cases h : (lk m k).isSome = true
  · rw [if_pos h]
    have : ((m.map fun p => if p.1 = k then (k, v) else p).map (·.1)) = m.map (·.1) := by
      rw [List.map_map]
      refine List.map_congr_left fun p hp => ?_
      simp only [Function.comp]
      split
      · rename_i e; exact e.symm
      · rfl
    rw [this]; exact hn
  · rw [if_neg h, List.map_append, List.nodup_append]
    have hn2 : lk m k = none := by simpa using h
    have := lk_none.1 hn2
    refine ⟨hn, by simp, fun a ha b hb => ?_⟩
    obtain ⟨p, hp, rfl⟩ := List.mem_map.1 ha
    simp at hb
    subst hb
    exact this p hp
theorem del_nodup (hn : NoDup m) : NoDup (del1 m k) := by
  unfold del1 NoDup
  exact List.Nodup.sublist (List.Sublist.map _ List.filter_sublist) hn
theorem find_me : ∀ {es : List Ent} {m : List (κ × ν)} (j : Nat), Me K vv es m → findEnt K.agg (K.kv k) es j = some ((m.findIdx? fun p => decide (p.1 = k)).bind fun i => (lk m k).map fun v => (i + j, vv v))
  | [], [], j, _ => rfl
  | [], _ :: _, _, h => by simp [Me] at h
  | _ :: _, [], _, h => by simp [Me] at h
  | e :: es, p :: m, j, h => by
    have h' : (e.key = K.kv p.1 ∧ e.val = vv p.2) ∧ Me K vv es m := by
      simp only [Me, List.map_cons, List.cons.injEq, Prod.mk.injEq] at h
      exact h
    obtain ⟨⟨h1, h2⟩, h3⟩ := h'
    have ih := find_me (j + 1) h3
    unfold findEnt
    rw [h1, K.eq, List.findIdx?_cons, lk_cons]
    by_cases e : k = p.1
    · rw [decide_eq_true e, if_pos (decide_eq_true e.symm), if_pos e.symm]
      simp [h2]
    · have e' : ¬ p.1 = k := fun h => e h.symm
      rw [decide_eq_false e, if_neg (by simp [e']), if_neg e', ih]
      congr 1
      cases m.findIdx? fun p => decide (p.1 = k) with
      | none => rfl
      | some i =>
        simp only [Option.map_some, Option.bind_some]
        rw [show i + (j + 1) = i + 1 + j by omega]
theorem find_any {α : Type} {p : α → Bool} : ∀ {l : List α}, (l.find? p).isSome = l.any p
  | [] => rfl
  | a :: l => by
    rw [List.find?_cons, List.any_cons]
    cases h : p a
    · simp only [Bool.false_or]; exact find_any
    · rfl
theorem idx_lk : (m.findIdx? fun p => decide (p.1 = k)).isSome = (lk m k).isSome := by
  unfold lk
  rw [List.findIdx?_isSome, Option.isSome_map, find_any]
variable {ro : Nat → Option (List Value × Nat)} {h : Heap} {L : List Rs} {r : Nat}
theorem Has.mpInfo (O : Has ro h L) (i : Nat) (hi : L[i]? = some (Mp K vv r m)) : NoDup m ∧ (∃ es c, h.get r = some (.map es c) ∧ Me K vv es m) ∧ r % 2 = 0 ∧ canPut h r = true := by
  obtain ⟨f, e, S, g, S1, S2, e1, d, ⟨a1, a2, a3⟩, o⟩ := O.at i hi
  have := g r ((e1 r).2 (Or.inl ((a1 r).2 rfl)))
  exact ⟨a2, a3, this.1, decide_eq_true ⟨this.1, this.2.1⟩⟩
theorem Has.mpLook (O : Has ro h L) (i : Nat) (hi : L[i]? = some (Mp K vv r m)) (k : κ) (zero : Value) (ok : Bool) : vLookup h K.agg zero ok (.map (some r)) (K.kv k) = some (if ok then .tuple #[((lk m k).map vv).getD zero, .bool (lk m k).isSome] else ((lk m k).map vv).getD zero) := by
  obtain ⟨n, ⟨es, c, h1, h2⟩, _⟩ := O.mpInfo i hi
  unfold vLookup imap
  simp only [K.ok, if_true, getMap, h1, find_me 0 h2]
  have := idx_lk (m := m) (k := k)
  cases h3 : m.findIdx? fun p => decide (p.1 = k) with
  | none =>
    rw [h3] at this
    have h4 : lk m k = none := by simpa using this.symm
    simp [h4]
  | some j =>
    rw [h3] at this
    obtain ⟨w, h4⟩ := Option.isSome_iff_exists.1 this.symm
    simp [h4]
theorem me_set (v : ν) : ∀ {es : List Ent} {m : List (κ × ν)} {j : Nat}, NoDup m → Me K vv es m → (m.findIdx? fun p => decide (p.1 = k)) = some j → Me K vv (setVal es j (K.kv k) (vv v)) (m.map fun p => if p.1 = k then (k, v) else p)
  | [], [], j, _, _, h => by simp at h
  | [], _ :: _, _, _, h, _ => by simp [Me] at h
  | _ :: _, [], _, _, h, _ => by simp [Me] at h
  | e :: es, p :: m, j, hn, h, hj => by
    have h' : (e.key = K.kv p.1 ∧ e.val = vv p.2) ∧ Me K vv es m := by
      simp only [Me, List.map_cons, List.cons.injEq, Prod.mk.injEq] at h
      exact h
    obtain ⟨⟨h1, h2⟩, h3⟩ := h'
    have hn' : p.1 ∉ m.map (·.1) ∧ NoDup m := List.nodup_cons.1 hn
    rw [List.findIdx?_cons] at hj
    by_cases e1 : p.1 = k
    · rw [if_pos (by simpa using e1)] at hj
      cases hj
      have hm : m.map (fun p => if p.1 = k then (k, v) else p) = m := by
        have : ∀ q ∈ m, (if q.1 = k then (k, v) else q) = q := fun q hq => by
          rw [if_neg]
          rintro e2
          exact hn'.1 (List.mem_map.2 ⟨q, hq, e2.trans e1.symm⟩)
        conv => rhs; rw [← List.map_id m]
        exact List.map_congr_left this
      unfold Me setVal
      simp only [List.modify_zero_cons, List.map_cons, if_pos e1, hm]
      rw [show es.map (fun e => (e.key, e.val)) = _ from h3]
    · rw [if_neg (by simpa using e1)] at hj
      obtain ⟨j', hj', rfl⟩ := Option.map_eq_some_iff.1 hj
      have ih := me_set v hn'.2 h3 hj'
      unfold Me setVal at ih ⊢
      simp only [List.modify_succ_cons, List.map_cons, if_neg e1, h1, h2, ih]
theorem me_erase : ∀ {es : List Ent} {m : List (κ × ν)} {j : Nat}, NoDup m → Me K vv es m → (m.findIdx? fun p => decide (p.1 = k)) = some j → Me K vv (es.eraseIdx j) (del1 m k)
  | [], [], j, _, _, h => by simp at h
  | [], _ :: _, _, _, h, _ => by simp [Me] at h
  | _ :: _, [], _, _, h, _ => by simp [Me] at h
  | e :: es, p :: m, j, hn, h, hj => by
    have h' : (e.key = K.kv p.1 ∧ e.val = vv p.2) ∧ Me K vv es m := by
      simp only [Me, List.map_cons, List.cons.injEq, Prod.mk.injEq] at h
      exact h
    obtain ⟨⟨h1, h2⟩, h3⟩ := h'
    have hn' : p.1 ∉ m.map (·.1) ∧ NoDup m := List.nodup_cons.1 hn
    rw [List.findIdx?_cons] at hj
    by_cases e1 : p.1 = k
    · rw [if_pos (by simpa using e1)] at hj
      cases hj
      have hm : m.filter (fun p => decide (p.1 ≠ k)) = m := by
        rw [List.filter_eq_self]
        intro q hq
        simp only [ne_eq, decide_eq_true_eq]
        rintro e2
        exact hn'.1 (List.mem_map.2 ⟨q, hq, e2.trans e1.symm⟩)
      unfold del1
      rw [List.filter_cons, if_neg (by simp [e1]), hm]
      exact h3
    · rw [if_neg (by simpa using e1)] at hj
      obtain ⟨j', hj', rfl⟩ := Option.map_eq_some_iff.1 hj
      have ih := me_erase hn'.2 h3 hj'
      unfold del1 at ih ⊢
      rw [List.filter_cons, if_pos (by simp [e1])]
      unfold Me at ih ⊢
      simp only [List.eraseIdx_cons_succ, List.map_cons, h1, h2, ih]
theorem Has.mpPut (O : Has ro h L) (i : Nat) (hi : L[i]? = some (Mp K vv r m)) {es' : List Ent} {c' : Nat} {m' : List (κ × ν)} (hn : NoDup m') (hm : Me K vv es' m') : Has ro (h.setB r (.map es' c')) (L.set i (Mp K vv r m')) := by
  have hl := (List.getElem?_eq_some_iff.1 hi).1
  obtain ⟨n, ⟨es, c, h1, h2⟩, he, _⟩ := O.mpInfo i hi
  refine Has.back ?_ hl
  obtain ⟨S, ⟨a1, a2, a3⟩, g, k⟩ := (O.at i hi).step
  exact k _ (Mp K vv r m') S ((Chg.refl S h).setB r _ he fun _ => (a1 r).2 rfl) ⟨a1, hn, es', c', get_setB_same he (by rw [h1]; rfl), hm⟩ fun b hb => Or.inl hb
theorem Has.mpUpd (O : Has ro h L) (i : Nat) (hi : L[i]? = some (Mp K vv r m)) (k : κ) (v : ν) : ∃ h', vMapUpdate h K.agg (.map (some r)) (K.kv k) (vv v) = some h' ∧ Has ro h' (L.set i (Mp K vv r (upd1 m k v))) := by
  obtain ⟨n, ⟨es, c, h1, h2⟩, he, hc⟩ := O.mpInfo i hi
  have hidx := idx_lk (m := m) (k := k)
  unfold vMapUpdate imap
  simp only [K.ok, if_true, getMap, h1, find_me 0 h2]
  cases h3 : m.findIdx? fun p => decide (p.1 = k) with
  | none =>
    rw [h3] at hidx
    have h4 : lk m k = none := by simpa using hidx.symm
    simp only [Option.bind_none, put_eq _ h1, hc, if_true]
    refine ⟨_, rfl, O.mpPut i hi (upd_nodup n) ?_⟩
    unfold upd1 Me
    rw [if_neg (by simp [h4]), List.map_append, List.map_append, show es.map (fun e => (e.key, e.val)) = _ from h2]
    rfl
  | some j =>
    rw [h3] at hidx
    obtain ⟨w, h4⟩ := Option.isSome_iff_exists.1 hidx.symm
    simp only [Option.bind_some, h4, Option.map_some, Nat.add_zero, put_eq _ h1, hc, if_true]
    refine ⟨_, rfl, O.mpPut i hi (upd_nodup n) ?_⟩
    unfold upd1
    rw [if_pos (by simp [h4])]
    exact me_set v n h2 h3
def vDelete (h : Heap) (agg : Option (List CK)) (mv kv : Value) : Option Heap := match imap h agg mv kv with
  | some (_, _, none, _) => some h
  | some (es, c, some r, some (i, _)) => h.put r (some (.map (es.eraseIdx i) c))
  | some (es, c, some r, none) => h.put r (some (.map es c))
  | none => none
theorem Has.mpDel (O : Has ro h L) (i : Nat) (hi : L[i]? = some (Mp K vv r m)) (k : κ) : ∃ h', vDelete h K.agg (.map (some r)) (K.kv k) = some h' ∧ Has ro h' (L.set i (Mp K vv r (del1 m k))) := by
  obtain ⟨n, ⟨es, c, h1, h2⟩, he, hc⟩ := O.mpInfo i hi
  have hidx := idx_lk (m := m) (k := k)
  unfold vDelete imap
  simp only [K.ok, if_true, getMap, h1, find_me 0 h2]
  cases h3 : m.findIdx? fun p => decide (p.1 = k) with
  | none =>
    rw [h3] at hidx
    have h4 : lk m k = none := by simpa using hidx.symm
    simp only [Option.bind_none, put_eq _ h1, hc, if_true]
    refine ⟨_, rfl, O.mpPut i hi (del_nodup n) ?_⟩
    have : del1 m k = m := by
      unfold del1
      rw [List.filter_eq_self]
      intro q hq
      simpa using lk_none.1 h4 q hq
    rw [this]; exact h2
  | some j =>
    rw [h3] at hidx
    obtain ⟨w, h4⟩ := Option.isSome_iff_exists.1 hidx.symm
    simp only [Option.bind_some, h4, Option.map_some, Nat.add_zero, put_eq _ h1, hc, if_true]
    exact ⟨_, rfl, O.mpPut i hi (del_nodup n) (me_erase n h2 h3)⟩
def vLenMap (h : Heap) (x : Value) : Option Value := match getMap h x with
  | some (es, _, _) => some (.int .i64 es.length)
  | none => none
theorem Has.mpNew {b : Nat} (O : Has ro h (Ob b (.map [] 0) :: L)) : Has ro h (Mp K vv b ([] : List (κ × ν)) :: L) := O.mono fun S a _ => ⟨a.1, List.nodup_nil, [], 0, a.2, rfl⟩
end
section
variable {call : Caller} {fuel : Nat} {ar : Option Nat} {tm : List Value} {df : List Nat} {h : Heap} {K : List Fr} {r : List IOper} {d : Option Nat} {anc : List Nat} {bar : Bool} {an : List (List Nat)} {ix : Nat} {fr : List (Nat × Nat × Nat)}
theorem Y_delete (agg : Option (List CK)) (m k : Opd) : Y call fuel ar (⟨d, .delete agg m k, none, anc, bar⟩ :: r) tm df h K = ZH call fuel ar (vDelete h agg (m.eval tm) (k.eval tm)) undefV d r tm df K := by
  have he : (IOp.delete agg m k).exec call tm h = (match vDelete h agg (m.eval tm) (k.eval tm) with | some h' => .ret (undefV, h') | none => .fail) := by
    simp only [IOp.exec, IOp.run, vDelete]
    cases imap h agg (m.eval tm) (k.eval tm) with
    | none => rfl
    | some q =>
      obtain ⟨es, c, r, o⟩ := q
      cases r with
      | none => rfl
      | some r =>
        cases o with
        | none => simp only []; cases h.put r (some (.map es c)) <;> rfl
        | some p => simp only []; cases h.put r (some (.map (es.eraseIdx p.1) c)) <;> rfl
  rw [Y_op, he]
  cases vDelete h agg (m.eval tm) (k.eval tm) with
  | none => simp [Z, ZH, T.bind]
  | some h' => rw [Z_ret, ZH_some]
theorem E_lenMap (x : Opd) : (.lenMap x : IOp).run tm h = T.ofOpt ((vLenMap h (x.eval tm)).map fun v => (v, h)) := by
  simp only [IOp.run, vLenMap]
  cases getMap h (x.eval tm) <;> rfl
theorem Y_lenMap (x : Opd) : Y call fuel ar (⟨d, .lenMap x, none, anc, bar⟩ :: r) tm df h K = ZO call fuel ar (vLenMap h (x.eval tm)) d r tm df h K := Y_read (by intro f a b; cases b) (E_lenMap ..)
theorem D_lenMapB (x : Opd) : D call fuel ar an (⟨d, .lenMap x, none, anc, true⟩ :: r) ix fr tm df h K = DO call fuel ar an (vLenMap h (x.eval tm)) d r ix [] tm df h K := D_readB rfl (by intro f as h; cases h) (E_lenMap ..)
theorem D_lenMapF (x : Opd) : D call fuel ar an (⟨d, .lenMap x, none, anc, false⟩ :: r) ix fr tm df h K = DO call fuel ar an (vLenMap (seen0 an ix fr h) (x.eval tm)) d r ix fr tm df h K := D_readF rfl (by intro f as h; cases h) (E_lenMap ..)
end
end Go.Ideal
namespace Go.Ideal
open Go
section
variable {call : Caller} {fuel : Nat} {tm : List Value} {df : List Nat} {h : Heap} {K : List Fr} {ro : Nat → Option (List Value × Nat)} {L : List Rs}
theorem X_rangeO (O : Has ro h L) {f : Opd} {ps : List Nat} {asg body : ICode} {Q : IExit × St → Prop} {g : Nat} {first cap : Array Value} (hf : f.eval tm = .func (.func g) first cap)
    (hc : ∀ m l h', Has ro h' (Ob l (.loop { state := .ready, pending := .normal, tmps := tm, params := ps, assign := asg, body := body, defers := m }) :: Ob m (.deferred true) :: L) →
      (call (.func (.func g) first cap) [.func (.yield l) #[] #[]] h').Is fun p => ∃ lp L', lp.state ≠ .busy ∧ Has ro p.2 (Ob l (.loop lp) :: L') ∧ ∀ h'', Has ro h'' L' → (kont call fuel none K (lp.pending, ⟨tm, m :: df, h''⟩)).Is Q) :
    (X call fuel none (.rangeFunc f ps asg body) tm df h K).Is Q := by
  refine X_range hf ?_
  have O1 := O.alloc (.deferred true)
  have O2 := O1.alloc (.loop { state := .ready, pending := .normal, tmps := tm, params := ps, assign := asg, body := body, defers := 2 * h.next })
  refine T.Is.mono ?_ (hc (2 * h.next) (2 * (h.alloc (.deferred true)).next) _ O2)
  rintro ⟨v, h1⟩ ⟨lp, L', hst, O3, k⟩
  simp only at O3
  refine ⟨lp, O3.get 0 rfl, hst, O3.can 0 rfl, k _ ?_⟩
  have := O3.set 0 rfl (.loop { lp with state := .exhausted })
  exact this.drop
theorem round_isO {l : Nat} {args : List Value} {lp : ILoop} {Q : Value × Heap → Prop} (O : Has ro h (Ob l (.loop lp) :: L)) (hlen : args.length = lp.params.length) (hst : lp.state = .ready)
    (hx : (X call fuel (some l) lp.assign (setParams lp.tmps lp.params args) [] h []).Is fun p => p.1 = .normal ∧ ∃ L1, Has ro p.2.h (Ob l (.loop lp) :: L1) ∧ ∀ h2, Has ro h2 (Ob l (.loop { lp with state := .busy }) :: L1) →
      (X call fuel (some l) lp.body p.2.tmps p.2.defers h2 []).Is fun q => ∃ lp3 L3, Has ro q.2.h (Ob l (.loop lp3) :: L3) ∧ ∀ h3, Has ro h3 (Ob l (.loop { lp3 with state := if onOf q.1 then .ready else .done, pending := q.1 }) :: L3) → Q (.bool (onOf q.1), h3)) :
    (round call fuel l args h).Is Q := by
  unfold round
  simp only [O.get 0 rfl, hlen, if_true]
  rw [exec_X]
  refine T.Is.bind hx fun p hp => ?_
  obtain ⟨e, s⟩ := p
  obtain ⟨h1, L1, O1, h3⟩ := hp
  simp only at h1 O1 h3
  subst h1
  have g1 := O1.get 0 rfl
  simp only [g1, hst, if_true, put_eq _ g1, O1.can 0 rfl]
  have O2 := O1.set 0 rfl (.loop { lp with state := .busy })
  have := h3 _ O2
  rw [← exec_X] at this
  refine T.Is.bind this fun q hq => ?_
  obtain ⟨e, s3⟩ := q
  obtain ⟨lp3, L3, O3, q3⟩ := hq
  simp only at O3 q3
  have g3 := O3.get 0 rfl
  simp only [g3, put_eq _ g3, O3.can 0 rfl, if_true]
  have := q3 _ (O3.set 0 rfl _)
  cases e <;> exact this
theorem shutO (O : Has ro h L) (i : Nat) {m : Nat} (hi : L[i]? = some (Ob m (.deferred true))) : ∃ h', shutMarks [m] h = some h' ∧ Has ro h' (L.set i (Ob m (.deferred false))) := by
  have g := O.get i hi
  refine ⟨_, ?_, O.set i hi _⟩
  simp only [shutMarks, g, put_eq _ g, O.can i hi, if_true]
theorem leafMO (O : Has ro h L) (i : Nat) {m : Nat} (hi : L[i]? = some (Ob m (.deferred true))) {rs : List IResult} {Q : Value × Heap → Prop} (k : ∀ h', Has ro h' (L.set i (Ob m (.deferred false))) → ∃ v, answer rs tm h' = some v ∧ Q (v, h')) : (T.ret (.ret, St.mk tm [m] h)).Is (Fin rs Q) := by
  obtain ⟨h', h1, O1⟩ := shutO O i hi
  obtain ⟨v, h2, h3⟩ := k h' O1
  exact ⟨h', v, h1, h2, h3⟩
theorem leafMOn (O : Has ro h L) (i : Nat) {m : Nat} (hi : L[i]? = some (Ob m (.deferred true))) {rs : List IResult} {Q : Value × Heap → Prop} (k : ∀ h', Has ro h' (L.set i (Ob m (.deferred false))) → ∃ v, answer rs tm h' = some v ∧ Q (v, h')) : (T.ret (.normal, St.mk tm [m] h)).Is (Fin rs Q) := by
  obtain ⟨h', h1, O1⟩ := shutO O i hi
  obtain ⟨v, h2, h3⟩ := k h' O1
  exact ⟨h', v, h1, h2, h3⟩
theorem leafO {rs : List IResult} {Q : Value × Heap → Prop} (v : Value) (h1 : answer rs tm h = some v) (h2 : Q (v, h)) : (T.ret (.ret, St.mk tm [] h)).Is (Fin rs Q) := ⟨h, v, rfl, h1, h2⟩
theorem cellN (O : Has ro h L) (i : Nat) {b z n a : Nat} {t : Bool} {cs : List Value} (hi : L[i]? = some (Ob b (.cells cs z t))) (hp : tm.getD a undefV = .pointer (some ⟨b, 0, none⟩)) (hn : cs.length = n) : (IResult.cell a (some n)).val tm h = some (.agg cs.toArray) := by
  unfold IResult.val
  simp only [hp, read_eq, O.get i hi, readC_cells, readN]
  rw [if_pos (by omega), List.drop_zero, List.take_of_length_le (by omega)]
  rfl
theorem cell1 (O : Has ro h L) (i : Nat) {b z a : Nat} {t : Bool} {v : Value} (hi : L[i]? = some (Ob b (.cells [v] z t))) (hp : tm.getD a undefV = .pointer (some ⟨b, 0, none⟩)) : (IResult.cell a none).val tm h = some v := by
  unfold IResult.val
  simp only [hp, read_eq, O.get i hi, readC_cells, readN]
  rfl
theorem answer2 (a b : IResult) (va vb : Value) (h1 : a.val tm h = some va) (h2 : b.val tm h = some vb) : answer [a, b] tm h = some (.tuple #[va, vb]) := by
  simp [answer, h1, h2]
end
section
variable {α : Type} {z : Nat} {g : α → List Value} {h : Heap} {ro : Nat → Option (List Value × Nat)} {L : List Rs}
theorem star_is {p q : Rs} {S : Nat → Prop} : (Rs.star p q).is h S ↔ ∃ S1 S2 : Nat → Prop, (∀ b, S b ↔ (S1 b ∨ S2 b)) ∧ (∀ b, S1 b → ¬ S2 b) ∧ p.is h S1 ∧ q.is h S2 := by
  constructor
  · rintro ⟨S1, S2, e, d, a, S3, S4, e', d', a', n⟩
    have : S2 = S3 := by
      funext b
      have := e' b
      have h4 : ¬ S4 b := n b
      simp only [h4, or_false] at this
      exact propext this
    rw [this] at e d
    exact ⟨S1, S3, e, d, a, a'⟩
  · rintro ⟨S1, S2, e, d, a, a'⟩
    exact ⟨S1, S2, e, d, a, S2, fun _ => False, fun b => by simp, fun b _ h => h, a', fun b h => h⟩
def Slr (z : Nat) (g : α → List Value) (v : Value) (l : List α) : Rs := ⟨fun h S => (l = [] ∧ v = .slice none 0 0 ∧ ∀ b, ¬ S b) ∨
  ∃ b c rest, v = .slice (some ⟨b, 0, some z⟩) l.length c ∧ (∀ x, S x ↔ x = b) ∧ l.length ≤ c ∧ rest.length = (c - l.length) * z ∧ h.get b = some (.cells (l.flatMap g ++ rest) z true), by
  rintro h h' S (q | ⟨b, c, rest, b1, b2, b3, b4, b5⟩) k
  · exact Or.inl q
  · exact Or.inr ⟨b, c, rest, b1, b2, b3, b4, (k b ((b2 b).2 rfl)).trans b5⟩⟩
theorem slr_sl {v : Value} {l : List α} {S : Nat → Prop} (a : (Slr z g v l).is h S) (gd : Gd h S) : ∃ sb, Sl z g h v sb l ∧ ∀ x, S x ↔ some x = sb := by
  rcases a with ⟨rfl, rfl, n⟩ | ⟨b, c, rest, b1, b2, b3, b4, b5⟩
  · exact ⟨none, Or.inl ⟨rfl, rfl, rfl⟩, fun x => by simp [n x]⟩
  · have := gd b ((b2 b).2 rfl)
    exact ⟨some b, Or.inr ⟨b, c, rest, b1, rfl, b3, this.1, this.2.1, this.2.2, b4, b5⟩, fun x => by rw [b2]; simp⟩
theorem sl_slr {v : Value} {l : List α} {sb : Option Nat} (s : Sl z g h v sb l) : (Slr z g v l).is h (fun x => some x = sb) := by
  rcases s with ⟨rfl, rfl, rfl⟩ | ⟨b, c, rest, b1, rfl, b3, b4, b5, b6, b7, b8⟩
  · exact Or.inl ⟨rfl, rfl, fun b => by simp⟩
  · exact Or.inr ⟨b, c, rest, b1, fun x => by simp, b3, b7, b8⟩
theorem Has.slrNil (O : Has ro h L) : Has ro h (Slr z g (.slice none 0 0) ([] : List α) :: L) := (Has.emp.2 O).mono fun S hs _ => Or.inl ⟨rfl, rfl, hs⟩
end
end Go.Ideal
namespace Go.Ideal
open Go
section
variable {len cap lo hi mx z b off : Nat} {k k' k'' : IntKind} {sp : Option Nat}
theorem bounds_lh (h1 : lo ≤ hi) (h2 : hi ≤ cap) : bounds len cap (some (.int k (lo : Int))) (some (.int k' (hi : Int))) none = some (lo, hi, cap) := by
  simp only [bounds, asInt?, Int.toNat_natCast]
  rw [if_pos ⟨by omega, by omega⟩]
  simp only []
  rw [if_pos ⟨by omega, by omega⟩]
theorem bounds_l (h1 : lo ≤ len) : bounds len cap (some (.int k (lo : Int))) none none = some (lo, len, cap) := by
  simp only [bounds, asInt?, Int.toNat_natCast]
  rw [if_pos ⟨by omega, by omega⟩]
theorem bounds_h (h2 : hi ≤ cap) : bounds len cap none (some (.int k' (hi : Int))) none = some (0, hi, cap) := by
  simp only [bounds, asInt?, Int.toNat_natCast]
  rw [if_pos ⟨by omega, by omega⟩]
theorem bounds_lhm (h1 : lo ≤ hi) (h2 : hi ≤ mx) (h3 : mx ≤ cap) : bounds len cap (some (.int k (lo : Int))) (some (.int k' (hi : Int))) (some (.int k'' (mx : Int))) = some (lo, hi, mx) := by
  simp only [bounds, asInt?, Int.toNat_natCast]
  rw [if_pos ⟨by omega, by omega⟩]
  simp only []
  rw [if_pos ⟨by omega, by omega⟩]
  simp only []
  rw [if_pos ⟨by omega, by omega⟩]
theorem vSlice_lh (h1 : lo ≤ hi) (h2 : hi ≤ cap) (hs : spotOk z ⟨b, off, sp⟩ = true) : vSlice z (.slice (some ⟨b, off, sp⟩) len cap) (some (.int k (lo : Int))) (some (.int k' (hi : Int))) none false = some (.slice (some ⟨b, off + lo * z, sp⟩) (hi - lo) (cap - lo)) := by
  simp [vSlice, bounds_lh h1 h2, hs]
theorem vSlice_l (h1 : lo ≤ len) (hs : spotOk z ⟨b, off, sp⟩ = true) : vSlice z (.slice (some ⟨b, off, sp⟩) len cap) (some (.int k (lo : Int))) none none false = some (.slice (some ⟨b, off + lo * z, sp⟩) (len - lo) (cap - lo)) := by
  simp [vSlice, bounds_l h1, hs]
theorem vSlice_h (h2 : hi ≤ cap) (hs : spotOk z ⟨b, off, sp⟩ = true) : vSlice z (.slice (some ⟨b, off, sp⟩) len cap) none (some (.int k' (hi : Int))) none false = some (.slice (some ⟨b, off, sp⟩) hi cap) := by
  simp [vSlice, bounds_h h2, hs]
theorem vSlice_lhm (h1 : lo ≤ hi) (h2 : hi ≤ mx) (h3 : mx ≤ cap) (hs : spotOk z ⟨b, off, sp⟩ = true) : vSlice z (.slice (some ⟨b, off, sp⟩) len cap) (some (.int k (lo : Int))) (some (.int k' (hi : Int))) (some (.int k'' (mx : Int))) true = some (.slice (some ⟨b, off + lo * z, none⟩) (hi - lo) (mx - lo)) := by
  simp [vSlice, bounds_lhm h1 h2 h3, hs]
theorem spotOk_some : spotOk z ⟨b, off, some z⟩ = true := by simp [spotOk]
end
def vEqSl (neg : Bool) (x y : Value) : Option Value := match x, y with
  | .slice none _ _, .slice b _ _ => some (.bool (b.isNone != neg))
  | .slice (some _) _ _, .slice none _ _ => some (.bool (false != neg))
  | _, _ => none
def vClear (h : Heap) (z : Nat) (zero : List Value) (x : Value) : Option Heap := match x with
  | .slice none _ _ => some h
  | .slice (some a) n _ => if n = 0 then some h else match h.write { a with spot := none } (List.replicate n zero).flatten with
    | some h' => if zero.length = z then some h' else none
    | none => none
  | _ => none
section
variable {call : Caller} {fuel : Nat} {ar : Option Nat} {tm : List Value} {df : List Nat} {h : Heap} {K : List Fr} {r : List IOper} {d : Option Nat} {anc : List Nat} {bar : Bool}
theorem Y_clear (z : Nat) (zero : List Value) (x : Opd) : Y call fuel ar (⟨d, .clearSlice z zero x, none, anc, bar⟩ :: r) tm df h K = ZH call fuel ar (vClear h z zero (x.eval tm)) undefV d r tm df K := by
  have he : (IOp.clearSlice z zero x).exec call tm h = (match vClear h z zero (x.eval tm) with | some h' => .ret (undefV, h') | none => .fail) := by
    simp only [IOp.exec, IOp.run, vClear]
    generalize x.eval tm = v
    cases v <;> try rfl
    rename_i p n c
    cases p with
    | none => rfl
    | some a =>
      simp only []
      by_cases hn : n = 0
      · rw [if_pos hn, if_pos hn]
      · rw [if_neg hn, if_neg hn]
        cases h.write { a with spot := none } (List.replicate n zero).flatten with
        | none => rfl
        | some h' =>
          by_cases hz : zero.length = z
          · simp only [if_pos hz]
          · simp only [if_neg hz]
  rw [Y_op, he]
  cases vClear h z zero (x.eval tm) with
  | none => simp [Z, ZH, T.bind]
  | some h' => rw [Z_ret, ZH_some]
theorem E_eqSl (neg : Bool) (x y : Opd) : (.eqSlice neg x y : IOp).run tm h = T.ofOpt ((vEqSl neg (x.eval tm) (y.eval tm)).map fun v => (v, h)) := by
  simp only [IOp.run]
  generalize x.eval tm = v
  generalize y.eval tm = w
  cases v <;> try rfl
  rename_i p _ _
  cases p <;> cases w <;> try rfl
  rename_i q _ _
  cases q <;> rfl
theorem Y_eqSl (neg : Bool) (x y : Opd) : Y call fuel ar (⟨d, .eqSlice neg x y, none, anc, bar⟩ :: r) tm df h K = ZO call fuel ar (vEqSl neg (x.eval tm) (y.eval tm)) d r tm df h K := Y_read (by intro f a b; cases b) (E_eqSl ..)
theorem vEqSl_none (neg : Bool) (a b c e : Nat) : vEqSl neg (.slice none a b) (.slice none c e) = some (.bool (!neg)) := by cases neg <;> rfl
theorem vEqSl_some (neg : Bool) (p : Addr) (a b c e : Nat) : vEqSl neg (.slice (some p) a b) (.slice none c e) = some (.bool neg) := by cases neg <;> rfl
end
end Go.Ideal
namespace Go.Ideal
open Go
section
variable {α : Type} {z : Nat} {g : α → List Value} {h : Heap} {ro : Nat → Option (List Value × Nat)} {L : List Rs} {v : Value} {l : List α}
theorem Has.slrOpen (O : Has ro h (Slr z g v l :: L)) : (l = [] ∧ v = .slice none 0 0 ∧ Has ro h L) ∨ ∃ b c rest, v = .slice (some ⟨b, 0, some z⟩) l.length c ∧ l.length ≤ c ∧ rest.length = (c - l.length) * z ∧ Has ro h (Ob b (.cells (l.flatMap g ++ rest) z true) :: L) := by
  have O2 := O
  obtain ⟨f, e, S, g', S1, S2, e1, d, a, o⟩ := O
  rcases a with ⟨rfl, rfl, hs⟩ | ⟨b, c, rest, b1, b2, b3, b4, b6⟩
  · exact Or.inl ⟨rfl, rfl, O2.drop⟩
  · exact Or.inr ⟨b, c, rest, b1, b3, b4, f, e, S, g', S1, S2, e1, d, ⟨b2, b6⟩, o⟩
theorem Has.slrClose {b c : Nat} {rest : List Value} (hv : v = .slice (some ⟨b, 0, some z⟩) l.length c) (hc : l.length ≤ c) (hr : rest.length = (c - l.length) * z) (O : Has ro h (Ob b (.cells (l.flatMap g ++ rest) z true) :: L)) : Has ro h (Slr z g v l :: L) :=
  O.mono fun S a _ => Or.inr ⟨b, c, rest, hv, a.1, hc, hr, a.2⟩
theorem Has.slrVal (O : Has ro h L) (i : Nat) (hi : L[i]? = some (Slr z g v l)) : ∃ p c, v = .slice p l.length c ∧ (0 < l.length → ∃ b rest, p = some ⟨b, 0, some z⟩ ∧ h.get b = some (.cells (l.flatMap g ++ rest) z true) ∧ b % 2 = 0 ∧ b < 2 * h.next) := by
  rcases (O.at i hi).slrOpen with ⟨rfl, rfl, _⟩ | ⟨b, c, rest, b1, b2, b3, O2⟩
  · exact ⟨none, 0, rfl, fun h => by simp at h⟩
  · obtain ⟨q1, q2, q3, q4, q5⟩ := O2.info (i := 0) rfl
    exact ⟨_, c, b1, fun _ => ⟨b, rest, rfl, q1, q2, q4⟩⟩
end
end Go.Ideal
namespace Go.Ideal
open Go
set_option linter.all false
noncomputable def wk0 := (And.intro @exec_X (And.intro @kont_nil (And.intro @kont_code (And.intro @kont_code_exit (And.intro @kont_code_ret (And.intro @kont_blk (And.intro @kont_blk_ret (And.intro @kont_blk_exit (And.intro @kont_blk_other (And.intro @X_skip (And.intro @X_ret (And.intro @X_exit (And.intro @CK_bool (And.intro @GK_bool (And.intro @GK_tt (And.intro @GK_tf (And.intro @GK_ft (And.intro @GK_ff (And.intro @GK_undef (And.intro @Y_nil (And.intro @Y_guard (And.intro @Z_ret (And.intro @ZO_some (And.intro @ZH_some (And.intro @ZP_some (And.intro @Y_move (And.intro @Y_bin (And.intro @Y_call (And.intro @Y_func (And.intro @Y_pick (And.intro @Y_build (And.intro @Y_load1 (And.intro @Y_loadN (And.intro @Y_nilCheck (And.intro @Y_eqAgg (And.intro @Y_eqBool (And.intro @Y_eqPtr (And.intro @Y_conv (And.intro @Y_fieldAddr @Y_field1)))))))))))))))))))))))))))))))))))))))
noncomputable def wk1 := (And.intro @Y_fieldN (And.intro @Y_indexAddr (And.intro @Y_indexAddrArr (And.intro @Y_extract (And.intro @Y_lenSlice (And.intro @Y_minmax (And.intro @alloc_next (And.intro @alloc_floor (And.intro @alloc_may (And.intro @alloc_hid (And.intro @alloc_ro (And.intro @setB_next (And.intro @setB_floor (And.intro @setB_may (And.intro @setB_hid (And.intro @setB_ro (And.intro @get_alloc_new (And.intro @get_alloc_old (And.intro @get_setB_same (And.intro @get_setB_other (And.intro @alloc_fine (And.intro @setB_fine (And.intro @read_eq (And.intro @readC_cells (And.intro @write_eq (And.intro @writeC_cells (And.intro @canPut_new (And.intro @canPut_even (And.intro @ibin_add (And.intro @ibin_sub (And.intro @ibin_mul (And.intro @ibin_quo (And.intro @ibin_rem (And.intro @ibin_or (And.intro @ibin_eql (And.intro @ibin_neq (And.intro @ibin_lss (And.intro @ibin_leq (And.intro @ibin_gtr @ibin_geq)))))))))))))))))))))))))))))))))))))))
noncomputable def wk2 := (And.intro @iun_not (And.intro @iun_neg (And.intro @vPick_tt (And.intro @vPick_ff (And.intro @vPick_b (And.intro @vLoad1_ptr (And.intro @vLoadN_ptr (And.intro @vStore_ptr (And.intro @vFieldAddr_ptr (And.intro @vIndexAddr_slice (And.intro @vIndexAddrArr_ptr (And.intro @vConv_int (And.intro @vLenSlice_slice (And.intro @vField1_agg (And.intro @vExtract_tuple (And.intro @vNil_ptr (And.intro @vEqBool_b (And.intro @vMin2 (And.intro @vMax2 (And.intro @cellsOf_agg (And.intro @cellsOf_int (And.intro @cellsOf_bool (And.intro @eval_tmp (And.intro @eval_const (And.intro @putDst_some (And.intro @putDst_none (And.intro @Bool.not_true (And.intro @Bool.not_false (And.intro @decide_eq_true_eq (And.intro @decide_eq_false_iff_not (And.intro @decide_true (And.intro @decide_false (And.intro @Nat.zero_add (And.intro @Nat.add_zero (And.intro (@List.all_cons Value) (And.intro (@List.all_nil Value) (And.intro @Bool.and_true (And.intro @Bool.true_and (And.intro @Bool.and_self (@List.drop_zero Value))))))))))))))))))))))))))))))))))))))))
noncomputable def wk3 := (And.intro (@List.drop_succ_cons Value) (And.intro (@List.take_succ_cons Value) (And.intro (@List.take_zero Value) (And.intro @Bool.and_eq_true (And.intro @Bool.or_eq_true (And.intro @Bool.not_eq_true' (And.intro @not_true_eq_false (And.intro @not_false_eq_true (And.intro @and_true (And.intro @true_and (And.intro @and_false (And.intro @false_and (And.intro @Bool.not_eq_false' (And.intro @Bool.not_eq_true (And.intro @Int.toNat_zero (And.intro (@List.toList_toArray Value) (And.intro (@List.size_toArray Value) (And.intro @Nat.mul_mod_right (And.intro @Nat.lt_irrefl (And.intro @canPut_alloc (And.intro @canPut_setB (And.intro @expand_succ (And.intro @expand_zero (And.intro @D_nil (And.intro @D_guard (And.intro @DGK_bool (And.intro @DGK_undef (And.intro @DO_some (And.intro @DB_ret (And.intro @DF_ret (And.intro @D_move (And.intro @D_build (And.intro @D_bin (And.intro @D_un (And.intro @D_pick (And.intro @D_nilCheck (And.intro @D_eqAgg (And.intro @D_eqBool (And.intro @D_eqPtr @D_conv)))))))))))))))))))))))))))))))))))))))
noncomputable def wk4 := (And.intro @D_fieldAddr (And.intro @D_field1 (And.intro @D_fieldN (And.intro @D_indexAddr (And.intro @D_indexAddrArr (And.intro @D_extract (And.intro @D_lenSlice (And.intro @D_minmax (And.intro @D_load1B (And.intro @D_load1F (And.intro @D_loadNB (And.intro @D_loadNF (And.intro @D_callB (And.intro @D_callF (And.intro @seen0_next (And.intro @seen0_nil_get (And.intro @vEqPtr_some (And.intro @vBuild_def (And.intro (@List.set_nil Value) (And.intro @Bool.false_bne (And.intro @Bool.bne_false (And.intro @Bool.not_eq_eq_eq_not (And.intro @false_implies (And.intro (@List.append_nil Value) (And.intro @Bool.and_false (And.intro @Bool.false_and (And.intro @Bool.or_false (And.intro @Bool.or_true (And.intro @Bool.true_or (And.intro @Bool.false_or (And.intro @Bool.false_eq_true (And.intro @Y_lookup (And.intro @D_lookupB (And.intro @D_lookupF (And.intro @Y_mapUpdate (And.intro @DHB_some (And.intro @D_storeB (And.intro @Int.lt_irrefl (And.intro @Int.le_refl @Y_indexStr)))))))))))))))))))))))))))))))))))))))
noncomputable def wk5 := (And.intro @D_boxF (And.intro @D_boxB (And.intro @D_buildSliceF (And.intro @D_buildSliceB (And.intro @D_appendB (And.intro @DPF_some (And.intro @DPB_some (And.intro @Y_slice (And.intro @D_slice (And.intro @D_func (And.intro @D_makeMapF (And.intro @restored_nil (And.intro @seen0_keep (And.intro @Y_delete (And.intro @Y_lenMap (And.intro @D_lenMapB (And.intro @D_lenMapF (And.intro @Y_clear (And.intro @Y_eqSl (And.intro @vEqSl_none @vEqSl_some))))))))))))))))))))
noncomputable def wkD := (And.intro @alloc_fine (And.intro @setB_fine (And.intro @alloc_next (And.intro @alloc_floor (And.intro @setB_next (And.intro @setB_floor (And.intro @get_alloc_new (And.intro @get_setB_same (And.intro @Nat.mul_mod_right (And.intro (@List.all_cons Value) (And.intro (@List.all_nil Value) @Bool.and_self)))))))))))
noncomputable def wkE := (And.intro @alloc_next (And.intro @alloc_floor (And.intro @setB_next (And.intro @setB_floor (And.intro (@List.length_cons Value) (@List.length_nil Value))))))
end Go.Ideal
namespace Go.Ideal
open Go
section
variable {α : Type} {z : Nat} {g : α → List Value}
def Vw (z : Nat) (g : α → List Value) (h : Heap) (v : Value) (l : List α) : Prop := ∃ p c, v = .slice p l.length c ∧ l.length ≤ c ∧ (0 < l.length → ∃ (b off : Nat) (sp : Option Nat) (A B : List Value) (zz : Nat) (t : Bool), p = some ⟨b, off, sp⟩ ∧ (sp = none ∨ sp = some z) ∧ A.length = off ∧ h.get b = some (.cells (A ++ (l.flatMap g ++ B)) zz t) ∧ (b % 2 = 1 ∨ b < 2 * h.next))
variable {h h' : Heap} {v : Value} {l : List α} {ro : Nat → Option (List Value × Nat)} {L : List Rs}
theorem Vw.ext (V : Vw z g h v l) (e : Ext h h') : Vw z g h' v l := by
  obtain ⟨p, c, rfl, hc, k⟩ := V
  refine ⟨p, c, rfl, hc, fun h0 => ?_⟩
  obtain ⟨b, off, sp, A, B, zz, t, k1, k2, k3, k4, k5⟩ := k h0
  exact ⟨b, off, sp, A, B, zz, t, k1, k2, k3, (e.old b k5).trans k4, by have := e.next; omega⟩
theorem Vw.nil (h : Heap) (p : Option Addr) (c : Nat) : Vw z g h (.slice p 0 c) ([] : List α) := ⟨p, c, rfl, Nat.zero_le _, fun h => by simp at h⟩
theorem Has.vw (O : Has ro h L) (i : Nat) (hi : L[i]? = some (Sc z g v l)) : Vw z g h v l := by
  rcases (O.at i hi).scOpen with ⟨rfl, rfl, _⟩ | ⟨b, c, rest, sp, zz, t, b1, b2, b3, b4, O2⟩
  · exact Vw.nil _ _ _
  · obtain ⟨q1, q2, q3, q4, q5⟩ := O2.info (i := 0) rfl
    exact ⟨_, c, b1, b2, fun _ => ⟨b, 0, sp, [], rest, zz, t, rfl, by rcases b4 with ⟨e, _⟩ | e <;> simp [e], rfl, q1, Or.inr q4⟩⟩
theorem Has.vwa (O : Has ro h L) {p : Option Addr} {bb cap : Nat} {zz : Nat} {t : Bool} (hb : bb % 2 = 1) (hc : l.length ≤ cap) (hg : 0 < l.length → p = some ⟨bb, 0, none⟩ ∧ (fresh ro).get bb = some (.cells (l.flatMap g) zz t)) : Vw z g h (.slice p l.length cap) l :=
  ⟨p, cap, rfl, hc, fun h0 => ⟨bb, 0, none, [], [], zz, t, (hg h0).1, Or.inl rfl, rfl, by rw [List.append_nil]; exact O.odd hb (hg h0).2, Or.inl hb⟩⟩
theorem Vw.rd (V : Vw z g h v l) (hg : ∀ x, (g x).length = z) {i : Nat} {x : α} (hi : l[i]? = some x) : ∃ (b off : Nat) (sp : Option Nat) (c : Nat), v = .slice (some ⟨b, off, sp⟩) l.length c ∧ (∀ k m, k + m ≤ z → readC (h.get b) (off + i * z + k) m = readN (g x) k m) ∧ readC (h.get b) (off + i * z) z = some (g x) := by
  have hlt := (List.getElem?_eq_some_iff.1 hi).1
  obtain ⟨p, c, rfl, hc, k⟩ := V
  obtain ⟨b, off, sp, A, B, zz, t, rfl, k2, k3, k4, k5⟩ := k (by omega)
  have key : ∀ k m, k + m ≤ z → readC (h.get b) (off + i * z + k) m = readN (g x) k m := fun k m hk => by
    have hle : i * z + k + m ≤ l.length * z := by
      have : (i + 1) * z ≤ l.length * z := Nat.mul_le_mul_right z hlt
      rw [Nat.succ_mul] at this
      omega
    have hfl := flatMap_len hg l
    rw [← readN_flatMap hg l i x k m hi hk, k4]
    simp only [readC, readN]
    rw [if_pos (by rw [List.length_append, List.length_append]; omega), if_pos (by omega), show off + i * z + k = A.length + (i * z + k) by omega, ← List.drop_drop, List.drop_left, List.drop_append_of_le_length (by omega), List.take_append_of_le_length (by rw [List.length_drop]; omega)]
  refine ⟨b, off, sp, c, rfl, key, ?_⟩
  have := key 0 z (by omega)
  rw [Nat.add_zero] at this
  rw [this]
  have h0 := hg x
  simp only [readN]
  rw [if_pos (by omega), List.drop_zero, List.take_of_length_le (by omega)]
theorem Vw.firstN (V : Vw z g h v l) (hg : ∀ x, (g x).length = z) : firstN h z l.length v = some (l.flatMap g) := by
  obtain ⟨p, c, rfl, hc, k⟩ := V
  have hfl := flatMap_len hg l
  rcases Nat.eq_zero_or_pos l.length with e | e
  · have : l = [] := List.eq_nil_of_length_eq_zero e
    subst this
    cases p with
    | none => rfl
    | some a => rw [firstN_slice, if_pos (by simp)]; rfl
  · obtain ⟨b, off, sp, A, B, zz, t, rfl, k2, k3, k4, k5⟩ := k e
    rw [firstN_slice]
    by_cases h0 : l.length * z = 0
    · rw [if_pos h0]
      have : l.flatMap g = [] := List.eq_nil_of_length_eq_zero (by omega)
      rw [this]
    · rw [if_neg h0]
      show h.read ⟨b, off, none⟩ (l.length * z) = _
      rw [read_eq, k4]
      simp only [readC, readN]
      rw [if_pos (by rw [List.length_append, List.length_append]; omega), ← k3, List.drop_left, ← hfl, List.take_left']
      rfl
theorem Vw.len (V : Vw z g h v l) : ∃ p c, v = .slice p l.length c ∧ l.length ≤ c := by
  obtain ⟨p, c, hv, hc, _⟩ := V
  exact ⟨p, c, hv, hc⟩
theorem sc_appendV (hz : 0 < z) (hg : ∀ x, (g x).length = z) (hgo : ∀ x, (g x).all oneCell = true) {l' : List α} {v' : Value} {bytes : Nat} (O : Has ro h (Sc z g v l :: L)) (V : Vw z g h v' l') (hlen : (l.length + l'.length) * bytes ≤ roomMost) (hb1 : 1 ≤ bytes) :
    ∃ w h', iappend h z bytes v v' = some (w, h') ∧ Has ro h' (Sc z g w (l ++ l') :: L) := by
  refine sc_append hz hg hgo O ?_ (fun _ => V.firstN hg) hlen hb1
  obtain ⟨p, c, rfl, _⟩ := V.len
  rfl
theorem Has.one (O : Has ro h L) (i : Nat) {b zz : Nat} {t : Bool} {x : α} (hi : L[i]? = some (Ob b (.cells (g x) zz t))) : Vw z g h (.slice (some ⟨b, 0, none⟩) 1 1) [x] := by
  obtain ⟨q1, q2, q3, q4, q5⟩ := O.info hi
  exact ⟨_, 1, rfl, Nat.le_refl _, fun _ => ⟨b, 0, none, [], [], zz, t, rfl, Or.inl rfl, rfl, by simpa using q1, Or.inr q4⟩⟩
end
end Go.Ideal
namespace Go.Ideal
open Go
section
variable {call : Caller} {fuel : Nat} {ar : Option Nat} {tm : List Value} {df : List Nat} {h : Heap} {K : List Fr} {r : List IOper} {d : Option Nat} {anc : List Nat} {bar : Bool} {Q : IExit × St → Prop} {ro : Nat → Option (List Value × Nat)} {L : List Rs}
end
end Go.Ideal
namespace Go.Ideal
open Go
section
variable {call : Caller} {fuel : Nat} {ar : Option Nat} {tm : List Value} {df : List Nat} {h : Heap} {K : List Fr} {Q : IExit × St → Prop}
noncomputable def Goes (call : Caller) (as plan : List (List Nat)) (ops : List IOper) (i : Nat) (fr : List (Nat × Nat × Nat)) (tm : List Value) (h : Heap) : Prop := ∃ p, execDrawn call as plan ops i fr tm h = .ok p
theorem X_plain {env : Env} {n : Nat} {ops : List IOper} (plan : List (List Nat)) (hf : h.Fine) (hp : Goes (callV env n) (ops.map (·.anc)) plan ops 0 [] tm h) (hx : (Y (callV env n) fuel ar ops tm df h K).Is Q) : (X (callV env n) fuel ar (.drawn ops) tm df h K).Is Q := by
  obtain ⟨p, hp⟩ := hp
  obtain ⟨p', hp'⟩ := drawnRun_ok hp
  obtain ⟨plan2, e2⟩ := drawnRun_some hp'
  have e := drawn_plain (callV_le env n) (callV_keeps env n) _ plan2 ops _ _ _ h _ hf.1 e2
  unfold X
  simp only [exec, hp']
  unfold Y at hx
  rw [e] at hx
  exact hx
variable {as plan : List (List Nat)} {i : Nat} {fr : List (Nat × Nat × Nat)} {r : List IOper} {d : Option Nat} {anc : List Nat} {bar : Bool} {op : IOp}
theorem Goes.nil : Goes call as plan [] i fr tm h := ⟨_, rfl⟩
theorem Goes.pure {v : Value} {h' : Heap} (hp : op.isPure = true) (hr : op.run tm h = .ret (v, h')) (k : Goes call as plan r (i + 1) fr (putDst tm d v) h) : Goes call as plan (⟨d, op, none, anc, bar⟩ :: r) i fr tm h := by
  obtain ⟨p, k⟩ := k
  refine ⟨p, ?_⟩
  simp only [execDrawn, wants, if_true, hp, hr, T.out]
  exact k
theorem Goes.fixed {v : Value} {h' : Heap} (hp : op.isPure = false) (hr : op.exec call tm h = .ret (v, h')) (k : Goes call as plan r (i + 1) [] (putDst tm d v) h') : Goes call as plan (⟨d, op, none, anc, true⟩ :: r) i fr tm h := by
  obtain ⟨p, k⟩ := k
  refine ⟨p, ?_⟩
  simp only [execDrawn, wants, if_true, hp, hr, T.out, Bool.false_eq_true, if_false]
  exact k
theorem Goes.free {v : Value} {h' : Heap} (hp : op.isPure = false) (hr : op.exec call tm (seenBy as plan i fr h) = .ret (v, h')) (k : Goes call as plan r (i + 1) (if h.next < h'.next then (i, h.next, h'.next) :: fr else fr) (putDst tm d v) { h' with floor := h.floor, may := h.may, hid := h.hid }) : Goes call as plan (⟨d, op, none, anc, false⟩ :: r) i fr tm h := by
  obtain ⟨p, k⟩ := k
  refine ⟨p, ?_⟩
  simp only [execDrawn, wants, if_true, hp, hr, T.out, Bool.false_eq_true, if_false]
  exact k
end
section
variable {env : Env} {n fuel : Nat} {ar : Option Nat} {as plan : List (List Nat)} {i : Nat} {fr : List (Nat × Nat × Nat)} {tm : List Value} {df : List Nat} {h : Heap} {K : List Fr} {Q : IExit × St → Prop} {r : List IOper} {d : Option Nat} {anc : List Nat} {bar : Bool} {op : IOp} {v : Value}
structure Dp (env : Env) (n fuel : Nat) (ar : Option Nat) (as plan : List (List Nat)) (ops : List IOper) (i : Nat) (fr : List (Nat × Nat × Nat)) (tm : List Value) (df : List Nat) (h : Heap) (K : List Fr) (Q : IExit × St → Prop) : Prop where
  goes : Goes (callV env n) as plan ops i fr tm h
  runs : (Y (callV env n) fuel ar ops tm df h K).Is Q
theorem X_plan {ops : List IOper} (plan : List (List Nat)) (hf : h.Fine) (k : Dp env n fuel ar (ops.map (·.anc)) plan ops 0 [] tm df h K Q) : (X (callV env n) fuel ar (.drawn ops) tm df h K).Is Q := X_plain plan hf k.goes k.runs
theorem Dp.nil (k : (kont (callV env n) fuel ar K (.normal, ⟨tm, df, h⟩)).Is Q) : Dp env n fuel ar as plan [] i fr tm df h K Q := ⟨Goes.nil, by rw [Y_nil]; exact k⟩
theorem Dp.pure (hp : op.isPure = true) (hr : op.run tm h = .ret (v, h)) (k : Dp env n fuel ar as plan r (i + 1) fr (putDst tm d v) df h K Q) : Dp env n fuel ar as plan (⟨d, op, none, anc, bar⟩ :: r) i fr tm df h K Q := by
  refine ⟨Goes.pure hp hr k.goes, ?_⟩
  have e : op.exec (callV env n) tm h = .ret (v, h) := by
    rcases exec_eq (callV env n) tm h op with ⟨f, as, rfl⟩ | e
    · cases hp
    · rw [e]; exact hr
  rw [Y_op, e, Z_ret]
  exact k.runs
theorem Dp.move {x : Opd} (k : Dp env n fuel ar as plan r (i + 1) fr (putDst tm d (x.eval tm)) df h K Q) : Dp env n fuel ar as plan (⟨d, .move x, none, anc, bar⟩ :: r) i fr tm df h K Q := Dp.pure rfl rfl k
theorem seen_next : (seenBy as plan i fr h).next = h.next := rfl
theorem seen_get {b : Nat} (h1 : ∀ k, unord as i k = true → b / 2 ∉ plan.getD k []) (h2 : ∀ x ∈ fr, b / 2 < x.2.1 ∨ x.2.2 ≤ b / 2) : (seenBy as plan i fr h).get b = h.get b := by
  unfold Heap.get
  by_cases he : b % 2 = 1
  · rw [if_pos he, if_pos he]; rfl
  · rw [if_neg he, if_neg he]
    have hh : hides (seenBy as plan i fr h).hid (b / 2) = hides h.hid (b / 2) := by
      simp only [seenBy, hides, List.any_append]
      have e1 : (((fr.filter fun x => !(as.getD i []).contains x.1).map (·.2)).any fun p => decide (p.1 ≤ b / 2) && decide (b / 2 < p.2)) = false := by
        rw [List.any_eq_false]
        intro p hp
        rw [List.mem_map] at hp
        obtain ⟨x, hx, rfl⟩ := hp
        have := h2 x (List.mem_filter.1 hx).1
        simp only [Bool.and_eq_true, decide_eq_true_eq]
        omega
      have e2 : (((List.range plan.length).flatMap fun k => if unord as i k then ((plan.getD k []).filter fun x => decide (x < h.next)).map fun x => (x, x + 1) else []).any fun p => decide (p.1 ≤ b / 2) && decide (b / 2 < p.2)) = false := by
        rw [List.any_eq_false]
        intro p hp
        rw [List.mem_flatMap] at hp
        obtain ⟨k, _, hk⟩ := hp
        split at hk
        · rename_i hu
          rw [List.mem_map] at hk
          obtain ⟨x, hx, rfl⟩ := hk
          have hx1 := (List.mem_filter.1 hx).1
          simp only [Bool.and_eq_true, decide_eq_true_eq]
          intro hc
          have : x = b / 2 := by omega
          exact h1 k hu (this ▸ hx1)
        · cases hk
      rw [e1, e2]; rfl
    unfold Heap.own
    rw [hh]
    rfl
theorem Dp.callFree {f : Opd} {xs : List Opd} {R : Value × Heap → Prop} (hf : h.Fine) (hs : (callV env n (f.eval tm) (xs.map (Opd.eval tm)) (seenBy as plan i fr h)).Is fun _ => True) (hu : (callV env n (f.eval tm) (xs.map (Opd.eval tm)) h).Is R)
    (k : ∀ v h', R (v, h') → Dp env n fuel ar as plan r (i + 1) (if h.next < h'.next then (i, h.next, h'.next) :: fr else fr) (putDst tm d v) df h' K Q) : Dp env n fuel ar as plan (⟨d, .call f xs, none, anc, false⟩ :: r) i fr tm df h K Q := by
  obtain ⟨⟨v, h'⟩, e1, hR⟩ := hu.ex
  obtain ⟨⟨v2, h2⟩, e2, _⟩ := hs.ex
  obtain ⟨h3, e3, l⟩ := callV_le env n _ _ _ _ _ _ (seen_self as plan i fr hf.1) hf.1 e2
  rw [e1] at e3
  cases e3
  have kp : Keeps h h' := by
    have := callV_keeps env n (f.eval tm) (xs.map (Opd.eval tm)) h
    rw [e1] at this
    exact this
  have e4 : ({ h2 with floor := h.floor, may := h.may, hid := h.hid } : Heap) = h' := same_heap ⟨l.next, l.mem, l.ro, fun k h => by rw [kp.floor, kp.may]; exact h, fun k h => by rw [kp.hid] at h; exact h⟩ kp.floor.symm kp.may.symm kp.hid.symm
  have K1 := k _ _ hR
  refine ⟨Goes.free rfl e2 ?_, ?_⟩
  · rw [e4, l.next]
    exact K1.goes
  · rw [Y_op]
    show (Z _ _ _ (callV env n (f.eval tm) (xs.map (Opd.eval tm)) h) d r tm df K).Is Q
    rw [e1, Z_ret]
    exact K1.runs
end
end Go.Ideal
namespace Go.Ideal
open Go Go.RowKit Go.ChangeShapes
def pr (a b : Nat) : Nat := 2 ^ a * (2 * b + 1)
theorem pr_inj : ∀ {a b c d : Nat}, pr a b = pr c d → a = c ∧ b = d
  | 0, b, 0, d, h => by unfold pr at h; omega
  | 0, b, c + 1, d, h => by
    unfold pr at h
    rw [Nat.pow_succ, Nat.mul_comm (2 ^ c) 2, Nat.mul_assoc] at h
    omega
  | a + 1, b, 0, d, h => by
    unfold pr at h
    rw [Nat.pow_succ, Nat.mul_comm (2 ^ a) 2, Nat.mul_assoc] at h
    omega
  | a + 1, b, c + 1, d, h => by
    have h2 : pr a b = pr c d := by
      unfold pr at h ⊢
      rw [Nat.pow_succ, Nat.pow_succ, Nat.mul_comm (2 ^ a) 2, Nat.mul_comm (2 ^ c) 2, Nat.mul_assoc, Nat.mul_assoc] at h
      omega
    obtain ⟨rfl, rfl⟩ := pr_inj h2
    exact ⟨rfl, rfl⟩
def pr4 (b o n t : Nat) : Nat := pr b (pr o (pr n t))
theorem pr4_inj {b o n t b' o' n' t' : Nat} (h : pr4 b o n t = pr4 b' o' n' t') : b = b' ∧ o = o' ∧ n = n' ∧ t = t' := by
  obtain ⟨h1, h2⟩ := pr_inj h
  obtain ⟨h3, h4⟩ := pr_inj h2
  obtain ⟨h5, h6⟩ := pr_inj h4
  exact ⟨h1, h3, h5, h6⟩
inductive DK where
  | flat (k : FK)
  | slice (e : TypeId)
def Fits2 (p : DK → Value → Prop) : List DK → List Value → Prop
  | [], [] => True
  | k :: ks, v :: vs => p k v ∧ Fits2 p ks vs
  | _, _ => False
section
variable {p q : DK → Value → Prop}
theorem Fits2.length : ∀ {ks : List DK} {vs : List Value}, Fits2 p ks vs → vs.length = ks.length
  | [], [], _ => rfl
  | _ :: _, _ :: _, h => by simp [Fits2.length h.2]
  | [], _ :: _, h => h.elim
  | _ :: _, [], h => h.elim
theorem Fits2.append : ∀ {ks ks' : List DK} {vs vs' : List Value}, Fits2 p ks vs → Fits2 p ks' vs' → Fits2 p (ks ++ ks') (vs ++ vs')
  | [], _, [], _, _, h' => h'
  | _ :: _, _, _ :: _, _, h, h' => ⟨h.1, Fits2.append h.2 h'⟩
  | [], _, _ :: _, _, h, _ => h.elim
  | _ :: _, _, [], _, h, _ => h.elim
theorem fits2_pieces : ∀ (kss : List (List DK)) (cs : List Value) (o : Nat), (∀ i ks, kss[i]? = some ks → Fits2 p ks ((cs.drop (o + ((kss.take i).map List.length).sum)).take ks.length)) → cs.length = o + (kss.map List.length).sum → Fits2 p kss.flatten (cs.drop o)
  | [], cs, o, _, hl => by
    have : cs.drop o = [] := by simp at hl ⊢; omega
    rw [this]; exact trivial
  | ks :: kss, cs, o, h, hl => by
    have h0 := h 0 ks rfl
    simp only [List.take_zero, List.map_nil, List.sum_nil, Nat.add_zero] at h0
    have ih := fits2_pieces kss cs (o + ks.length) (fun i x hx => by
      have := h (i + 1) x (by simpa using hx)
      simp only [List.take_succ_cons, List.map_cons, List.sum_cons] at this
      rw [← Nat.add_assoc] at this
      exact this) (by simp only [List.map_cons, List.sum_cons] at hl; omega)
    rw [List.flatten_cons, ← List.take_append_drop ks.length (cs.drop o), List.drop_drop]
    exact h0.append ih
end
noncomputable def dkOf (P : Program) : Nat → TypeId → Option (List DK)
  | 0, _ => none
  | n + 1, t =>
    match P.underlying t with
    | some .bool => some [.flat .bool]
    | some (.int k) => some [.flat (.int k)]
    | some (.slice e) => some [.slice e]
    | some (.array m e) => match dkOf P n e with
      | some ks => if P.cellsOf e = ks.length ∧ P.cellsOf t = m * ks.length then some (List.replicate m ks).flatten else none
      | none => none
    | some (.struct fs) => match fs.toList.mapM (fun f => dkOf P n f.type) with
      | some kss => if (fs.toList.zip kss).all (fun p => P.cellsOf p.1.type == p.2.length) ∧ (fs.toList.zipIdx.all fun p => p.1.offset == ((kss.take p.2).map List.length).sum) ∧ P.cellsOf t = (kss.map List.length).sum then some kss.flatten else none
      | none => none
    | _ => none
section
variable {P : Program} {H : Type} {enc : TypeId × Value → H} {W : World}
theorem trod_fits2 {p : DK → Value → Prop} {b : Nat} {sp : Nat → Bool} {hd : Bool} (hflat : ∀ k v, k.fits v → p (.flat k) v)
    (hslice : ∀ (t e : TypeId) (fuel : Nat) (v : Value) (x : DataW H × List MemPlace), P.underlying t = some (.slice e) → DataW.trod enc P W b sp hd fuel t [v] = some x → p (.slice e) v) :
    ∀ {n fuel : Nat} {t : TypeId} {x : DataW H × List MemPlace} {cs : List Value} {ks : List DK}, DataW.trod enc P W b sp hd fuel t cs = some x → dkOf P n t = some ks → Fits2 p ks cs
  | 0, _, _, _, _, _, _, h => by simp [dkOf] at h
  | n + 1, 0, _, _, _, _, h, _ => by simp [DataW.trod] at h
  | n + 1, fuel + 1, t, x, cs, ks, h, hk => by
    simp only [dkOf] at hk
    split at hk
    · rename_i hu
      cases hk
      simp only [DataW.trod, hu] at h
      split at h <;> first | (rename_i e _; cases e; done) | (cases h; done) | skip
      all_goals (rename_i e; cases e)
      all_goals exact ⟨hflat _ _ ⟨_, rfl⟩, trivial⟩
    · rename_i k hu
      cases hk
      simp only [DataW.trod, hu] at h
      split at h <;> first | (rename_i e _; cases e; done) | (cases h; done) | skip
      all_goals (rename_i e; cases e)
      split at h
      · rename_i hc
        obtain ⟨rfl, hw⟩ := hc
        simp only [Lit.wf, Bool.and_eq_true, decide_eq_true_eq] at hw
        exact ⟨hflat _ _ ⟨_, rfl, hw.1, hw.2⟩, trivial⟩
      · cases h
    · rename_i e hu
      cases hk
      rcases Go.Deep.open_slice hu h with ⟨rfl, _⟩ | ⟨a, len, cap, _, _, _, _, rfl, _⟩
      · exact ⟨hslice t e _ _ _ hu h, trivial⟩
      · exact ⟨hslice t e _ _ _ hu h, trivial⟩
    · rename_i m e hu
      simp only [DataW.trod, hu] at h
      split at h
      · rename_i hlen
        simp only [Option.map_eq_some_iff] at h
        obtain ⟨xs, hxs, _⟩ := h
        obtain ⟨x1, x2⟩ := mapM_some hxs
        split at hk
        · rename_i ke hke
          split at hk
          · rename_i hc
            obtain ⟨c1, c2⟩ := hc
            cases hk
            have hsum : ∀ j, j ≤ m → (((List.replicate m ke).take j).map List.length).sum = j * ke.length := by
              intro j hj
              rw [List.take_replicate, Nat.min_eq_left hj, List.map_replicate, List.sum_replicate_nat]
            have hp := fits2_pieces (p := p) (List.replicate m ke) cs 0 (fun i ks hi => ?_) (by
              have := hsum m (Nat.le_refl _)
              rw [List.take_of_length_le (by simp)] at this
              rw [this, hlen, c2]; omega)
            · simpa using hp
            · rw [List.getElem?_replicate] at hi
              split at hi
              · rename_i him
                cases hi
                rw [Nat.zero_add, hsum i (Nat.le_of_lt him)]
                obtain ⟨y, e1, e2⟩ := x2 i i (List.getElem?_range him)
                have := trod_fits2 hflat hslice (n := n) e2 hke
                rwa [c1] at this
              · cases hi
          · cases hk
        · cases hk
      · cases h
    · rename_i fs hu
      simp only [DataW.trod, hu] at h
      split at h
      · rename_i hlen
        simp only [Option.map_eq_some_iff] at h
        obtain ⟨xs, hxs, _⟩ := h
        obtain ⟨x1, x2⟩ := mapM_some hxs
        split at hk
        · rename_i kss hkss
          obtain ⟨k1, k2⟩ := mapM_some hkss
          split at hk
          · rename_i hc
            obtain ⟨hsz, hoff, hall⟩ := hc
            cases hk
            have hp := fits2_pieces (p := p) kss cs 0 (fun i ks hi => ?_) (by rw [Nat.zero_add, hlen, hall])
            · simpa using hp
            · have hil := (List.getElem?_eq_some_iff.1 hi).1
              have hif : i < fs.size := by rw [k1, Array.length_toList] at hil; exact hil
              have hfi : fs.toList[i]? = some fs[i] := by simp [hif]
              obtain ⟨y, e1, e2⟩ := x2 i fs[i] hfi
              obtain ⟨ks', e3, e4⟩ := k2 i fs[i] hfi
              rw [hi] at e3; cases e3
              have ih := trod_fits2 hflat hslice (n := n) e2 e4
              have hz : P.cellsOf fs[i].type = ks.length := by
                have := List.all_eq_true.1 hsz (fs[i], ks) (List.mem_of_getElem? (i := i) (by rw [List.getElem?_zip_eq_some]; exact ⟨hfi, hi⟩))
                simpa using this
              have ho : fs[i].offset = ((kss.take i).map List.length).sum := by
                have := List.all_eq_true.1 hoff (fs[i], i) (List.mem_of_getElem? (i := i) (by rw [List.getElem?_zipIdx, hfi]; simp))
                simpa using this
              rw [Nat.zero_add, ← ho, ← hz]
              exact ih
          · cases hk
        · cases hk
      · cases h
    · cases hk
def SFit (P : Program) : DK → Value → Prop
  | .flat k, v => k.fits v
  | .slice e, v => v = .slice none 0 0 ∨ ∃ a len cap, v = .slice (some a) len cap ∧ len ≤ cap ∧ cap ≤ maxLen ∧ (cap = 0 ∨ a.spot = none ∨ P.cellsOf e = 0)
def IsS (P : Program) (W : World) (x : Nat) (s : Nat × Nat × List DK × List Value) : Prop := ∃ (n t : Nat) (C : Array Value) (e : TypeId) (fr : Nat × Nat) (ks : List DK), x = pr4 s.1 s.2.1 n t ∧ W.heap[s.1]? = some (.cells C e fr) ∧ dkOf P 8 t = some ks ∧ P.cellsOf t = ks.length ∧ 0 < n ∧ 0 < ks.length ∧ readN C.toList s.2.1 (n * ks.length) = some s.2.2.2 ∧ s.2.2.1 = (List.replicate n ks).flatten ∧ Fits2 (SFit P) s.2.2.1 s.2.2.2
theorem IsS.unique {x : Nat} {s s' : Nat × Nat × List DK × List Value} (h : IsS P W x s) (h' : IsS P W x s') : s = s' := by
  obtain ⟨b, o, k, c⟩ := s
  obtain ⟨b', o', k', c'⟩ := s'
  obtain ⟨n, t, C, e, fr, ks, a1, a2, a3, aw, a4, a5, a6, a7, a8⟩ := h
  obtain ⟨n', t', C', e', fr', ks', b1, b2, b3, bw, b4, b5, b6, b7, b8⟩ := h'
  rw [a1] at b1
  obtain ⟨h1, h2, h3, h4⟩ := pr4_inj b1
  simp only at *
  subst h1 h2 h3 h4
  rw [a2] at b2; cases b2
  rw [a3] at b3; cases b3
  rw [a6] at b6; cases b6
  rw [a7, b7]
open Classical in
noncomputable def stret (P : Program) (W : World) (x : Nat) : Option (Nat × Nat × List DK × List Value) := if h : ∃ s, IsS P W x s then some (Classical.choose h) else none
theorem stret_eq {x : Nat} {s : Nat × Nat × List DK × List Value} (h : IsS P W x s) : stret P W x = some s := by
  unfold stret
  have he : ∃ s, IsS P W x s := ⟨s, h⟩
  rw [dif_pos he]
  exact congrArg some ((Classical.choose_spec he).unique h)
theorem stret_is {x : Nat} {s : Nat × Nat × List DK × List Value} (h : stret P W x = some s) : IsS P W x s := by
  unfold stret at h
  split at h
  · rename_i he
    cases h
    exact Classical.choose_spec he
  · cases h
noncomputable def upD (N : Nat) : DK → Value → Value
  | .slice e, .slice (some a) len cap => .slice (some ⟨2 * (N + pr4 a.block a.off len e) + 1, 0, none⟩) len cap
  | _, v => v
noncomputable def upDs (N : Nat) : List DK → List Value → List Value
  | k :: ks, v :: vs => upD N k v :: upDs N ks vs
  | _, _ => []
theorem upDs_get (N : Nat) : ∀ {ks : List DK} {vs : List Value} {p : DK → Value → Prop}, Fits2 p ks vs → ∀ {i : Nat} {v : Value}, (upDs N ks vs)[i]? = some v → ∃ k v', ks[i]? = some k ∧ vs[i]? = some v' ∧ v = upD N k v' ∧ p k v'
  | [], [], _, _, i, v, h => by simp [upDs] at h
  | k :: ks, v' :: vs, _, f, 0, v, h => by simp [upDs] at h; exact ⟨k, v', rfl, rfl, h.symm, f.1⟩
  | k :: ks, v' :: vs, _, f, i + 1, v, h => by simp [upDs] at h; simpa using upDs_get N f.2 h
  | [], _ :: _, _, f, _, _, _ => f.elim
  | _ :: _, [], _, f, _, _, _ => f.elim
theorem upDs_len (N : Nat) : ∀ {ks : List DK} {vs : List Value} {p : DK → Value → Prop}, Fits2 p ks vs → (upDs N ks vs).length = vs.length
  | [], [], _, _ => rfl
  | _ :: _, _ :: _, _, h => by simp [upDs, upDs_len N h.2]
  | [], _ :: _, _, h => h.elim
  | _ :: _, [], _, h => h.elim
theorem upDs_fits (N : Nat) {q : DK → Value → Prop} : ∀ {ks : List DK} {vs : List Value}, Fits2 (fun k v => q k (upD N k v)) ks vs → Fits2 q ks (upDs N ks vs)
  | [], [], _ => trivial
  | _ :: _, _ :: _, h => ⟨h.1, upDs_fits N h.2⟩
  | [], _ :: _, h => h.elim
  | _ :: _, [], h => h.elim
noncomputable def roD (P : Program) (W : World) (x : Nat) : Option (List Value × Nat) :=
  if x < max W.heap.size P.globals.size then roC W x else (stret P W (x - max W.heap.size P.globals.size)).map fun s => (upDs (max W.heap.size P.globals.size) s.2.2.1 s.2.2.2, 1)
noncomputable def renD (P : Program) (W : World) (x : Nat) : Stat :=
  if x % 2 = 1 then
    if x / 2 < max W.heap.size P.globals.size then (match roC W (x / 2) with
      | some p => .live ⟨x / 2, 0, 1, p.1.length, 0⟩
      | none => .dead)
    else match stret P W (x / 2 - max W.heap.size P.globals.size) with
      | some s => .live ⟨s.1, s.2.1, 1, s.2.2.2.length, 0⟩
      | none => .dead
  else .unborn
theorem renD_at (x : Nat) : renD P W (2 * (max W.heap.size P.globals.size + x) + 1) = match stret P W x with | some s => .live ⟨s.1, s.2.1, 1, s.2.2.2.length, 0⟩ | none => .dead := by
  unfold renD
  rw [if_pos (by omega), if_neg (by omega), show (2 * (max W.heap.size P.globals.size + x) + 1) / 2 - max W.heap.size P.globals.size = x by omega]
theorem roD_at (x : Nat) : roD P W (max W.heap.size P.globals.size + x) = (stret P W x).map fun s => (upDs (max W.heap.size P.globals.size) s.2.2.1 s.2.2.2, 1) := by
  unfold roD
  rw [if_neg (by omega), Nat.add_sub_cancel_left]
theorem upD_rel {k : DK} {v : Value} (h : SFit P k v) : VR (renD P W) (upD (max W.heap.size P.globals.size) k v) v := by
  cases k with
  | flat k =>
    have e : upD (max W.heap.size P.globals.size) (.flat k) v = v := by cases v <;> rfl
    rw [e]
    exact FK.fits_rel h _
  | slice e =>
    rcases h with rfl | ⟨a, len, cap, rfl, h1, h2, h3⟩
    · exact .sliceNil
    · refine .slice h1 ?_
      unfold SR
      rw [renD_at]
      cases hs : stret P W (pr4 a.block a.off len e) with
      | none => simp
      | some s =>
        obtain ⟨n, t, C, e', fr, ks, a1, a2, a3, aw, a4, a5, _⟩ := stret_is hs
        obtain ⟨e1, e2, _, e4⟩ := pr4_inj a1
        refine ⟨Or.inl rfl, by simp, ?_⟩
        rcases h3 with h3 | h3 | h3
        · exact Or.inl h3
        rotate_left
        · rw [e4] at h3; omega
        · right
          obtain ⟨ab, ao, as⟩ := a
          simp only at h3 e1 e2 ⊢
          subst h3
          rw [e1, e2, Nat.add_zero]
theorem upDs_rel : ∀ {ks : List DK} {vs : List Value}, Fits2 (SFit P) ks vs → VRs (renD P W) (upDs (max W.heap.size P.globals.size) ks vs) vs
  | [], [], _ => .nil
  | _ :: _, _ :: _, h => .cons (upD_rel h.1) (upDs_rel h.2)
  | [], _ :: _, h => h.elim
  | _ :: _, [], h => h.elim
theorem here_deep (M : Nat) : Here P W.heap.size M (renD P W) (fresh (roD P W)) W := by
  have hev : ∀ b, b % 2 = 0 → renD P W b = .unborn := fun b hb => by unfold renD; rw [if_neg (by omega)]
  have hget : ∀ b, b % 2 = 0 → (fresh (roD P W)).get b = none := fun b hb => by
    unfold Heap.get Heap.own; simp [hb, fresh, look, hides]
  refine ⟨⟨fun b o hb => ?_, fun k _ _ => hev _ (by omega), fun b L he hb => ?_, fun b L ho hb => ?_, fun b c L K he _ _ hb => ?_, Nat.le_refl _, fun p hp => by cases hp⟩, fun g hg => ?_, fun k _ => rfl⟩
  · rcases Nat.mod_two_eq_zero_or_one b with he | ho
    · rw [hget b he] at hb; cases hb
    · unfold Heap.get at hb
      simp only [ho, if_true, fresh, roD] at hb
      by_cases hl : b / 2 < max W.heap.size P.globals.size
      · rw [if_pos hl] at hb
        cases hs : roC W (b / 2) with
        | none => rw [hs] at hb; cases hb
        | some p =>
          rw [hs] at hb
          cases hb
          obtain ⟨C, e, fr, a1, a2, a3⟩ := roC_in hs
          refine ⟨⟨b / 2, 0, 1, p.1.length, 0⟩, by unfold renD; rw [if_pos ho, if_pos hl, hs], rfl, ?_, C, e, fr, a1, by simp only; omega, fun i v hv => ?_, fun h2 => by omega⟩
          · unfold roC at hs
            split at hs
            · rename_i q hq
              split at hs
              · cases hs
                unfold roW at hq
                split at hq
                · split at hq <;> cases hq
                  rfl
                · cases hq
              · cases hs
            · cases hs
          · obtain ⟨v', b1, b2⟩ := a3 i v hv
            exact ⟨v', by simpa using b1, b2 _⟩
      · rw [if_neg hl] at hb
        cases hs : stret P W (b / 2 - max W.heap.size P.globals.size) with
        | none => rw [hs] at hb; cases hb
        | some s =>
          rw [hs] at hb
          cases hb
          obtain ⟨n, t, C, e, fr, ks, a1, a2, a3, aw, a4, a5, a6, a7, a8⟩ := stret_is hs
          have hul := upDs_len (max W.heap.size P.globals.size) a8
          unfold readN at a6
          split at a6
          · rename_i hle
            simp only [Option.some.injEq] at a6
            have hlc : s.2.2.2.length = n * ks.length := by
              rw [← a6, List.length_take, List.length_drop]
              omega
            refine ⟨⟨s.1, s.2.1, 1, s.2.2.2.length, 0⟩, by unfold renD; rw [if_pos ho, if_neg hl, hs], hul.symm, rfl, C, e, fr, a2, by
              rw [Array.length_toList] at hle
              rw [hlc]; exact hle, fun i v hv => ?_, fun h2 => by omega⟩
            obtain ⟨k, v', k1, k2, rfl, k4⟩ := upDs_get _ a8 hv
            refine ⟨v', ?_, upD_rel k4⟩
            rw [← a6, List.getElem?_take] at k2
            split at k2
            · rw [List.getElem?_drop] at k2
              simpa using k2
            · cases k2
          · cases a6
  · rw [hev b he] at hb; cases hb
  · unfold renD at hb
    rw [if_pos ho] at hb
    split at hb
    · split at hb
      · rename_i p hp
        cases hb
        obtain ⟨C, e, fr, a1, _⟩ := roC_in hp
        exact lt_of_heap a1
      · cases hb
    · split at hb
      · rename_i s hs
        cases hb
        obtain ⟨n, t, C, e, fr, ks, a1, a2, _⟩ := stret_is hs
        exact lt_of_heap a2
      · cases hb
  · rw [hev b he] at hb; cases hb
  · unfold PR renD
    rw [if_pos (by omega), if_pos (by omega), show (2 * g + 1) / 2 = g by omega]
    cases roC W g <;> simp
def DFit (P : Program) (ro : Nat → Option (List Value × Nat)) : Nat → DK → Value → Prop
  | _, .flat k, v => k.fits v
  | 0, .slice _, _ => True
  | n + 1, .slice e, v => v = .slice none 0 0 ∨ ∃ x len cap, v = .slice (some ⟨2 * x + 1, 0, none⟩) len cap ∧ len ≤ cap ∧ cap ≤ maxLen ∧
      (0 < len → ∀ ks, dkOf P 8 e = some ks → P.cellsOf e = ks.length → 0 < ks.length → ∃ cells, ro x = some (cells, 1) ∧ Fits2 (DFit P ro n) (List.replicate len ks).flatten cells)
theorem slice_elems {p : DK → Value → Prop} {b : Nat} {sp : Nat → Bool} {hd : Bool} {e : TypeId} {ks : List DK} {a : Addr} {len cap n : Nat} {D : Nat → DataW H} {Pl : Nat → List MemPlace} (hks : dkOf P 8 e = some ks) (hsz : P.cellsOf e = ks.length) (hpos : 0 < ks.length) (h0 : 0 < len) (hl : len ≤ cap)
    (hx : ∀ i, i < cap → ∃ cs', W.cells? b (a.add (i * P.cellsOf e)) (P.cellsOf e) = some cs' ∧ DataW.trod enc P W b sp hd n e cs' = some (D i, Pl i))
    (hflat : ∀ k v, k.fits v → p (.flat k) v) (hslice : ∀ (t e : TypeId) (fuel : Nat) (v : Value) (x : DataW H × List MemPlace), P.underlying t = some (.slice e) → DataW.trod enc P W b sp hd fuel t [v] = some x → p (.slice e) v) :
    ∃ (C : Array Value) (et : TypeId) (fr : Nat × Nat) (cells : List Value), W.heap[a.block]? = some (.cells C et fr) ∧ a.spot = none ∧ readN C.toList a.off (len * ks.length) = some cells ∧ Fits2 p (List.replicate len ks).flatten cells := by
  rw [hsz] at hx
  have hcells : ∀ i, i < cap → ∃ cs', cs'.length = ks.length ∧ Fits2 p ks cs' ∧ ∀ q, q < ks.length → W.cell? ((a.add (i * ks.length)).add q) = cs'[q]? := fun i hi => by
    obtain ⟨cs', h1, h2⟩ := hx i hi
    obtain ⟨_, h3, h4⟩ := World.cells?_some h1
    exact ⟨cs', h3, trod_fits2 hflat hslice h2 hks, h4⟩
  have hfirst : ∃ (C : Array Value) (e : TypeId) (fr : Nat × Nat), W.heap[a.block]? = some (.cells C e fr) ∧ a.spot = none := by
    obtain ⟨cs', h1, h2, h3⟩ := hcells 0 (by omega)
    have h4 := h3 0 hpos
    simp only [Nat.zero_mul, Addr.add, if_true] at h4
    rw [List.getElem?_eq_getElem (by omega)] at h4
    unfold World.cell? at h4
    split at h4
    · rename_i C e fr hC
      split at h4
      · cases h4
      · rename_i hs
        exact ⟨C, e, fr, hC, by simpa using hs⟩
    · cases h4
  obtain ⟨C, et, fr, hC, hs⟩ := hfirst
  have hget : ∀ i, i < cap → Fits2 p ks ((C.toList.drop (a.off + i * ks.length)).take ks.length) := fun i hi => by
    obtain ⟨cs', h1, h2, h3⟩ := hcells i hi
    have : (C.toList.drop (a.off + i * ks.length)).take ks.length = cs' := by
      refine List.ext_getElem? fun q => ?_
      rw [List.getElem?_take]
      split
      · rename_i hq
        rw [← h3 q hq, List.getElem?_drop]
        have e1 : ((a.add (i * ks.length)).add q) = ⟨a.block, a.off + i * ks.length + q, none⟩ := by
          obtain ⟨ab, ao, as⟩ := a
          simp only at hs
          subst hs
          unfold Addr.add
          by_cases h1 : i * ks.length = 0 <;> by_cases h2 : q = 0 <;> simp [h1, h2]
        rw [e1]
        simp [World.cell?, hC]
      · rename_i hq
        rw [List.getElem?_eq_none (by omega)]
    rw [this]; exact h2
  have hlen : ∀ n, n ≤ cap → Fits2 p (List.replicate n ks).flatten ((C.toList.drop a.off).take (n * ks.length)) := by
    intro n
    induction n with
    | zero => intro _; simp [Fits2]
    | succ n ih =>
      intro hn
      have e1 : (List.replicate (n + 1) ks).flatten = (List.replicate n ks).flatten ++ ks := by
        rw [List.replicate_succ']; simp
      rw [e1, Nat.succ_mul, List.take_add, List.drop_drop]
      exact (ih (by omega)).append (hget n (by omega))
  have hL := (hlen len hl).length
  have hfl : (List.replicate len ks).flatten.length = len * ks.length := by simp
  rw [hfl, List.length_take, List.length_drop] at hL
  have hpos2 : 0 < len * ks.length := Nat.mul_pos h0 hpos
  refine ⟨C, et, fr, _, hC, hs, ?_, hlen len hl⟩
  unfold readN
  rw [if_pos (by simp only [Array.length_toList] at hL ⊢; omega)]
theorem trod_shallow {hd : Bool} : ∀ (t e : TypeId) (fuel : Nat) (v : Value) (x : DataW H × List MemPlace), P.underlying t = some (.slice e) → DataW.trod enc P W 0 (fun _ => true) hd fuel t [v] = some x → SFit P (.slice e) v := by
  intro t e fuel v x hu h
  rcases Go.Deep.open_slice hu h with ⟨h0, _⟩ | ⟨a, len, cap, m, n, D, Pl, h0, _, hl, hm, hmc, _, hx⟩
  · cases h0; exact Or.inl rfl
  · cases h0
    refine Or.inr ⟨a, len, cap, rfl, hl, hm, ?_⟩
    have hmc : m = cap := hmc
    rw [hmc] at hx
    by_cases hc0 : cap = 0
    · exact Or.inl hc0
    · right
      obtain ⟨cs', h1, h2⟩ := hx 0 (by omega)
      obtain ⟨h5, h3, h4⟩ := World.cells?_some h1
      by_cases hz : P.cellsOf e = 0
      · exact Or.inr hz
      left
      have h6 := h4 0 (by omega)
      simp only [Nat.zero_mul, Addr.add, if_true] at h6
      rw [List.getElem?_eq_getElem (by omega)] at h6
      unfold World.cell? at h6
      split at h6
      · split at h6
        · cases h6
        · rename_i hs
          simpa using hs
      · cases h6
theorem trod_deep {hd : Bool} : ∀ (d : Nat) (t e : TypeId) (fuel : Nat) (v : Value) (x : DataW H × List MemPlace), P.underlying t = some (.slice e) → DataW.trod enc P W 0 (fun _ => true) hd fuel t [v] = some x → DFit P (roD P W) d (.slice e) (upD (max W.heap.size P.globals.size) (.slice e) v)
  | 0, _, _, _, _, _, _, _ => trivial
  | d + 1, t, e, fuel, v, x, hu, h => by
    rcases Go.Deep.open_slice hu h with ⟨h0, _⟩ | ⟨a, len, cap, m, n, D, Pl, h0, _, hl, hm, hmc, _, hx⟩
    · cases h0; exact Or.inl rfl
    · cases h0
      have hmc : m = cap := hmc
      rw [hmc] at hx
      refine Or.inr ⟨_, len, cap, rfl, hl, hm, fun h0 ks hks hsz hpos => ?_⟩
      obtain ⟨C, et, fr, cells, c1, c2, c3, c4⟩ := slice_elems (p := SFit P) hks hsz hpos h0 hl hx (fun _ _ h => h) trod_shallow
      obtain ⟨C', et', fr', cells', e1, e2, e3, e4⟩ := slice_elems (p := fun k v => DFit P (roD P W) d k (upD (max W.heap.size P.globals.size) k v)) hks hsz hpos h0 hl hx (fun k v h => by
        have e : upD (max W.heap.size P.globals.size) (.flat k) v = v := by cases v <;> rfl
        show DFit P (roD P W) d (.flat k) (upD (max W.heap.size P.globals.size) (.flat k) v)
        rw [e]
        cases d <;> exact h) (trod_deep d)
      rw [c1] at e1; cases e1
      rw [c3] at e3; cases e3
      have hS : IsS P W (pr4 a.block a.off len e) (a.block, a.off, (List.replicate len ks).flatten, cells) := ⟨len, e, C, et, fr, ks, rfl, c1, hks, hsz, h0, hpos, c3, rfl, c4⟩
      refine ⟨upDs (max W.heap.size P.globals.size) (List.replicate len ks).flatten cells, ?_, upDs_fits _ e4⟩
      rw [roD_at, stret_eq hS]
      rfl
inductive PD where
  | one (k : DK)
  | agg (ks : List DK)
noncomputable def pdOf (P : Program) (t : TypeId) : Option PD :=
  match P.underlying t with
  | some .bool => some (.one (.flat .bool))
  | some (.int k) => some (.one (.flat (.int k)))
  | some (.slice e) => some (.one (.slice e))
  | some (.struct _) | some (.array ..) => (dkOf P 8 t).map .agg
  | _ => none
noncomputable def upP (N : Nat) : PD → Value → Value
  | .one k, v => upD N k v
  | .agg ks, .agg cs => .agg (upDs N ks cs.toList).toArray
  | _, v => v
noncomputable def upPs (N : Nat) : List PD → List Value → List Value
  | p :: ps, v :: vs => upP N p v :: upPs N ps vs
  | _, _ => []
def ArgD (P : Program) (ro : Nat → Option (List Value × Nat)) (d : Nat) : PD → Value → Prop
  | .one k, v => DFit P ro d k v
  | .agg ks, v => ∃ cs, v = .agg cs ∧ Fits2 (DFit P ro d) ks cs.toList
def ArgsD (P : Program) (ro : Nat → Option (List Value × Nat)) (d : Nat) : List PD → List Value → Prop
  | [], [] => True
  | p :: ps, v :: vs => ArgD P ro d p v ∧ ArgsD P ro d ps vs
  | _, _ => False
theorem flat_deep (d : Nat) (k : FK) (v : Value) (h : k.fits v) : DFit P (roD P W) d (.flat k) (upD (max W.heap.size P.globals.size) (.flat k) v) := by
  have e : upD (max W.heap.size P.globals.size) (.flat k) v = v := by cases v <;> rfl
  rw [e]
  cases d <;> exact h
theorem argD_open (d : Nat) {p : PD} {t : TypeId} {v : Value} {D : DataW H} {ps : List MemPlace} {base : Nat} {hd : Bool} (hp : pdOf P t = some p) (hok : Value.okWide P W .any base t v) (h : DataW.Trod enc P W 0 (fun _ => true) hd t v D ps) :
    ArgD P (roD P W) d p (upP (max W.heap.size P.globals.size) p v) ∧ VR (renD P W) (upP (max W.heap.size P.globals.size) p v) v := by
  obtain ⟨fuel, h⟩ := h
  unfold pdOf at hp
  have hone : ∀ {k : DK}, (∀ cs, v ≠ .agg cs) → Fits2 (SFit P) [k] v.cells.toList → Fits2 (fun k v => DFit P (roD P W) d k (upD (max W.heap.size P.globals.size) k v)) [k] v.cells.toList → ArgD P (roD P W) d (.one k) (upP (max W.heap.size P.globals.size) (.one k) v) ∧ VR (renD P W) (upP (max W.heap.size P.globals.size) (.one k) v) v := fun {k} hn h1 h2 => by
    cases v with
    | agg cs => exact absurd rfl (hn cs)
    | _ => exact ⟨h2.1, upD_rel h1.1⟩
  have hagg : ∀ {ks : List DK} {cs : Array Value}, v = .agg cs → Fits2 (SFit P) ks v.cells.toList → Fits2 (fun k v => DFit P (roD P W) d k (upD (max W.heap.size P.globals.size) k v)) ks v.cells.toList → ArgD P (roD P W) d (.agg ks) (upP (max W.heap.size P.globals.size) (.agg ks) v) ∧ VR (renD P W) (upP (max W.heap.size P.globals.size) (.agg ks) v) v := fun {ks cs} e h1 h2 => by
    subst e
    refine ⟨⟨_, rfl, ?_⟩, .agg ?_⟩
    · rw [List.toList_toArray]; exact upDs_fits _ h2
    · rw [List.toList_toArray]; exact upDs_rel h1
  split at hp
  · rename_i hu
    cases hp
    have hk : dkOf P 1 t = some [.flat .bool] := by simp [dkOf, hu]
    refine hone (fun cs e => ?_) (trod_fits2 (fun _ _ h => h) trod_shallow h hk) (trod_fits2 (p := fun k v => DFit P (roD P W) d k (upD (max W.heap.size P.globals.size) k v)) (flat_deep d) (trod_deep d) h hk)
    subst e
    simp [Value.okWide, hu, Cell.okWide, Cell.ok] at hok
  · rename_i k hu
    cases hp
    have hk : dkOf P 1 t = some [.flat (.int k)] := by simp [dkOf, hu]
    refine hone (fun cs e => ?_) (trod_fits2 (fun _ _ h => h) trod_shallow h hk) (trod_fits2 (p := fun k v => DFit P (roD P W) d k (upD (max W.heap.size P.globals.size) k v)) (flat_deep d) (trod_deep d) h hk)
    subst e
    simp [Value.okWide, hu, Cell.okWide, Cell.ok] at hok
  · rename_i e hu
    cases hp
    have hk : dkOf P 1 t = some [.slice e] := by simp [dkOf, hu]
    refine hone (fun cs e => ?_) (trod_fits2 (fun _ _ h => h) trod_shallow h hk) (trod_fits2 (p := fun k v => DFit P (roD P W) d k (upD (max W.heap.size P.globals.size) k v)) (flat_deep d) (trod_deep d) h hk)
    subst e
    simp [Value.okWide, hu, Cell.okWide, Cell.ok] at hok
  · rename_i fs hu
    simp only [Option.map_eq_some_iff] at hp
    obtain ⟨ks, hks, rfl⟩ := hp
    simp only [Value.okWide, hu] at hok
    obtain ⟨cs, rfl, _⟩ := hok
    exact hagg rfl (trod_fits2 (fun _ _ h => h) trod_shallow h hks) (trod_fits2 (p := fun k v => DFit P (roD P W) d k (upD (max W.heap.size P.globals.size) k v)) (flat_deep d) (trod_deep d) h hks)
  · rename_i m e hu
    simp only [Option.map_eq_some_iff] at hp
    obtain ⟨ks, hks, rfl⟩ := hp
    simp only [Value.okWide, hu] at hok
    obtain ⟨cs, rfl, _⟩ := hok
    exact hagg rfl (trod_fits2 (fun _ _ h => h) trod_shallow h hks) (trod_fits2 (p := fun k v => DFit P (roD P W) d k (upD (max W.heap.size P.globals.size) k v)) (flat_deep d) (trod_deep d) h hks)
  · cases hp
theorem argsD_open (d : Nat) : ∀ (ts : List TypeId) (pks : List PD) (vs : List Value) (ds : List (DataW H)) (ps : List MemPlace) (base : Nat), ts.mapM (pdOf P) = some pks →
    (∀ (i : Nat) t v, ts[i]? = some t → vs[i]? = some v → Value.okWide P W .any base t v) → DataW.TrodAll enc P W 0 (fun _ => true) true ts vs ds ps →
    ArgsD P (roD P W) d pks (upPs (max W.heap.size P.globals.size) pks vs) ∧ VRs (renD P W) (upPs (max W.heap.size P.globals.size) pks vs) vs
  | [], pks, [], [], ps, base, hm, _, _ => by
    simp at hm; subst hm
    exact ⟨trivial, .nil⟩
  | t :: ts, pks, v :: vs, D :: ds, ps, base, hm, hok, h => by
    simp only [List.mapM_cons, Option.bind_eq_bind, Option.bind_eq_some_iff, Option.pure_def, Option.some.injEq] at hm
    obtain ⟨p, hp, pks', hpks, rfl⟩ := hm
    obtain ⟨q1, q2, h1, h2, rfl⟩ := h
    obtain ⟨r1, r2⟩ := argsD_open d ts pks' vs ds q2 base hpks (fun i t v ht hv => hok (i + 1) t v (by simpa using ht) (by simpa using hv)) h2
    obtain ⟨a1, a2⟩ := argD_open d hp (hok 0 t v rfl rfl) h1
    exact ⟨⟨a1, r1⟩, .cons a2 r2⟩
  | [], _, _ :: _, _, _, _, _, _, h => h.elim
  | [], _, [], _ :: _, _, _, _, _, h => h.elim
  | _ :: _, _, [], _, _, _, _, _, h => h.elim
  | _ :: _, _, _ :: _, [], _, _, _, _, h => h.elim
theorem deep_open_lifted {C : Checked} {os : Os} {f : FuncId} {fn : Func} {s : ChangeSpec} {env : Env} {n : Nat} {tb : TypeId} {pks : List PD} (d : Nat) (own : ownKnob C.prog.godebug = none) (started : os.Started) (noInit : C.prog.inits.idxOf? f = none) (hfn : C.prog.funcs[f]? = some fn)
    (witness : ∃ (w : World) (tape : Tape) (i : Input), w.os = os ∧ (w.forCall tape i).Shaped C.prog ∧ i.vars = [] ∧ Input.okWide C.prog (w.forCall tape i) .any w.heap.size f i ∧
      s.pre6 enc C.prog fn [] false (w.forCall tape i).memory i.args ∧ ({} : Assume).holds C.prog (lone (Frame.enter C.prog f i.args .normal) [] (w.forCall tape i)))
    (hm : C.prog.follows .mixedOrders = true) (he : EnvOK C.prog env) (hl : laidOutB C.prog = true) (hp : fn.params.toList.mapM (pdOf C.prog) = some pks) (hrd : fn.params.toList.all (fun t => C.prog.readableRec t && decide (t < C.prog.types.size)) = true)
    (hres : fn.resultTypes = #[tb]) (htb : C.prog.underlying tb = some .bool) (hv : s.vars = [])
    (hsf : ∀ ds : List (DataW H), ds.length = fn.params.size → s.fn H ds = { results := [.lit (.bool true)], args := ds }) (hr : ∀ ro vs, ArgsD C.prog ro d pks vs → (run env n f vs (fresh ro)).True) :
    ReturnsInHanded {} C os f .any (s.pre6 enc C.prog fn [] false) (s.post enc C.prog fn false true false false) := by
  refine returnsInHanded_of_change own started noInit hfn witness ?_
  intro W base args ds gs before hval hW _ _
  obtain ⟨p, q, hA, hV, rfl, hz, hn⟩ := id hW
  obtain ⟨r1, r2⟩ := argsD_open d fn.params.toList pks args.toList ds p base hp (fun i t v ht hv => hval i t v (by simpa using ht) (by simpa using hv)) hA
  refine (calls_of_run (n := n) hm he here_deep r2 (hr _ _ r1)).mono fun e W' h => ?_
  obtain ⟨rfl, hb⟩ := h
  exact ⟨_, rfl, law_post hl hrd hres htb hv hsf hW hb⟩
end
end Go.Ideal
namespace Go.Ideal
open Go
section
variable {env : Env} {n fuel : Nat} {ar : Option Nat} {as plan : List (List Nat)} {i : Nat} {fr : List (Nat × Nat × Nat)} {tm : List Value} {df : List Nat} {h : Heap} {K : List Fr} {Q : IExit × St → Prop} {r : List IOper} {d : Option Nat} {anc : List Nat} {bar : Bool} {op : IOp} {v : Value}
theorem Dp.fixed {h' : Heap} (hp : op.isPure = false) (hr : op.exec (callV env n) tm h = .ret (v, h')) (k : Dp env n fuel ar as plan r (i + 1) [] (putDst tm d v) df h' K Q) : Dp env n fuel ar as plan (⟨d, op, none, anc, true⟩ :: r) i fr tm df h K Q := by
  refine ⟨Goes.fixed hp hr k.goes, ?_⟩
  rw [Y_op, hr, Z_ret]
  exact k.runs
theorem Dp.loadFN {a : Opd} {b off m : Nat} {cs : List Value} (ha : a.eval tm = .pointer (some ⟨b, off, none⟩)) (hr : readC (h.get b) off m = some cs) (h1 : ∀ k, unord as i k = true → b / 2 ∉ plan.getD k []) (h2 : ∀ x ∈ fr, b / 2 < x.2.1 ∨ x.2.2 ≤ b / 2) (k : Dp env n fuel ar as plan r (i + 1) fr (putDst tm d (.agg cs.toArray)) df h K Q) : Dp env n fuel ar as plan (⟨d, .load (some m) a, none, anc, false⟩ :: r) i fr tm df h K Q := by
  have e : ∀ h' : Heap, h'.get b = h.get b → (.load (some m) a : IOp).exec (callV env n) tm h' = .ret (.agg cs.toArray, h') := fun h' hg => by
    show (.load (some m) a : IOp).run tm h' = _
    simp only [IOp.run, ha, read_eq, hg, hr]
  refine ⟨Goes.free rfl (e _ (seen_get h1 h2)) ?_, ?_⟩
  · rw [seen_next, if_neg (Nat.lt_irrefl _)]
    exact k.goes
  · rw [Y_op, e h rfl, Z_ret]
    exact k.runs
theorem Dp.makeFree {ro : Nat → Option (List Value × Nat)} {L : List Rs} (O : Has ro h L) {z bytes m : Nat} {zero : List Value} {x y : Opd} {k1 k2 : IntKind} (hx : x.eval tm = .int k1 (m : Int)) (hy : y.eval tm = .int k2 (m : Int)) (hb : m * bytes ≤ roomMost) (hb2 : m ≤ roomMost)
    (k : ∀ b h', Has ro h' (Ob b (.cells (List.replicate m zero).flatten z false) :: L) → h'.next = h.next + 1 → Ext h h' → Dp env n fuel ar as plan r (i + 1) ((i, h.next, h.next + 1) :: fr) (putDst tm d (.slice (some ⟨b, 0, none⟩) m m)) df h' K Q) : Dp env n fuel ar as plan (⟨d, .makeSlice z bytes zero x y, none, anc, false⟩ :: r) i fr tm df h K Q := by
  have e : ∀ h' : Heap, (.makeSlice z bytes zero x y : IOp).exec (callV env n) tm h' = .ret (.slice (some ⟨2 * h'.next, 0, none⟩) m m, h'.alloc (.cells (List.replicate m zero).flatten z false)) := fun h' => by
    show (.makeSlice z bytes zero x y : IOp).run tm h' = _
    simp only [IOp.run, hx, hy, asInt?, Int.toNat_natCast]
    rw [if_pos ⟨by omega, by omega, by omega, by omega⟩]
  have K1 := k _ _ (O.alloc _) rfl ((Ext.refl h).alloc _)
  refine ⟨Goes.free rfl (e _) ?_, ?_⟩
  · have hn : h.next < ((seenBy as plan i fr h).alloc (.cells (List.replicate m zero).flatten z false)).next := by show h.next < h.next + 1; omega
    rw [if_pos hn]
    exact K1.goes
  · rw [Y_op, e, Z_ret]
    exact K1.runs
end
theorem Fits2.take_drop {p : DK → Value → Prop} : ∀ {ks : List DK} {vs : List Value}, Fits2 p ks vs → ∀ (o n : Nat), Fits2 p ((ks.drop o).take n) ((vs.drop o).take n)
  | [], [], _, o, n => by simp [Fits2]
  | k :: ks, v :: vs, h, 0, 0 => by simp [Fits2]
  | k :: ks, v :: vs, h, 0, n + 1 => by
    have := Fits2.take_drop h.2 0 n
    simp only [List.drop_zero] at this
    simpa [Fits2] using ⟨h.1, this⟩
  | k :: ks, v :: vs, h, o + 1, n => by simpa using Fits2.take_drop h.2 o n
  | [], _ :: _, h, _, _ => h.elim
  | _ :: _, [], h, _, _ => h.elim
theorem fits2_list {p : DK → Value → Prop} {α : Type} (g : α → List Value) (ok : α → Prop) (ks : List DK) (hinv : ∀ vs, Fits2 p ks vs → ∃ a, vs = g a ∧ ok a) : ∀ (len : Nat) (cells : List Value), Fits2 p (List.replicate len ks).flatten cells → ∃ l : List α, l.length = len ∧ cells = l.flatMap g ∧ ∀ a ∈ l, ok a
  | 0, [], _ => ⟨[], rfl, rfl, by simp⟩
  | 0, _ :: _, h => h.elim
  | len + 1, cells, h => by
    have h1 := h.take_drop 0 ks.length
    have h2 := h.take_drop ks.length (len * ks.length)
    have e1 : ((List.replicate (len + 1) ks).flatten.drop 0).take ks.length = ks := by simp [List.replicate_succ]
    have e2 : ((List.replicate (len + 1) ks).flatten.drop ks.length).take (len * ks.length) = (List.replicate len ks).flatten := by
      simp only [List.replicate_succ, List.flatten_cons, List.drop_left]
      exact List.take_of_length_le (by simp)
    have hlen := h.length
    have hfl : (List.replicate (len + 1) ks).flatten.length = (len + 1) * ks.length := by simp
    rw [hfl] at hlen
    rw [e1, List.drop_zero] at h1
    rw [e2] at h2
    obtain ⟨a, ha, oka⟩ := hinv _ h1
    obtain ⟨l, hl, hc, hok⟩ := fits2_list g ok ks hinv len _ h2
    refine ⟨a :: l, by simp [hl], ?_, fun b hb => ?_⟩
    · rw [List.flatMap_cons, ← ha, ← hc]
      have : (cells.drop ks.length).take (len * ks.length) = cells.drop ks.length := List.take_of_length_le (by rw [List.length_drop, hlen, Nat.succ_mul]; omega)
      rw [this, List.take_append_drop]
    · rcases List.mem_cons.1 hb with rfl | hb
      · exact oka
      · exact hok b hb
theorem dslice {P : Program} {ro : Nat → Option (List Value × Nat)} {d e : Nat} {v : Value} (h : DFit P ro (d + 1) (.slice e) v) {ks : List DK} (hk : dkOf P 8 e = some ks) (hz : P.cellsOf e = ks.length) (hp : 0 < ks.length) {α : Type} (g : α → List Value) (ok : α → Prop) (hinv : ∀ vs, Fits2 (DFit P ro d) ks vs → ∃ a, vs = g a ∧ ok a) :
    ∃ (p : Option Addr) (l : List α) (c : Nat), v = .slice p l.length c ∧ (∀ a ∈ l, ok a) ∧ l.length ≤ c ∧ c ≤ maxLen ∧ ∀ (L : List Rs) (h : Heap), Has ro h L → Vw ks.length g h v l := by
  rcases h with rfl | ⟨x, len, c, rfl, h1, h2, h3⟩
  · exact ⟨none, [], 0, rfl, fun a ha => (by cases ha), Nat.le_refl _, Nat.zero_le _, fun L h O => Vw.nil h none 0⟩
  · rcases Nat.eq_zero_or_pos len with h0 | h0
    · subst h0
      exact ⟨_, [], c, rfl, fun a ha => (by cases ha), Nat.zero_le _, h2, fun L h O => Vw.nil h _ c⟩
    · obtain ⟨cells, hro, hf⟩ := h3 h0 ks hk hz hp
      obtain ⟨l, rfl, rfl, hok⟩ := fits2_list g ok ks hinv len cells hf
      refine ⟨_, l, c, rfl, hok, h1, h2, fun L h O => O.vwa (bb := 2 * x + 1) (zz := 1) (t := true) (by omega) h1 fun _ => ⟨rfl, ?_⟩⟩
      unfold Heap.get
      rw [if_pos (by omega), show (2 * x + 1) / 2 = x by omega]
      show (ro x).map _ = _
      rw [hro]
      rfl
end Go.Ideal
namespace Go.Ideal
open Go
end Go.Ideal
namespace Go.Ideal
set_option linter.all false
noncomputable def wkF := (And.intro wk0 (And.intro wk1 (And.intro wk2 (And.intro wk3 (And.intro wk4 (And.intro wk5 (And.intro @List.set_cons_zero.{0} (And.intro @List.set_cons_succ.{0} (And.intro @List.getD_cons_zero.{0} (And.intro @List.getD_cons_succ.{0} (And.intro @List.map_cons.{0, 0} (And.intro @List.map_nil.{0, 0} (And.intro @List.length_cons.{0} (And.intro @List.length_nil.{0} (And.intro @List.getElem?_cons_zero.{0} (And.intro @List.getElem?_cons_succ.{0} (And.intro @bne_iff_ne.{0} (And.intro @ne_eq.{1} (And.intro @Option.isSome_some.{0} (And.intro @Option.isNone_some.{0} (And.intro @Option.isNone_none.{0} (And.intro @Option.map_some.{0, 0} (And.intro @Option.map_none.{0, 0} (And.intro @Option.isSome_none.{0} @beq_self_eq_true.{0}))))))))))))))))))))))))
end Go.Ideal
namespace Go.Ideal
open Go
section
variable {call : Caller} {fuel : Nat} {ar : Option Nat} {tm : List Value} {df : List Nat} {h : Heap} {K : List Fr} {r : List IOper} {d : Option Nat} {anc : List Nat} {bar : Bool} {an : List (List Nat)} {ix : Nat} {fr : List (Nat × Nat × Nat)} {ro : Nat → Option (List Value × Nat)} {L : List Rs} {Q : IExit × St → Prop}
theorem D_mapUpdateB (agg : Option (List CK)) (m k v : Opd) : D call fuel ar an (⟨d, .mapUpdate agg m k v, none, anc, true⟩ :: r) ix fr tm df h K = DHB call fuel ar an (vMapUpdate h agg (m.eval tm) (k.eval tm) (v.eval tm)) d r ix tm df K := by
  have he : (IOp.mapUpdate agg m k v).exec call tm h = (match vMapUpdate h agg (m.eval tm) (k.eval tm) (v.eval tm) with | some h' => .ret (undefV, h') | none => .fail) := by
    simp only [IOp.exec, IOp.run, vMapUpdate]
    cases imap h agg (m.eval tm) (k.eval tm) with
    | none => rfl
    | some q =>
      obtain ⟨es, c, r, o⟩ := q
      cases r <;> cases o <;> rfl
  unfold D DHB
  simp only [execDrawn, wants, if_true, IOp.isPure, Bool.false_eq_true, if_false, he]
  cases vMapUpdate h agg (m.eval tm) (k.eval tm) (v.eval tm) <;> simp [T.out, D]
theorem ext_seen {i : Nat} {h' : Heap} (e : Ext (seen0 an i [] h) h') : Ext h { h' with floor := h.floor, may := h.may, hid := h.hid } := by
  refine ⟨by have := e.next; rw [seen0_next] at this; exact this, fun b hb => ?_, rfl, rfl, rfl, e.ro.trans (by unfold seen0; rfl)⟩
  have hh : h'.hid = h.hid := e.hid.trans seen0_hid
  have g : ({ h' with floor := h.floor, may := h.may, hid := h.hid } : Heap).get b = h'.get b := restored_get hh b
  exact g.trans ((e.old b (by rw [seen0_next]; exact hb)).trans (seen0_nil_get b))
theorem new_seen {i : Nat} {h' : Heap} {p : Rs} (e : Ext (seen0 an i [] h) h') (n : New (seen0 an i [] h) h' p) : New h { h' with floor := h.floor, may := h.may, hid := h.hid } p := by
  obtain ⟨S, a, b⟩ := n
  have hh : h'.hid = h.hid := e.hid.trans seen0_hid
  exact ⟨S, p.stable a fun x _ => restored_get hh x, fun x hx => by have := b x hx; rw [seen0_next] at this; exact this⟩
theorem DF_newO (O : Has ro h L) {i : Nat} {x : T (Value × Heap)} {R : Value → Prop} {p : Value → Rs} (hx : x.Is fun q => Ext (seen0 an i [] h) q.2 ∧ New (seen0 an i [] h) q.2 (p q.1) ∧ R q.1)
    (k : ∀ v h' f, R v → Has ro h' (p v :: L) → Ext h h' → (∀ y ∈ f, h.next ≤ y.2.1 ∧ y.2.2 ≤ h'.next) → (D call fuel ar an r (i + 1) f (putDst tm d v) df h' K).Is Q) : (DF call fuel ar an x h d r i [] tm df K).Is Q := by
  refine DF_is hx ?_
  rintro v h' ⟨e, n, hr⟩
  simp only at e n hr
  refine k v _ _ hr (O.new (ext_seen e) (new_seen e n)) (ext_seen e) ?_
  intro y hy
  split at hy
  · rcases List.mem_cons.1 hy with rfl | hy
    · exact ⟨Nat.le_refl _, Nat.le_refl _⟩
    · cases hy
  · cases hy
theorem vLookup_seen (an : List (List Nat)) (i : Nat) (h : Heap) (agg : Option (List CK)) (z : Value) (ok : Bool) (m k : Value) : vLookup (seen0 an i [] h) agg z ok m k = vLookup h agg z ok m k := by
  unfold vLookup imap getMap
  simp only [seen0_nil_get]
theorem round_isB {l : Nat} {args : List Value} {lp : ILoop} {Q : Value × Heap → Prop} {a bd : ICode} {ps : List Nat} (O : Has ro h (Ob l (.loop lp) :: L)) (l1 : lp.state = .ready) (l2 : lp.pending = .normal) (l3 : lp.tmps = tm) (l4 : lp.params = ps) (l5 : lp.assign = a) (l6 : lp.body = bd) (hlen : args.length = ps.length)
    (hx : (X call fuel (some l) a (setParams tm ps args) [] h []).Is fun p => p.1 = .normal ∧ ∃ L1, Has ro p.2.h (Ob l (.loop lp) :: L1) ∧ ∀ h2 lpB, Has ro h2 (Ob l (.loop lpB) :: L1) →
      (X call fuel (some l) bd p.2.tmps p.2.defers h2 []).Is fun q => ∃ L3, Has ro q.2.h (Ob l (.loop lpB) :: L3) ∧ ∀ h3 lpC, (q.1 = .normal → lpC = lp) → lpC.state ≠ .busy → lpC.pending = q.1 → Has ro h3 (Ob l (.loop lpC) :: L3) → Q (.bool (onOf q.1), h3)) :
    (round call fuel l args h).Is Q := by
  subst l3 l4 l5 l6
  refine round_isO O hlen l1 ?_
  refine T.Is.mono ?_ hx
  rintro p ⟨h1, L1, O1, k⟩
  refine ⟨h1, L1, O1, fun h2 O2 => ?_⟩
  refine T.Is.mono ?_ (k h2 _ O2)
  rintro q ⟨L3, O3, k3⟩
  refine ⟨_, L3, O3, fun h3 O4 => k3 h3 _ ?_ ?_ ?_ O4⟩
  · intro e
    rw [e]
    simp only [onOf, if_true]
    cases lp
    simp only at l1 l2
    subst l1 l2
    rfl
  · simp only
    intro e
    split at e <;> cases e
  · rfl
theorem Y_boxE (O : Has ro h L) {x : Opd} (k : ∀ b h', b % 2 = 0 → 2 * h.next ≤ b → Has ro h' (Ob b (.cells (cellsOf (x.eval tm)) 1 false) :: L) → Ext h h' → (Y call fuel ar r (putDst tm d (.pointer (some ⟨b, 0, none⟩))) df h' K).Is Q) : (Y call fuel ar (⟨d, .box x, none, anc, bar⟩ :: r) tm df h K).Is Q := by
  rw [Y_box]
  exact k _ _ (by omega) (Nat.le_refl _) (O.alloc _) ((Ext.refl h).alloc _)
theorem Y_buildSliceE (O : Has ro h L) {z len : Nat} {zero : List Value} {ps : List (Nat × Opd)} {cs : List Value} (hc : layAt (List.replicate len zero).flatten (ps.map fun p => (p.1 * z, z, p.2.eval tm)) = some cs)
    (k : ∀ b h', b % 2 = 0 → 2 * h.next ≤ b → Has ro h' (Ob b (.cells cs z false) :: L) → Ext h h' → (Y call fuel ar r (putDst tm d (.slice (some ⟨b, 0, none⟩) len len)) df h' K).Is Q) : (Y call fuel ar (⟨d, .buildSlice z len zero ps, none, anc, bar⟩ :: r) tm df h K).Is Q := by
  rw [Y_buildSlice, pBuildSlice, hc, ZP_some]
  exact k _ _ (by omega) (Nat.le_refl _) (O.alloc _) ((Ext.refl h).alloc _)
theorem New.ob {h h' : Heap} {b : Nat} {o : IObj} (g : h'.get b = some o) (be : b % 2 = 0) (nb : 2 * h.next ≤ b) (lb : b < 2 * h'.next) : New h h' (Ob b o) :=
  ⟨fun x => x = b, ⟨fun _ => Iff.rfl, g⟩, fun x hx => by subst hx; exact ⟨be, nb, lb⟩⟩
theorem New.ex {h h' : Heap} {α : Type} {F : α → Rs} (a : α) (n : New h h' (F a)) : New h h' (Rs.ex F) := by
  obtain ⟨S, x, y⟩ := n
  exact ⟨S, ⟨a, x⟩, y⟩
theorem New.and {h h' : Heap} {p : Prop} {q : Rs} (a : p) (n : New h h' q) : New h h' (Rs.and p q) := by
  obtain ⟨S, x, y⟩ := n
  exact ⟨S, ⟨a, x⟩, y⟩
theorem New.emp {h h' : Heap} : New h h' Rs.emp := ⟨fun _ => False, fun _ h => h, fun _ h => h.elim⟩
end
end Go.Ideal
namespace Go.Ideal
open Go
section
variable {env : Env} {n fuel : Nat} {ar : Option Nat} {as plan : List (List Nat)} {i : Nat} {fr : List (Nat × Nat × Nat)} {tm : List Value} {df : List Nat} {h : Heap} {K : List Fr} {Q : IExit × St → Prop} {r : List IOper} {d : Option Nat} {anc : List Nat} {bar : Bool} {op : IOp} {v : Value}
theorem Dp.storeF {ro : Nat → Option (List Value × Nat)} {L : List Rs} {a x : Opd} {b off m z : Nat} {t : Bool} {cs : List Value} (O : Has ro h L) (j : Nat) (hj : L[j]? = some (Ob b (.cells cs z t))) (ha : a.eval tm = .pointer (some ⟨b, off, none⟩)) (hn : (cellsOf (x.eval tm)).length = m) (hl : off + m ≤ cs.length) (ho : (cellsOf (x.eval tm)).all oneCell = true)
    (hp : b / 2 ∈ plan.getD i []) (h1 : ∀ k, unord as i k = true → b / 2 ∉ plan.getD k []) (h2 : ∀ x ∈ fr, b / 2 < x.2.1 ∨ x.2.2 ≤ b / 2)
    (k : ∀ h', Has ro h' (L.set j (Ob b (.cells (setAt cs off (cellsOf (x.eval tm))) z t))) → h'.next = h.next → Dp env n fuel ar as plan r (i + 1) fr (putDst tm d undefV) df h' K Q) : Dp env n fuel ar as plan (⟨d, .store m a x, none, anc, false⟩ :: r) i fr tm df h K Q := by
  have g := O.get j hj
  have hcan := O.can j hj
  have hcan2 : canPut (seenBy as plan i fr h) b = true := by
    have hc := of_decide_eq_true hcan
    refine decide_eq_true ⟨hc.1, Or.inr ?_⟩
    show b / 2 ∈ (plan.getD i []).filter fun x => decide (h.floor ≤ x) || h.may.contains x
    refine List.mem_filter.2 ⟨hp, ?_⟩
    rcases hc.2 with h3 | h3
    · simp [h3]
    · simp [h3]
  have e : ∀ h' : Heap, h'.get b = h.get b → canPut h' b = true → (.store m a x : IOp).exec (callV env n) tm h' = .ret (undefV, h'.setB b (.cells (setAt cs off (cellsOf (x.eval tm))) z t)) := fun h' hg hc => by
    show (.store m a x : IOp).run tm h' = _
    simp only [IOp.run, ha]
    rw [if_pos hn, write_eq, hg, g, writeC_cells, if_pos ⟨by omega, ho, hc⟩]
  have K1 := k _ (O.set j hj _) rfl
  refine ⟨Goes.free rfl (e _ (seen_get h1 h2) hcan2) ?_, ?_⟩
  · show Goes _ _ _ _ _ (if h.next < h.next then _ else fr) _ _
    rw [if_neg (Nat.lt_irrefl _)]
    exact K1.goes
  · rw [Y_op, e h rfl hcan, Z_ret]
    exact K1.runs
theorem seenBy_fine (hf : h.Fine) (hfr : ∀ x ∈ fr, x.2.2 ≤ h.next) : (seenBy as plan i fr h).Fine := by
  refine ⟨Nat.le_refl _, fun p hp => ?_⟩
  simp only [seenBy, List.mem_append, List.mem_map, List.mem_flatMap] at hp
  rcases hp with (⟨x, hx, rfl⟩ | ⟨k, _, hk⟩) | hk
  · exact hfr x (List.mem_filter.1 hx).1
  · split at hk
    · obtain ⟨x, hx, rfl⟩ := List.mem_map.1 hk
      have := of_decide_eq_true (List.mem_filter.1 hx).2
      show x + 1 ≤ h.next
      omega
    · cases hk
  · exact hf.2 p hk
theorem Dp.eqAgg {neg : Bool} {ks : List CK} {x y : Opd} {a b : Value} {c : Bool} (hx : x.eval tm = a) (hy : y.eval tm = b) (hc : vEqAgg neg ks a b = some (.bool c)) (k : Dp env n fuel ar as plan r (i + 1) fr (putDst tm d (.bool c)) df h K Q) : Dp env n fuel ar as plan (⟨d, .eqAgg neg ks x y, none, anc, bar⟩ :: r) i fr tm df h K Q := by
  refine Dp.pure rfl ?_ k
  have := E_eqAgg (tm := tm) (h := h) neg ks x y
  rw [this, hx, hy, hc]
  rfl
end
set_option linter.all false
theorem wkO : (∀ b, oneCell (.bool b) = true) ∧ (∀ k n, oneCell (.int k n) = true) ∧ (∀ k n, oneCell (.float k n) = true) ∧ (∀ k a b, oneCell (.complex k a b) = true) ∧ (∀ s, oneCell (.string s) = true) ∧ (∀ a, oneCell (.pointer a) = true) ∧ (∀ a n c, oneCell (.slice a n c) = true) ∧ (∀ a, oneCell (.map a) = true) ∧ (∀ a, oneCell (.chan a) = true) ∧ (∀ f a b, oneCell (.func f a b) = true) ∧ (oneCell (.nilFunc) = true) ∧ (∀ t v, oneCell (.iface t v) = true) ∧ (oneCell (.nilIface) = true) ∧ (∀ a, oneCell (.agg a) = false) ∧ (∀ a, oneCell (.tuple a) = false) := ⟨fun _ => rfl, fun _ _ => rfl, fun _ _ => rfl, fun _ _ _ => rfl, fun _ => rfl, fun _ => rfl, fun _ _ _ => rfl, fun _ => rfl, fun _ => rfl, fun _ _ _ => rfl, rfl, fun _ _ => rfl, rfl, fun _ => rfl, fun _ => rfl⟩
theorem wkS : (∀ c i, setAt c i [] = c) ∧ (∀ c i v vs, setAt c i (v :: vs) = setAt (c.set i v) (i + 1) vs) := ⟨fun _ _ => by unfold setAt; rfl, fun _ _ _ _ => by rw [setAt]⟩
theorem wkR : (∀ c off n, readN c off n = if off + n ≤ c.length then some ((c.drop off).take n) else none) ∧ (∀ c, layAt c [] = some c) ∧ (∀ c off n v r, layAt c ((off, n, v) :: r) = if (cellsOf v).length = n ∧ off + n ≤ c.length then layAt (setAt c off (cellsOf v)) r else none) ∧ (∀ tm t ts a as, setParams tm (t :: ts) (a :: as) = setParams (tm.set t a) ts as) ∧ (∀ tm as, setParams tm [] as = tm) ∧ (∀ tm t ts, setParams tm (t :: ts) [] = tm) := ⟨fun _ _ _ => rfl, fun _ => by rw [layAt], fun _ _ _ _ _ => by rw [layAt], fun _ _ _ _ _ => by rw [setParams], fun _ as => by cases as <;> rfl, fun _ _ _ => rfl⟩
theorem wkQ : (∀ k, oO k = .tmp k) ∧ (∀ d k, oM d k = ⟨some d, .move (.tmp k), none, [], true⟩) ∧ (∀ d k, oN d k = ⟨some d, .move (.tmp k), none, [], false⟩) ∧ (∀ d k, oL d k = ⟨some d, .load none (.tmp k), none, [], true⟩) ∧ (∀ d i k, oF d i k = ⟨some d, .fieldAddr i (.tmp k), none, [], true⟩) ∧ (∀ d n, oI d n = ⟨some d, .move (.const (.int .i64 n)), none, [], true⟩) ∧ (∀ d n k, oK d n k = ⟨some d, .load (some n) (.tmp k), none, [], true⟩) ∧ (∀ d k i, oE d k i = ⟨some d, .extract (.tmp k) i, none, [], true⟩) ∧ (∀ n a b, oS n a b = ⟨none, .store n (.tmp a) (.tmp b), none, [], true⟩) ∧ (∀ d k, oC d k = ⟨some d, .nilCheck (.tmp k), none, [], true⟩) ∧ (∀ d k, oB d k = ⟨some d, .box (.tmp k), none, [], true⟩) ∧ (∀ d f l, oX d f l = ⟨some d, .call (.const (.func (.func f) #[] #[])) (l.map .tmp), none, [], true⟩) ∧ (∀ d n a b, oA d n a b = ⟨some d, .indexAddr n (.tmp a) (.tmp b), none, [], true⟩) ∧ (∀ d g c k, oP d g c k = ⟨some d, .move (.tmp k), some (g, c), [], true⟩) ∧ (∀ d g c k, oQ d g c k = ⟨some d, .load none (.tmp k), some (g, c), [], true⟩) ∧ (∀ d g c i k, oR d g c i k = ⟨some d, .fieldAddr i (.tmp k), some (g, c), [], true⟩) ∧ (∀ d x, oT d x = ⟨some d, x, none, [], true⟩) ∧ (∀ d x, oU d x = ⟨some d, x, none, [], false⟩) ∧ (∀ d g c x, oG d g c x = ⟨some d, x, some (g, c), [], true⟩) ∧ (∀ d x l b, oH d x l b = ⟨some d, x, none, l, b⟩) ∧ (∀ d g c x l b, oJ d g c x l b = ⟨some d, x, some (g, c), l, b⟩) ∧ (∀ x, oY x = ⟨none, x, none, [], true⟩) := ⟨fun _ => rfl, fun _ _ => rfl, fun _ _ => rfl, fun _ _ => rfl, fun _ _ _ => rfl, fun _ _ => rfl, fun _ _ _ => rfl, fun _ _ _ => rfl, fun _ _ _ => rfl, fun _ _ => rfl, fun _ _ => rfl, fun _ _ _ => rfl, fun _ _ _ _ => rfl, fun _ _ _ _ => rfl, fun _ _ _ _ => rfl, fun _ _ _ _ _ => rfl, fun _ _ => rfl, fun _ _ => rfl, fun _ _ _ _ => rfl, fun _ _ _ _ => rfl, fun _ _ _ _ _ _ => rfl, fun _ => rfl⟩
noncomputable def wkG := (And.intro @X_region (And.intro @X_block (And.intro @X_loop (And.intro @X_cond (And.intro @Y_un (And.intro @Y_append (And.intro @ibin_shl (And.intro @ibin_shr (And.intro @ibin_and (And.intro wkR wkQ))))))))))
noncomputable def wkH := (And.intro @X_seq (And.intro @Y_box (And.intro @Y_store (And.intro @Y_makeMap (And.intro @Y_buildSlice (And.intro wkO wkS))))))
noncomputable def wkN := (And.intro @List.append_nil.{0} (And.intro @List.nil_append.{0} (And.intro @List.cons_append.{0} (And.intro @List.replicate_succ.{0} @List.replicate_zero.{0}))))
noncomputable def wkX := (And.intro wkD (And.intro wkO @Option.isSome_some.{0}))
noncomputable def wkY := (And.intro wkE @ne_eq.{1})
end Go.Ideal
