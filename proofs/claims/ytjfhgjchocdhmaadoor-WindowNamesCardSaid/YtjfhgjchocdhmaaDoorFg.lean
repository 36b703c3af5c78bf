/-
  A REGION WHOSE ORDER IS DRAWN: the next operation, whichever it is.
-/
import Derived.Test.YtjfhgjchocdhmaaDoorFf
namespace Go.Ideal
open Go Go.RowKit
section
variable {P : Program} {call : Caller} {ops : Array Oper} {F : Nat → Tr}
variable {N M : Nat} {ι0 : Ren} {w0 : World} {ds : List Deferred} {L : Nat → Bool} {c m : Nat} {ι : Ren} {a : Act} {w : World} {r : Option Nat}

theorem HL_next {S : Nat → Bool} : (HL F S c m).next = (F m).h.next := rfl

theorem HL_odd {S : Nat → Bool} {b : Nat} (hb : b % 2 = 1) : (HL F S c m).get b = (F m).h.get b := by
  rw [get_odd hb, get_odd hb]; rfl

theorem HL_even {S : Nat → Bool} {b : Nat} (hb : b % 2 = 0) : (HL F S c m).get b = if (hides (hidL F S c m) (b / 2) || hides (F 0).h.hid (b / 2)) = true then none else look (F m).h.mem (b / 2) := by
  rw [get_even hb]; simp only [HL, hides_append]

theorem HL_some {S : Nat → Bool} {b : Nat} {o : IObj} (hb : b % 2 = 0) : (HL F S c m).get b = some o ↔ hides (hidL F S c m) (b / 2) = false ∧ hides (F 0).h.hid (b / 2) = false ∧ look (F m).h.mem (b / 2) = some o := by
  rw [HL_even hb]
  cases h1 : hides (hidL F S c m) (b / 2) <;> cases h2 : hides (F 0).h.hid (b / 2) <;> simp

theorem Run.HL_hid (R : Run P call ops F) (hm : m ≤ ops.size) (h0 : ∀ p ∈ (F 0).h.hid, p.2 ≤ (F 0).h.next) {S : Nat → Bool} : ∀ p ∈ (HL F S c m).hid, p.2 ≤ (HL F S c m).next := by
  intro p hp
  simp only [HL, List.mem_append] at hp
  rcases hp with hp | hp
  · simp only [hidL, List.mem_map, List.mem_filter, List.mem_range] at hp
    obtain ⟨j, ⟨hj, _⟩, rfl⟩ := hp
    exact R.le (i := j + 1) (j := m) hj hm
  · exact Nat.le_trans (h0 p hp) (R.le (Nat.zero_le m) hm)

/-- A block that lies in the stretch of the k-th. -/
theorem Run.in_stretch (R : Run P call ops F) {S : Nat → Bool} {b k : Nat} (hm : m ≤ ops.size) (hck : c ≤ k) (hkm : k < m) (h1 : (F k).h.next ≤ b / 2) (h2 : b / 2 < (F (k + 1)).h.next) : hides (hidL F S c m) (b / 2) = !S k := by
  cases hS : S k with
  | false => exact hidL_iff.2 ⟨k, hck, hkm, hS, h1, h2⟩
  | true =>
    simp only [Bool.not_true]
    cases h : hides (hidL F S c m) (b / 2) with
    | false => rfl
    | true =>
      obtain ⟨j, g1, g2, g3, g4, g5⟩ := hidL_iff.1 h
      have : j = k := R.apart (by omega) (by omega) g4 g5 h1 h2
      subst this
      rw [hS] at g3; cases g3

theorem Run.below_stretch (R : Run P call ops F) {S : Nat → Bool} {b : Nat} (hm : m ≤ ops.size) (h1 : b / 2 < (F c).h.next) : hides (hidL F S c m) (b / 2) = false := by
  cases h : hides (hidL F S c m) (b / 2) with
  | false => rfl
  | true =>
    obtain ⟨j, g1, g2, g3, g4, g5⟩ := hidL_iff.1 h
    have := R.le (i := c) (j := j) g1 (by omega)
    omega

/-- The memory as an operation that may come now sees it. -/
structure Eye (P : Program) (call : Caller) (ops : Array Oper) (F : Nat → Tr) (L : Nat → Bool) (c m j : Nat) (g h2 : Heap) : Prop where
  sub : ∀ b o, g.get b = some o → View F c (fun k => k ∈ ancAt (drawnC P ops) j) b ∧ (HL F L c m).get b = some o
  sup : ∀ b, View F c (fun k => k ∈ ancAt (drawnC P ops) j) b → ((HL F L c m).get b).isSome = true → (g.get b).isSome = true
  floor : g.floor = g.next
  hid : ∀ p ∈ g.hid, p.2 ≤ g.next
  hb : HB g
  view : ∀ b, b % 2 = 0 → View F c (fun k => k ∈ ancAt (drawnC P ops) j) b → b / 2 < g.next
  ge : (F 0).h.next ≤ g.next
  range : ∀ x, (g.next ≤ x ∧ x < h2.next) ↔ ((F j).h.next ≤ x ∧ x < (F (j + 1)).h.next)
  mem : ∀ x, (F j).h.next ≤ x → x < (F (j + 1)).h.next → look h2.mem x = look (F m).h.mem x
  stretch : (F j).h.next < (F (j + 1)).h.next → c ≤ j ∧ j < m
  ghid : ∀ x, (F j).h.next ≤ x → x < (F (j + 1)).h.next → hides g.hid x = false

theorem eval_blank {ns : List Nat} {x : Operand} (h : ∀ t, x = .tmp t → t ∈ ns) : a.eval x = ({ a with tmps := (blank ns a.tmps.toList).toArray } : Act).eval x := by
  cases x with
  | tmp t =>
    have := blank_in (l := a.tmps.toList) (h t rfl)
    simp only [Act.eval, Array.getD_eq_getD_getElem?]
    congr 1
    simp only [List.getElem?_toArray, this, Array.getElem?_toList]
  | const v => rfl
  | global g => rfl
  | func f => rfl

/-- ONE OPERATION, WHENEVER IT COMES: one that stands in no fixed order with all others. -/
theorem fly (R : Run P call ops F) (I : Inv P N M ops F ι0 w0 ds L c m ι a w) (gi : GI P ι) (h0 : ∀ p ∈ (F 0).h.hid, p.2 ≤ (F 0).h.next) {j : Nat} (hj : j < ops.size) (hL : L j = false) (hdown : ∀ i ∈ ancAt (drawnC P ops) j, L i = true)
    (hself : ∀ t, Ideal.dstAt (drawnC P ops) j = some t → t ∈ namesAt ops.toList (drawnC P ops) j) (hjm : (F j).k ≠ .quiet → j < m) {g h2 : Heap} (E : Eye P call ops F L c m j g h2)
    (hrun : ((opC P ops[j].op).exec call (blank (namesAt ops.toList (drawnC P ops) j) (F j).tm) g) = .ret ((F j).v, h2)) (hsel : ∀ cs b, ops[j].op ≠ .select cs b) (hnames : ∀ t, Operand.tmp t ∈ ops[j].op.operands → t ∈ namesAt ops.toList (drawnC P ops) j)
    {K : Act → World → Prop} {Qx : Exit → Act → World → Prop} (hK : ∀ ι1 a1 w1, Inv P N M ops F ι0 w0 ds (fun k => decide (k = j) || L k) c m ι1 a1 w1 → K a1 w1) : ops[j].wpIn (W r) 0 P a w K Qx := by
  have hs := I.res.sim
  have hkeep : Keeps g h2 := by
    have := exec_keeps R.good.keeps (blank (namesAt ops.toList (drawnC P ops) j) (F j).tm) g (opC P ops[j].op)
    rw [hrun] at this
    exact this
  -- the part that it sees
  have hshut : Shut P ops fun k => k ∈ ancAt (drawnC P ops) j := fun k hk => ⟨Nat.lt_trans (R.anc_lt hk) hj, fun i hi => R.anc_anc hk hi⟩
  have hsim : Sim P N h2.next (cut (View F c fun k => k ∈ ancAt (drawnC P ops) j) ι) g w := by
    refine hs.cut E.sub E.sup (fun k hk hk2 => ?_) E.hid fun b o K hv hb hl => I.own _ hshut b o K hv hb hl
    by_cases hv : View F c (fun k => k ∈ ancAt (drawnC P ops) j) (2 * k)
    · have := E.view _ (by omega) hv; omega
    · exact cut_out hv
  have H : Here P N h2.next (cut (View F c fun k => k ∈ ancAt (drawnC P ops) j) ι) g w := by
    refine ⟨hsim, fun x hx => ?_, E.hb, fun k hk => ?_⟩
    · have := gi x hx
      unfold PR at this ⊢
      rw [cut_in (.inl (by omega))]
      exact this
    · by_cases hv : View F c (fun k => k ∈ ancAt (drawnC P ops) j) (2 * k)
      · have := E.view _ (by omega) hv; have := hkeep.next; omega
      · exact cut_out hv
  have ht : VRs (cut (View F c fun k => k ∈ ancAt (drawnC P ops) j) ι) (blank (namesAt ops.toList (drawnC P ops) j) (F j).tm) (blank (namesAt ops.toList (drawnC P ops) j) a.tmps.toList) := by
    refine VRs.of (by rw [blank_len, blank_len, R.tm_len (Nat.le_of_lt hj), ← I.len, Array.length_toList]) fun t x x' h1 h2 => ?_
    by_cases hn : t ∈ namesAt ops.toList (drawnC P ops) j
    · rw [blank_in hn] at h1 h2
      obtain ⟨v, e1, e2⟩ := I.name R hj hL hdown hn (v' := x') (by simpa using h2)
      rw [h1] at e1; cases e1
      exact e2
    · rw [blank_get] at h1 h2
      simp only [Option.map_eq_some_iff, List.contains_iff_mem, hn, if_false] at h1 h2
      obtain ⟨_, _, rfl⟩ := h1
      obtain ⟨_, _, rfl⟩ := h2
      exact VR.undefV _
  refine oper_at (a1 := { a with tmps := (blank (namesAt ops.toList (drawnC P ops) j) a.tmps.toList).toArray }) (Q := fun p => p = ((F j).v, h2)) R.good H (by simpa using ht) (fun p hp => by rw [hp]; exact Nat.le_refl _) ?_ (by rw [hrun]; exact rfl) ?_
  · exact execOp_congr _ hsel fun x hx => eval_blank fun t e => hnames t (e ▸ hx)
  · intro v v' ι2 h' w2 hq hv hR
    simp only [Prod.mk.injEq] at hq
    obtain ⟨e1, e2⟩ := hq
    have e2' := e2.symm
    subst e2'
    have e1' := e1.symm
    subst e1'
    obtain ⟨ι1, hι1⟩ : ∃ ι1 : Ren, ι1 = fun b => if b % 2 = 0 ∧ (F j).h.next ≤ b / 2 ∧ b / 2 < (F (j + 1)).h.next then ι2 b else ι b := ⟨_, rfl⟩
    have hin : ∀ b, (b % 2 = 0 ∧ (F j).h.next ≤ b / 2 ∧ b / 2 < (F (j + 1)).h.next) → ι1 b = ι2 b := fun b hb => by rw [hι1]; simp only; rw [if_pos hb]
    have hout : ∀ b, ¬ (b % 2 = 0 ∧ (F j).h.next ≤ b / 2 ∧ b / 2 < (F (j + 1)).h.next) → ι1 b = ι b := fun b hb => by rw [hι1]; simp only; rw [if_neg hb]
    have f1 : ∀ b, ¬ (b % 2 = 0 ∧ (F j).h.next ≤ b / 2 ∧ b / 2 < (F (j + 1)).h.next) → ι2 b = cut (View F c fun k => k ∈ ancAt (drawnC P ops) j) ι b := fun b hb => by
      rcases hR.same b (fun k k1 k2 e => hb ⟨by omega, by have := (E.range k).1 ⟨k1, k2⟩; omega, by have := (E.range k).1 ⟨k1, k2⟩; omega⟩) with e | ⟨e1, e2, _, K, e3⟩
      · exact e
      · have := E.view b e1 (cut_live e3).1
        rw [E.floor] at e2; omega
    have f2 : ∀ b, (b % 2 = 0 ∧ (F j).h.next ≤ b / 2 ∧ b / 2 < (F (j + 1)).h.next) → ι b = .unborn := fun b hb => by
      obtain ⟨s1, s2⟩ := E.stretch (by omega)
      have := I.unb j s1 s2 hL (b / 2) hb.2.1 hb.2.2
      rwa [show 2 * (b / 2) = b by omega] at this
    have le1 : ι.le ι1 := fun b => by
      by_cases hb : b % 2 = 0 ∧ (F j).h.next ≤ b / 2 ∧ b / 2 < (F (j + 1)).h.next
      · rw [f2 b hb]; trivial
      · rw [hout b hb]; exact Ren.le.refl ι b
    have le2 : ∀ A : Nat → Prop, Shut P ops A → A j → ι2.le (cut (View F c A) ι1) := fun A hA hAj b => by
      by_cases hb : b % 2 = 0 ∧ (F j).h.next ≤ b / 2 ∧ b / 2 < (F (j + 1)).h.next
      · rw [cut_in (.inr (.inr ⟨j, (E.stretch (by omega)).1, hAj, hb.2.1, hb.2.2⟩)), hin b hb]
        exact Ren.le.refl ι2 b
      · rw [f1 b hb]
        by_cases hv : View F c (fun k => k ∈ ancAt (drawnC P ops) j) b
        · rw [cut_in hv, cut_in (View.mono (fun k _ hk => (hA j hAj).2 k hk) hv), hout b hb]
          exact Ren.le.refl ι b
        · rw [cut_out hv]; trivial
    have hup : Shut P ops (Up P ops j) := fun k hk => by
      rcases hk with e | e
      · subst e; exact ⟨hj, fun i hi => .inr hi⟩
      · exact ⟨Nat.lt_trans (R.anc_lt e) hj, fun i hi => .inr (R.anc_anc e hi)⟩
    have noLow : ∀ b K, b % 2 = 0 → g.floor ≤ b / 2 → cut (View F c fun k => k ∈ ancAt (drawnC P ops) j) ι b ≠ .live K := fun b K he hf hl => by
      have := E.view b he (cut_live hl).1
      rw [E.floor] at hf; omega
    have hframe : ∀ k, k < w.heap.size → w2.heap[k]? = w.heap[k]? := fun k hk => hR.frame k hk fun b K he hf hl => absurd hl (noLow b K he hf)
    have hfresh : ∀ b K, (b % 2 = 0 ∧ (F j).h.next ≤ b / 2 ∧ b / 2 < (F (j + 1)).h.next) → ι2 b = .live K → w.heap.size ≤ K.b := fun b K hb hl => by
      have hr2 := (E.range (b / 2)).2 hb.2
      rcases hR.fresh (b / 2) K hr2.1 hr2.2 (by rw [show 2 * (b / 2) = b by omega]; exact hl) with e | ⟨b0, K0, e1, e2, e3, _⟩
      · exact e
      · exact absurd e3 (noLow b0 K0 e1 e2)
    have hget : ∀ b o, (HL F (fun k => decide (k = j) || L k) c m).get b = some o → ((b % 2 = 0 ∧ (F j).h.next ≤ b / 2 ∧ b / 2 < (F (j + 1)).h.next) ∧ h2.get b = some o) ∨ (¬ (b % 2 = 0 ∧ (F j).h.next ≤ b / 2 ∧ b / 2 < (F (j + 1)).h.next) ∧ (HL F L c m).get b = some o) := by
      intro b o hb
      rcases Nat.mod_two_eq_zero_or_one b with he | he
      · obtain ⟨g1, g2, g3⟩ := (HL_some he).1 hb
        by_cases hf : (F j).h.next ≤ b / 2 ∧ b / 2 < (F (j + 1)).h.next
        · refine .inl ⟨⟨he, hf⟩, ?_⟩
          rw [get_even he, hkeep.hid, E.ghid _ hf.1 hf.2, if_neg (by simp), E.mem _ hf.1 hf.2]
          exact g3
        · refine .inr ⟨fun hx => hf hx.2, (HL_some he).2 ⟨?_, g2, g3⟩⟩
          cases hh : hides (hidL F L c m) (b / 2) with
          | false => rfl
          | true =>
            obtain ⟨k, k1, k2, k3, k4, k5⟩ := hidL_iff.1 hh
            have hkj : k ≠ j := fun e => by subst e; exact hf ⟨k4, k5⟩
            rw [hidL_iff.2 ⟨k, k1, k2, by simp [hkj, k3], k4, k5⟩] at g1
            cases g1
      · rw [HL_odd he] at hb
        exact .inr ⟨fun hx => by omega, by rw [HL_odd he]; exact hb⟩
    have honly : ∀ b K, ι1 b = .live K → ((HL F (fun k => decide (k = j) || L k) c m).get b).isSome = true := by
      intro b K hb
      by_cases hf : b % 2 = 0 ∧ (F j).h.next ≤ b / 2 ∧ b / 2 < (F (j + 1)).h.next
      · rw [hin b hf] at hb
        have hs2 := hR.sim.only b K hb
        obtain ⟨o, ho⟩ := Option.isSome_iff_exists.1 hs2
        rw [get_even hf.1, hkeep.hid, E.ghid _ hf.2.1 hf.2.2, if_neg (by simp), E.mem _ hf.2.1 hf.2.2] at ho
        obtain ⟨s1, s2⟩ := E.stretch (by omega)
        refine Option.isSome_iff_exists.2 ⟨o, (HL_some hf.1).2 ⟨?_, ?_, ho⟩⟩
        · rw [R.in_stretch I.mn s1 s2 hf.2.1 hf.2.2]; simp
        · refine hides_false h0 ?_
          exact Nat.le_trans (R.le (Nat.zero_le j) (Nat.le_of_lt hj)) hf.2.1
      · rw [hout b hf] at hb
        have hs2 := hs.only b K hb
        rcases Nat.mod_two_eq_zero_or_one b with he | he
        · obtain ⟨o, ho⟩ := Option.isSome_iff_exists.1 hs2
          obtain ⟨g1, g2, g3⟩ := (HL_some he).1 ho
          refine Option.isSome_iff_exists.2 ⟨o, (HL_some he).2 ⟨?_, g2, g3⟩⟩
          cases hh : hides (hidL F (fun k => decide (k = j) || L k) c m) (b / 2) with
          | false => rfl
          | true =>
            obtain ⟨k, k1, k2, k3, k4, k5⟩ := hidL_iff.1 hh
            simp only [Bool.or_eq_false_iff] at k3
            rw [hidL_iff.2 ⟨k, k1, k2, k3.2, k4, k5⟩] at g1
            cases g1
        · rw [HL_odd he] at hs2 ⊢; exact hs2
    have hsz : ∀ b K, ι b = .live K → K.b < w.heap.size := fun b K hl => by
      rcases Nat.mod_two_eq_zero_or_one b with he | he
      · exact (hs.own b K he hl).2
      · exact Nat.lt_of_lt_of_le (hs.ro b K he hl) hs.size
    have htop : ∀ k, (F m).h.next ≤ k → ι1 (2 * k) = .unborn := fun k hk => by
      rw [hout _ fun hx => ?_]
      · exact I.top k hk
      · have s2 := (E.stretch (by omega)).2
        have := R.le (i := j + 1) (j := m) s2 I.mn
        omega
    obtain ⟨t1, t2⟩ := I.tmps R hj hL hself le1 (Nat.le_refl c) (Nat.le_trans I.cm I.mn) (v' := v') (hv.mono (le2 _ hup (.inl rfl)))
    refine hK ι1 _ w2 ⟨I.cm, I.mn, I.nob, I.last, I.frc, fun k hk hq => by simp [I.low k hk hq], fun k hk hk2 hq => ?_, fun i hi k hk => ?_, fun i hi => ?_, t1, t2, ?_, ?_, ?_, htop, (put_defers _ _ _).trans I.dfr⟩
    · simp only [Bool.or_eq_false_iff, decide_eq_false_iff_not]
      exact ⟨fun e => by subst e; have := hjm hq; omega, I.high k hk hk2 hq⟩
    · simp only [Bool.or_eq_true, decide_eq_true_eq] at hi ⊢
      rcases hi with e | e
      · subst e; exact .inr (hdown k hk)
      · exact .inr (I.down i e k hk)
    · simp only [Bool.or_eq_true, decide_eq_true_eq] at hi
      rcases hi with e | e
      · omega
      · exact I.inn i e
    · -- the step as a whole
      refine ⟨⟨?_, honly, fun k hk _ => htop k hk, ?_, ?_, ?_, Nat.le_trans hs.size hR.grow, R.HL_hid I.mn h0⟩, I.res.le.trans le1, I.res.next, I.res.floor, ?_, ?_, ?_, Nat.le_trans I.res.grow hR.grow, hR.os.trans I.res.os, hR.tape.trans I.res.tape, hR.output.trans I.res.output⟩
      · intro b o hb
        rcases hget b o hb with ⟨hf, hb2⟩ | ⟨hf, hb2⟩
        · obtain ⟨K, k1, k2⟩ := hR.sim.live b o hb2
          exact ⟨K, by rw [hin b hf]; exact k1, k2.mono ((le2 _ hup (.inl rfl)).trans cut_le_self) rfl⟩
        · obtain ⟨K, k1, k2⟩ := hs.live b o hb2
          exact ⟨K, by rw [hout b hf]; exact k1, k2.mono le1 (hframe _ (hsz b K k1))⟩
      · intro b K he hb
        by_cases hf : b % 2 = 0 ∧ (F j).h.next ≤ b / 2 ∧ b / 2 < (F (j + 1)).h.next
        · rw [hin b hf] at hb; exact hR.sim.own b K he hb
        · rw [hout b hf] at hb; exact ⟨(hs.own b K he hb).1, Nat.lt_of_lt_of_le (hs.own b K he hb).2 hR.grow⟩
      · intro b K he hb
        rw [hout b fun hx => by omega] at hb
        exact hs.ro b K he hb
      · intro b d K K' he hd hne hb hdl
        by_cases hf : b % 2 = 0 ∧ (F j).h.next ≤ b / 2 ∧ b / 2 < (F (j + 1)).h.next
        · rw [hin b hf] at hb
          by_cases hf' : d % 2 = 0 ∧ (F j).h.next ≤ d / 2 ∧ d / 2 < (F (j + 1)).h.next
          · rw [hin d hf'] at hdl; exact hR.sim.inj b d K K' he hd hne hb hdl
          · rw [hout d hf'] at hdl
            have := hfresh b K hf hb; have := hsz d K' hdl; omega
        · rw [hout b hf] at hb
          by_cases hf' : d % 2 = 0 ∧ (F j).h.next ≤ d / 2 ∧ d / 2 < (F (j + 1)).h.next
          · rw [hin d hf'] at hdl
            have := hfresh d K' hf' hdl; have := hsz b K hb; omega
          · rw [hout d hf'] at hdl; exact hs.inj b d K K' he hd hne hb hdl
      · intro b hb
        rw [hout b fun hx => ?_]
        · exact I.res.same b hb
        · refine hb (b / 2) (Nat.le_trans (R.le (Nat.zero_le j) (Nat.le_of_lt hj)) hx.2.1) ?_ (by omega)
          exact Nat.lt_of_lt_of_le hx.2.2 (R.le (i := j + 1) (j := m) (E.stretch (by omega)).2 I.mn)
      · intro k hk hno
        rw [hframe k (Nat.lt_of_lt_of_le hk I.res.grow)]
        exact I.res.frame k hk hno
      · intro k K k1 k2 hl
        by_cases hf : (2 * k) % 2 = 0 ∧ (F j).h.next ≤ (2 * k) / 2 ∧ (2 * k) / 2 < (F (j + 1)).h.next
        · rw [hin _ hf] at hl
          exact .inl (Nat.le_trans I.res.grow (hfresh _ K hf hl))
        · rw [hout _ hf] at hl; exact I.res.fresh k K k1 k2 hl
    · -- what blocks hold
      intro A hA b o K hvA hb hl
      rcases hget b o hb with ⟨hf, hb2⟩ | ⟨hf, hb2⟩
      · rw [hin b hf] at hl
        obtain ⟨s1, s2⟩ := E.stretch (by omega)
        have hAj : A j := by
          rcases hvA with e | e | ⟨k, k1, k2, k3, k4⟩
          · omega
          · have := R.le (i := c) (j := j) s1 (Nat.le_of_lt hj); omega
          · have : k = j := R.apart (hA k k2).1 hj k3 k4 hf.2.1 hf.2.2
            exact this ▸ k2
        obtain ⟨K', k1, k2⟩ := hR.sim.live b o hb2
        rw [hl] at k1; cases k1
        exact k2.mono (le2 A hA hAj) rfl
      · rw [hout b hf] at hl
        exact (I.own A hA b o K hvA hb2 hl).mono (cut_le (fun _ h => h) le1) (hframe _ (hsz b K hl))
    · intro k k1 k2 k3 x x1 x2
      simp only [Bool.or_eq_false_iff, decide_eq_false_iff_not] at k3
      rw [hout _ fun hx => ?_]
      · exact I.unb k k1 k2 k3.2 x x1 x2
      · exact k3.1 (R.apart (Nat.lt_of_lt_of_le k2 I.mn) hj x1 x2 (by omega) (by omega))
end
end Go.Ideal

/-
  A REGION WHOSE ORDER IS DRAWN comes to what the order of the text comes to.
-/
namespace Go.Ideal
open Go Go.RowKit
section
variable {P : Program} {call : Caller} {ops : Array Oper} {F : Nat → Tr}
variable {N M : Nat} {ι0 : Ren} {w0 : World} {ds : List Deferred} {L : Nat → Bool} {c m : Nat} {ι : Ren} {a : Act} {w : World} {r : Option Nat}

theorem Res.retarget {h0 H g : Heap} (R : Res P N M ι0 h0 w0 ι H w) (hget : ∀ b, g.get b = H.get b) (hn : H.next ≤ g.next) (hf : g.floor = H.floor) (hh : ∀ p ∈ g.hid, p.2 ≤ g.next) (hnew : ∀ k, H.next ≤ k → ι (2 * k) = .unborn) : Res P N M ι0 h0 w0 ι g w := by
  have s := R.sim
  refine ⟨⟨fun b o hb => s.live b o (by rw [← hget]; exact hb), fun b K hb => by rw [hget]; exact s.only b K hb, fun k hk _ => hnew k (by omega), s.own, s.ro, s.inj, s.size, hh⟩, R.le, Nat.le_trans R.next hn, hf.trans R.floor, fun b hb => R.same b fun k k1 k2 => hb k k1 (by omega), R.frame, fun k K k1 k2 hl => ?_, R.grow, R.os, R.tape, R.output⟩
  rcases Nat.lt_or_ge k H.next with h | h
  · exact R.fresh k K k1 h hl
  · rw [hnew k h] at hl; cases hl

theorem Run.quiet_empty (R : Run P call ops F) {k : Nat} (hk : k < ops.size) (h : (F k).h.next < (F (k + 1)).h.next) : (F k).k ≠ .quiet := by
  intro e
  obtain ⟨anc, bar, _, h2, h3⟩ := R.at_ hk
  rw [e] at h3
  rw [h3.1] at h
  omega

/-- What an operation is, once its guard is one that can be looked up. -/
theorem Run.oper (R : Run P call ops F) {k : Nat} (hk : k < ops.size) : guardC ops ops[k].guard ≠ none ∧ ∃ o, (drawnC P ops)[k]? = some o ∧ o.op = opC P ops[k].op ∧ o.dst = ops[k].dst ∧ guardC ops ops[k].guard = some o.guard ∧ o.anc = ancAt (drawnC P ops) k ∧ Step call o k (F k) (F (k + 1)) := by
  obtain ⟨anc, bar, h1, h2⟩ := R.at_ hk
  have hg : guardC ops ops[k].guard ≠ none := by
    intro e
    have eo : operC P ops anc bar ops[k] = { dst := ops[k].dst, op := .bad, guard := none, anc := anc, bar := bar } := by simp [operC, e]
    rw [eo] at h2
    obtain ⟨_, h3⟩ := h2
    cases hkk : (F k).k <;> rw [hkk] at h3
    · rcases h3.2.2 with ⟨e1, _⟩ | ⟨_, e2, _⟩
      · simp [wants] at e1
      · simp [IOp.isPure] at e2
    · have := h3.2.2.2.1; simp [IOp.exec, IOp.run] at this
    · obtain ⟨_, _, g2, e1, _⟩ := h3; simp [IOp.exec, IOp.run] at e1
  refine ⟨hg, _, h1, ?_, ?_, ?_, ?_, h2⟩
  · unfold operC; split
    · rfl
    · rename_i e; exact absurd e hg
  · unfold operC; split <;> rfl
  · unfold operC; split
    · rename_i e; exact e
    · rename_i e; exact absurd e hg
  · simp only [ancAt, h1]

theorem Run.self (R : Run P call ops F) {j t : Nat} (hj : j < ops.size) (h : Ideal.dstAt (drawnC P ops) j = some t) : t ∈ namesAt ops.toList (drawnC P ops) j := by
  obtain ⟨_, o, h1, h2, h3, _⟩ := R.oper hj
  simp only [Ideal.dstAt, h1, Option.bind_some] at h
  simp only [namesAt, h1]
  refine List.mem_append_left _ (List.mem_append_left _ (List.mem_append_left _ ?_))
  rw [h]; simp

theorem Run.reads (R : Run P call ops F) {j t : Nat} (hj : j < ops.size) (h : Operand.tmp t ∈ ops[j].op.operands) : t ∈ namesAt ops.toList (drawnC P ops) j := by
  have : ops.toList[j]? = some ops[j] := by simp [hj]
  simp only [namesAt, this]
  refine List.mem_append_right _ ?_
  simp only [operTmps, List.mem_filterMap]
  exact ⟨.tmp t, by simpa using h, rfl⟩

theorem Run.noSelect (R : Run P call ops F) {j : Nat} (hj : j < ops.size) (hw : ∃ tm h v q, (opC P ops[j].op).exec call tm h = .ret (v, q)) : ∀ cs b, ops[j].op ≠ .select cs b := by
  intro cs b e
  obtain ⟨tm, h, v, q, hq⟩ := hw
  have : opC P (.select cs b) = .bad := by unfold opC; split <;> rfl
  rw [e, this] at hq
  simp [IOp.exec, IOp.run] at hq

/-- The j-th on blanked temporaries. -/
theorem Run.blanked (R : Run P call ops F) {j : Nat} (hj : j < ops.size) {o : IOper} (ho : (drawnC P ops)[j]? = some o) (h : Heap) (tm : List Value) : o.op.exec call (blank (namesAt ops.toList (drawnC P ops) j) tm) h = o.op.exec call tm h := by
  refine exec_congr call h o.op fun x hx => ?_
  cases x with
  | const v => rfl
  | tmp t =>
    simp only [Opd.eval]
    refine blank_getD ?_
    simp only [namesAt, ho]
    refine List.mem_append_left _ (List.mem_append_left _ (List.mem_append_right _ ?_))
    simp only [List.mem_filterMap]
    exact ⟨.tmp t, hx, rfl⟩

theorem Run.wantsAt (R : Run P call ops F) (I : Inv P N M ops F ι0 w0 ds L c m ι a w) {j : Nat} (hj : j < ops.size) (hL : L j = false) (hdown : ∀ i ∈ ancAt (drawnC P ops) j, L i = true) {o : IOper} (ho : (drawnC P ops)[j]? = some o) (hg : guardC ops ops[j].guard = some o.guard) :
    wants (F j).tm o.guard = Region.wanted ops[j] (yielded ops a.tmps) := by
  cases hgd : ops[j].guard with
  | none =>
    rw [hgd] at hg
    simp only [guardC, Option.some.injEq] at hg
    rw [← hg]
    simp [wants, Region.wanted, hgd]
  | some p =>
    obtain ⟨i, b⟩ := p
    rw [hgd] at hg
    simp only [guardC] at hg
    cases hd : (ops[i]?).bind (·.dst) with
    | none => rw [hd] at hg; cases hg
    | some d =>
      rw [hd] at hg
      simp only [Option.some.injEq] at hg
      have hn : d ∈ namesAt ops.toList (drawnC P ops) j := by
        simp only [namesAt, ho]
        refine List.mem_append_left _ (List.mem_append_right _ ?_)
        rw [← hg]; simp
      rw [← hg]
      simp only [wants, Region.wanted, hgd, yielded, hd, Option.bind_some]
      cases ht : a.tmps[d]? with
      | none =>
        have : (F j).tm[d]? = none := by
          rw [List.getElem?_eq_none_iff, R.tm_len (Nat.le_of_lt hj), ← I.len]
          simpa using ht
        rw [this]; simp
      | some v' =>
        obtain ⟨v, e1, e2⟩ := I.name R hj hL hdown hn ht
        rw [e1]
        cases e2 <;> simp

theorem next_bar {n : Nat} : ∀ (d c : Nat), c + d = n → ∃ m, c ≤ m ∧ m ≤ n ∧ (∀ k, c ≤ k → k < m → (F k).k ≠ .bar) ∧ (m = n ∨ (F m).k = .bar)
  | 0, c, h => ⟨c, Nat.le_refl _, by omega, fun k h1 h2 => by omega, .inl (by omega)⟩
  | d + 1, c, h => by
    by_cases hb : (F c).k = .bar
    · exact ⟨c, Nat.le_refl _, by omega, fun k h1 h2 => by omega, .inr hb⟩
    · obtain ⟨m, h1, h2, h3, h4⟩ := next_bar (n := n) d (c + 1) (by omega)
      refine ⟨m, by omega, h2, fun k k1 k2 => ?_, h4⟩
      rcases Nat.lt_or_ge c k with e | e
      · exact h3 k e k2
      · have : k = c := by omega
        rw [this]; exact hb

/-- A stretch begins. -/
theorem reopen (R : Run P call ops F) (h0 : ∀ p ∈ (F 0).h.hid, p.2 ≤ (F 0).h.next) (hc : c ≤ ops.size) (frc : (F c).fr = []) (low : ∀ k, k < c → (F k).k ≠ .quiet → L k = true) (high : ∀ k, c ≤ k → k < ops.size → (F k).k ≠ .quiet → L k = false)
    (down : ∀ i, L i = true → ∀ j ∈ ancAt (drawnC P ops) i, L j = true) (inn : ∀ i, L i = true → i < ops.size) (len : a.tmps.size = (F 0).tm.length)
    (tmp : ∀ t v', a.tmps[t]? = some v' → (∃ i, L i = true ∧ Ideal.dstAt (drawnC P ops) i = some t ∧ (∀ k, L k = true → Ideal.dstAt (drawnC P ops) k = some t → k ≤ i) ∧ VR (cut (View F c (Up P ops i)) ι) (F i).v v') ∨
      ((∀ i, L i = true → Ideal.dstAt (drawnC P ops) i ≠ some t) ∧ ∃ v, (F 0).tm[t]? = some v ∧ VR (cut (View F c fun _ => False) ι) v v'))
    (res : Res P N M ι0 (F 0).h w0 ι (F c).h w) (top : ∀ k, (F c).h.next ≤ k → ι (2 * k) = .unborn) (dfr : a.defers = ds) : ∃ m, Inv P N M ops F ι0 w0 ds L c m ι a w := by
  obtain ⟨m, m1, m2, m3, m4⟩ := next_bar (F := F) (n := ops.size) (ops.size - c) c (by omega)
  have hL : ∀ k, c ≤ k → k < m → (F k).h.next < (F (k + 1)).h.next → L k = false := fun k k1 k2 k3 => high k k1 (by omega) (R.quiet_empty (by omega) k3)
  have hget : ∀ b, (HL F L c m).get b = (F c).h.get b := by
    intro b
    rcases Nat.mod_two_eq_zero_or_one b with he | he
    · rw [HL_even he, get_even he, R.hid hc]
      cases hh0 : hides (F 0).h.hid (b / 2) with
      | true => simp
      | false =>
        simp only [Bool.or_false, Bool.false_eq_true, if_false]
        rcases Nat.lt_or_ge (b / 2) (F c).h.next with h1 | h1
        · rw [R.below_stretch m2 h1, if_neg (by simp)]
          exact R.same m1 m2 m3 h1
        · rw [R.hbAt hc _ h1]
          split
          · rfl
          · rename_i hh
            rcases Nat.lt_or_ge (b / 2) (F m).h.next with h2 | h2
            · obtain ⟨k, k1, k2, k3, k4⟩ := tile (F := F) (d := m - c) (i := c) h1 (by rw [show c + (m - c) = m by omega]; exact h2)
              exfalso
              apply hh
              rw [R.in_stretch m2 k1 (by omega) k3 k4, hL k k1 (by omega) (by omega)]
              rfl
            · exact R.hbAt m2 _ h2
    · rw [HL_odd he, get_odd he, get_odd he, R.ro hc, R.ro m2]
  have res' : Res P N M ι0 (F 0).h w0 ι (HL F L c m) w := res.retarget hget (R.le m1 m2) (by show (F m).h.floor = _; rw [R.floor m2, R.floor hc]) (R.HL_hid m2 h0) top
  refine ⟨m, m1, m2, m3, m4, frc, low, fun k k1 => high k (by omega), down, inn, len, tmp, res', ?_, fun j j1 j2 _ k k1 k2 => top k ?_, fun k hk => top k ?_, dfr⟩
  · intro A hA b o K _ hb hl
    rw [hget] at hb
    obtain ⟨K', k1, k2⟩ := res.sim.live b o hb
    rw [hl] at k1; cases k1
    refine k2.mono (le_cut (Ren.le.refl _) fun d hd => ?_) rfl
    rcases Nat.mod_two_eq_zero_or_one d with he | he
    · refine .inr (.inl (Nat.lt_of_not_le fun h => hd ?_))
      have := top (d / 2) h
      rwa [show 2 * (d / 2) = d by omega] at this
    · exact .inl he
  · exact Nat.le_trans (R.le j1 (by omega)) k1
  · exact Nat.le_trans (R.le m1 m2) hk

theorem Run.kinds (R : Run P call ops F) {k : Nat} (hk : k < ops.size) : ((F k).k ≠ .quiet → pureAt (drawnC P ops) k = false) ∧ ((F k).k = .bar → barAt (drawnC P ops) k = true) := by
  obtain ⟨_, o, h1, _, _, _, _, h2, h3⟩ := R.oper hk
  refine ⟨fun h => ?_, fun h => ?_⟩
  · simp only [pureAt, h1]
    cases hkk : (F k).k <;> rw [hkk] at h3
    · exact absurd hkk h
    · exact h3.2.1
    · exact h3.2.1
  · rw [h] at h3
    simp only [barAt, h1]
    exact h3.2.2.1

/-- Before a bar all is done. -/
theorem Run.bar_done (R : Run P call ops F) {m k : Nat} (hm : m < ops.size) (hb : (F m).k = .bar) (hk : k < ops.size) (hne : m ≠ k) (hq : (F k).k ≠ .quiet) : k ∈ ancAt (drawnC P ops) m ∨ m ∈ ancAt (drawnC P ops) k := by
  rcases (R.okAt hm).2.2 k hk hne with e | e | ⟨_, e⟩
  · exact .inl e
  · exact .inr e
  · have := e ((R.kinds hm).2 hb)
    rw [(R.kinds hk).1 hq] at this; cases this

/-- Where one that may come now stands. -/
theorem Inv.place (R : Run P call ops F) (I : Inv P N M ops F ι0 w0 ds L c m ι a w) {j : Nat} (hj : j < ops.size) (hL : L j = false) (hdown : ∀ i ∈ ancAt (drawnC P ops) j, L i = true) (hq : (F j).k ≠ .quiet) : c ≤ j ∧ ((F j).k = .bar → j = m) ∧ ((F j).k ≠ .bar → j < m) := by
  have h1 : c ≤ j := Nat.le_of_not_lt fun h => by have := I.low j h hq; rw [hL] at this; cases this
  have h2 : ¬ m < j := fun h => by
    rcases I.last with e | e
    · omega
    · rcases R.bar_done (m := m) (by omega) e hj (by omega) hq with x | x
      · have := R.anc_lt x; omega
      · have := hdown m x
        rw [I.high m (Nat.le_refl _) (by omega) (by rw [e]; simp)] at this; cases this
  refine ⟨h1, fun hb => ?_, fun hb => ?_⟩
  · rcases Nat.lt_trichotomy j m with h | h | h
    · exact absurd hb (I.nob j h1 h)
    · exact h
    · exact absurd h h2
  · rcases Nat.lt_trichotomy j m with h | h | h
    · exact h
    · rcases I.last with e | e
      · omega
      · rw [← h] at e; exact absurd e hb
    · exact absurd h h2
end
end Go.Ideal

/-
  A REGION WHOSE ORDER IS DRAWN: all orders.
-/
namespace Go.Ideal
open Go Go.RowKit
section
variable {P : Program} {call : Caller} {ops : Array Oper} {F : Nat → Tr}
variable {N M : Nat} {ι0 : Ren} {w0 : World} {ds : List Deferred} {L : Nat → Bool} {c m : Nat} {ι : Ren} {a : Act} {w : World} {r : Option Nat}

/-- What looks at no memory. -/
theorem eye_pure (R : Run P call ops F) (I : Inv P N M ops F ι0 w0 ds L c m ι a w) (h0 : ∀ p ∈ (F 0).h.hid, p.2 ≤ (F 0).h.next) {j : Nat} (hj : j < ops.size) (hdown : ∀ i ∈ ancAt (drawnC P ops) j, L i = true) (hq : (F j).k = .quiet) :
    Eye P call ops F L c m j { HL F (fun k => decide (k ∈ ancAt (drawnC P ops) j)) c m with floor := (F m).h.next } { HL F (fun k => decide (k ∈ ancAt (drawnC P ops) j)) c m with floor := (F m).h.next } := by
  have hempty : ¬ (F j).h.next < (F (j + 1)).h.next := fun h => R.quiet_empty hj h hq
  have hlt : ∀ k, c ≤ k → k ∈ ancAt (drawnC P ops) j → (F k).h.next < (F (k + 1)).h.next → k < m := fun k k1 k2 k3 => by
    have hkn : k < ops.size := Nat.lt_trans (R.anc_lt k2) hj
    refine Nat.lt_of_not_le fun h => ?_
    have := I.high k h hkn (R.quiet_empty hkn k3)
    rw [hdown k k2] at this; cases this
  have gget : ∀ b, ({ HL F (fun k => decide (k ∈ ancAt (drawnC P ops) j)) c m with floor := (F m).h.next } : Heap).get b = (HL F (fun k => decide (k ∈ ancAt (drawnC P ops) j)) c m).get b := fun b => rfl
  refine ⟨fun b o hb => ?_, fun b hv hb => ?_, rfl, R.HL_hid I.mn h0, R.hbAt I.mn, fun b he hv => ?_, R.le (Nat.zero_le m) I.mn, fun x => ?_, fun x x1 x2 => by omega, fun h => absurd h hempty, fun x x1 x2 => by omega⟩
  · rw [gget] at hb
    rcases Nat.mod_two_eq_zero_or_one b with he | he
    · obtain ⟨g1, g2, g3⟩ := (HL_some he).1 hb
      have hbm : b / 2 < (F m).h.next := Nat.lt_of_not_le fun h => by rw [R.hbAt I.mn _ h] at g3; cases g3
      rcases Nat.lt_or_ge (b / 2) (F c).h.next with h1 | h1
      · exact ⟨.inr (.inl h1), (HL_some he).2 ⟨R.below_stretch I.mn h1, g2, g3⟩⟩
      · have hcm := I.cm
        obtain ⟨k, k1, k2, k3, k4⟩ := tile (F := F) (d := m - c) (i := c) h1 (by rw [show c + (m - c) = m by omega]; exact hbm)
        rw [R.in_stretch I.mn k1 (by omega) k3 k4] at g1
        have hka : k ∈ ancAt (drawnC P ops) j := by simpa using g1
        refine ⟨.inr (.inr ⟨k, k1, hka, k3, k4⟩), (HL_some he).2 ⟨?_, g2, g3⟩⟩
        rw [R.in_stretch I.mn k1 (by omega) k3 k4, hdown k hka]; rfl
    · rw [HL_odd he] at hb
      exact ⟨.inl he, by rw [HL_odd he]; exact hb⟩
  · rw [gget]
    rcases Nat.mod_two_eq_zero_or_one b with he | he
    · obtain ⟨o, ho⟩ := Option.isSome_iff_exists.1 hb
      obtain ⟨g1, g2, g3⟩ := (HL_some he).1 ho
      refine Option.isSome_iff_exists.2 ⟨o, (HL_some he).2 ⟨?_, g2, g3⟩⟩
      rcases hv with e | e | ⟨k, k1, k2, k3, k4⟩
      · omega
      · exact R.below_stretch I.mn e
      · rw [R.in_stretch I.mn k1 (hlt k k1 k2 (by omega)) k3 k4]; simp [k2]
    · rw [HL_odd he] at hb ⊢; exact hb
  · show b / 2 < (F m).h.next
    rcases hv with e | e | ⟨k, k1, k2, k3, k4⟩
    · omega
    · exact Nat.lt_of_lt_of_le e (R.le I.cm I.mn)
    · exact Nat.lt_of_lt_of_le k4 (R.le (hlt k k1 k2 (by omega)) I.mn)
  · constructor
    · rintro ⟨x1, x2⟩; exact absurd x1 (by omega)
    · rintro ⟨x1, x2⟩; omega

/-- What looks at memory, and stands in no fixed order with all others. -/
theorem eye_free (R : Run P call ops F) (I : Inv P N M ops F ι0 w0 ds L c m ι a w) (h0 : ∀ p ∈ (F 0).h.hid, p.2 ≤ (F 0).h.next) {j : Nat} (hj : j < ops.size) (hdown : ∀ i ∈ ancAt (drawnC P ops) j, L i = true) (hcj : c ≤ j) (hjm : j < m) {h2 : Heap}
    (hk : Keeps (seen (F j) (ancAt (drawnC P ops) j)) h2) (he2 : (F (j + 1)).h = { h2 with floor := (F j).h.floor, hid := (F j).h.hid }) :
    Eye P call ops F L c m j (seen (F j) (ancAt (drawnC P ops) j)) h2 := by
  have hjs : j ≤ ops.size := Nat.le_of_lt hj
  have hnob : ∀ k, c ≤ k → k < j → (F k).k ≠ .bar := fun k k1 k2 => I.nob k k1 (by omega)
  have hnx : h2.next = (F (j + 1)).h.next := by rw [he2]
  have hmem : h2.mem = (F (j + 1)).h.mem := by rw [he2]
  have hfr := R.frs I.frc hcj hjs hnob
  have hsnext : (seen (F j) (ancAt (drawnC P ops) j)).next = (F j).h.next := rfl
  -- what is hidden
  have hhid : ∀ x, hides (seen (F j) (ancAt (drawnC P ops) j)).hid x = (hides (((F j).fr.filter fun p => !(ancAt (drawnC P ops) j).contains p.1).map (·.2)) x || hides (F 0).h.hid x) := fun x => by
    simp only [seen, hides_append, R.hid hjs]
  have hfrs : ∀ x, hides (((F j).fr.filter fun p => !(ancAt (drawnC P ops) j).contains p.1).map (·.2)) x = true ↔ ∃ k, c ≤ k ∧ k < j ∧ k ∉ ancAt (drawnC P ops) j ∧ (F k).h.next ≤ x ∧ x < (F (k + 1)).h.next := fun x => by
    rw [hides_iff]
    constructor
    · rintro ⟨p, hp, p1, p2⟩
      obtain ⟨q, hq, rfl⟩ := List.mem_map.1 hp
      simp only [List.mem_filter, Bool.not_eq_true', hfr] at hq
      obtain ⟨⟨k, k1, k2, k3, rfl⟩, hn⟩ := hq
      exact ⟨k, k1, k2, by simpa using hn, p1, p2⟩
    · rintro ⟨k, k1, k2, k3, k4, k5⟩
      refine ⟨((F k).h.next, (F (k + 1)).h.next), List.mem_map.2 ⟨(k, (F k).h.next, (F (k + 1)).h.next), ?_, rfl⟩, k4, k5⟩
      simp only [List.mem_filter, Bool.not_eq_true', hfr]
      exact ⟨⟨k, k1, k2, by omega, rfl⟩, by simpa using k3⟩
  have hsome : ∀ b o, b % 2 = 0 → ((seen (F j) (ancAt (drawnC P ops) j)).get b = some o ↔ hides (((F j).fr.filter fun p => !(ancAt (drawnC P ops) j).contains p.1).map (·.2)) (b / 2) = false ∧ hides (F 0).h.hid (b / 2) = false ∧ look (F j).h.mem (b / 2) = some o) := fun b o he => by
    rw [get_even he, hhid]
    cases h1 : hides (((F j).fr.filter fun p => !(ancAt (drawnC P ops) j).contains p.1).map (·.2)) (b / 2) <;> cases h2 : hides (F 0).h.hid (b / 2) <;> simp [seen]
  have hlook : ∀ x, x < (F j).h.next → look (F m).h.mem x = look (F j).h.mem x := fun x hx => R.same (Nat.le_of_lt hjm) I.mn (fun k k1 k2 => I.nob k (by omega) k2) hx
  refine ⟨fun b o hb => ?_, fun b hv hb => ?_, rfl, fun p hp => ?_, R.hbAt hjs, fun b he hv => ?_, R.le (Nat.zero_le j) hjs, fun x => by rw [hnx]; exact Iff.rfl, fun x x1 x2 => ?_, fun _ => ⟨hcj, hjm⟩, fun x x1 x2 => ?_⟩
  · rcases Nat.mod_two_eq_zero_or_one b with he | he
    · obtain ⟨g1, g2, g3⟩ := (hsome b o he).1 hb
      have hbj : b / 2 < (F j).h.next := Nat.lt_of_not_le fun h => by rw [R.hbAt hjs _ h] at g3; cases g3
      rcases Nat.lt_or_ge (b / 2) (F c).h.next with h1 | h1
      · exact ⟨.inr (.inl h1), (HL_some he).2 ⟨R.below_stretch I.mn h1, g2, by rw [hlook _ hbj]; exact g3⟩⟩
      · obtain ⟨k, k1, k2, k3, k4⟩ := tile (F := F) (d := j - c) (i := c) h1 (by rw [show c + (j - c) = j by omega]; exact hbj)
        have hka : k ∈ ancAt (drawnC P ops) j := Classical.byContradiction fun hn => by
          rw [(hfrs _).2 ⟨k, k1, by omega, hn, k3, k4⟩] at g1; cases g1
        refine ⟨.inr (.inr ⟨k, k1, hka, k3, k4⟩), (HL_some he).2 ⟨?_, g2, by rw [hlook _ hbj]; exact g3⟩⟩
        rw [R.in_stretch I.mn k1 (by omega) k3 k4, hdown k hka]; rfl
    · refine ⟨.inl he, ?_⟩
      rw [HL_odd he, get_odd he, R.ro I.mn, ← R.ro hjs]
      rw [get_odd he] at hb
      exact hb
  · rcases Nat.mod_two_eq_zero_or_one b with he | he
    · obtain ⟨o, ho⟩ := Option.isSome_iff_exists.1 hb
      obtain ⟨g1, g2, g3⟩ := (HL_some he).1 ho
      have hbj : b / 2 < (F j).h.next := by
        rcases hv with e | e | ⟨k, k1, k2, k3, k4⟩
        · omega
        · exact Nat.lt_of_lt_of_le e (R.le hcj hjs)
        · exact Nat.lt_of_lt_of_le k4 (R.le (R.anc_lt k2) hjs)
      refine Option.isSome_iff_exists.2 ⟨o, (hsome b o he).2 ⟨?_, g2, by rw [← hlook _ hbj]; exact g3⟩⟩
      cases hh : hides (((F j).fr.filter fun p => !(ancAt (drawnC P ops) j).contains p.1).map (·.2)) (b / 2) with
      | false => rfl
      | true =>
        obtain ⟨i, i1, i2, i3, i4, i5⟩ := (hfrs _).1 hh
        rcases hv with e | e | ⟨k, k1, k2, k3, k4⟩
        · omega
        · have := R.le (i := c) (j := i) i1 (by omega); omega
        · have : i = k := R.apart (by omega) (Nat.lt_trans (R.anc_lt k2) hj) i4 i5 k3 k4
          subst this; exact absurd k2 i3
    · rw [HL_odd he, get_odd he, R.ro I.mn, ← R.ro hjs] at hb
      rw [get_odd he]
      exact hb
  · simp only [seen, List.mem_append] at hp
    rcases hp with hp | hp
    · obtain ⟨q, hq, rfl⟩ := List.mem_map.1 hp
      simp only [List.mem_filter, hfr] at hq
      obtain ⟨⟨k, k1, k2, k3, rfl⟩, _⟩ := hq
      exact R.le (i := k + 1) (j := j) k2 hjs
    · rw [R.hid hjs] at hp
      exact Nat.le_trans (h0 p hp) (R.le (Nat.zero_le j) hjs)
  · rw [hsnext]
    rcases hv with e | e | ⟨k, k1, k2, k3, k4⟩
    · omega
    · exact Nat.lt_of_lt_of_le e (R.le hcj hjs)
    · exact Nat.lt_of_lt_of_le k4 (R.le (R.anc_lt k2) hjs)
  · rw [hmem]
    exact (R.same (i := j + 1) (j := m) hjm I.mn (fun k k1 k2 => I.nob k (by omega) k2) x2).symm
  · cases hh : hides (seen (F j) (ancAt (drawnC P ops) j)).hid x with
    | false => rfl
    | true =>
      rw [hhid] at hh
      simp only [Bool.or_eq_true] at hh
      rcases hh with hh | hh
      · obtain ⟨i, i1, i2, i3, i4, i5⟩ := (hfrs _).1 hh
        have := R.le (i := i + 1) (j := j) i2 hjs
        omega
      · rw [hides_false h0 (Nat.le_trans (R.le (Nat.zero_le j) hjs) x1)] at hh; cases hh

/-- ONE OPERATION, WHENEVER IT COMES: one that stands in a fixed order with all. -/
theorem bar_step (R : Run P call ops F) (I : Inv P N M ops F ι0 w0 ds L c m ι a w) (gi : GI P ι) (h0 : ∀ p ∈ (F 0).h.hid, p.2 ≤ (F 0).h.next) (hM : (F ops.size).h.next ≤ M) (hm : m < ops.size) (hL : L m = false) (hdown : ∀ i ∈ ancAt (drawnC P ops) m, L i = true) (hb : (F m).k = .bar)
    {K : Act → World → Prop} {Qx : Exit → Act → World → Prop} (hK : ∀ ι1 c1 m1 a1 w1, Inv P N M ops F ι0 w0 ds (fun k => decide (k = m) || L k) c1 m1 ι1 a1 w1 → K a1 w1) : ops[m].wpIn (W r) 0 P a w K Qx := by
  obtain ⟨hg, o, ho, hop, hdst, hgu, hanc, hst, hstep⟩ := R.oper hm
  rw [hb] at hstep
  obtain ⟨hwant, hpure, hbar, hrun, hfr⟩ := hstep
  have hdone : ∀ k, k < m → (F k).k ≠ .quiet → L k = true := fun k k1 k2 => by
    rcases R.bar_done hm hb (k := k) (by omega) (by omega) k2 with e | e
    · exact hdown k e
    · have := R.anc_lt e; omega
  have hnone : ∀ x, hides (hidL F L c m) x = false := fun x => by
    cases hh : hides (hidL F L c m) x with
    | false => rfl
    | true =>
      obtain ⟨k, k1, k2, k3, k4, k5⟩ := hidL_iff.1 hh
      rw [hdone k k2 (R.quiet_empty (by omega) (by omega))] at k3; cases k3
  have hget : ∀ b, (F m).h.get b = (HL F L c m).get b := fun b => by
    rcases Nat.mod_two_eq_zero_or_one b with he | he
    · rw [HL_even he, get_even he, hnone, R.hid I.mn]; simp
    · rw [HL_odd he]
  have res : Res P N M ι0 (F 0).h w0 ι (F m).h w := I.res.retarget hget (Nat.le_refl _) rfl (fun p hp => by
    rw [R.hid I.mn] at hp; exact Nat.le_trans (h0 p hp) (R.le (Nat.zero_le m) I.mn)) I.top
  have H : Here P N M ι (F m).h w := ⟨res.sim, gi, R.hbAt I.mn, fun k hk => I.top k (Nat.le_trans (Nat.le_trans (R.le I.mn (Nat.le_refl _)) hM) hk)⟩
  have ht : VRs ι (blank (namesAt ops.toList (drawnC P ops) m) (F m).tm) (blank (namesAt ops.toList (drawnC P ops) m) a.tmps.toList) := by
    refine VRs.of (by rw [blank_len, blank_len, R.tm_len I.mn, ← I.len, Array.length_toList]) fun t x x' h1 h2 => ?_
    by_cases hn : t ∈ namesAt ops.toList (drawnC P ops) m
    · rw [blank_in hn] at h1 h2
      obtain ⟨v, e1, e2⟩ := I.name R hm hL hdown hn (v' := x') (by simpa using h2)
      rw [h1] at e1; cases e1
      exact e2.mono cut_le_self
    · rw [blank_get] at h1 h2
      simp only [Option.map_eq_some_iff, List.contains_iff_mem, hn, if_false] at h1 h2
      obtain ⟨_, _, rfl⟩ := h1
      obtain ⟨_, _, rfl⟩ := h2
      exact VR.undefV _
  have hrun' : (opC P ops[m].op).exec call (blank (namesAt ops.toList (drawnC P ops) m) (F m).tm) (F m).h = .ret ((F m).v, (F (m + 1)).h) := by
    rw [← hop, R.blanked hm ho]; exact hrun
  have hm1 : (F (m + 1)).h.next ≤ M := Nat.le_trans (R.le (i := m + 1) hm (Nat.le_refl _)) hM
  refine oper_at (a1 := { a with tmps := (blank (namesAt ops.toList (drawnC P ops) m) a.tmps.toList).toArray }) (Q := fun p => p = ((F m).v, (F (m + 1)).h)) R.good H (by simpa using ht) (fun p hp => by rw [hp]; exact hm1) ?_ (by rw [hrun']; exact rfl) ?_
  · exact execOp_congr _ (R.noSelect hm ⟨_, _, _, _, hrun'⟩) fun x hx => eval_blank fun t e => R.reads hm (e ▸ hx)
  · intro v v' ι2 h' w2 hq hv hR
    simp only [Prod.mk.injEq] at hq
    obtain ⟨e1, e2⟩ := hq
    subst e1; subst e2
    have H2 := H.step hR (R.keep1 hm) hm1
    have htop : ∀ k, (F (m + 1)).h.next ≤ k → ι2 (2 * k) = .unborn := H2.none_above
    have hv' : VR (cut (View F (m + 1) (Up P ops m)) ι2) (F m).v v' := hv.mono (le_cut (Ren.le.refl _) fun d hd => by
      rcases Nat.mod_two_eq_zero_or_one d with he | he
      · refine .inr (.inl (Nat.lt_of_not_le fun h => hd ?_))
        have := htop (d / 2) h
        rwa [show 2 * (d / 2) = d by omega] at this
      · exact .inl he)
    obtain ⟨t1, t2⟩ := I.tmps R hm hL (fun t => R.self hm) hR.le (c' := m + 1) (Nat.le_succ_of_le I.cm) hm hv'
    have q1 : ∀ k, k < m + 1 → (F k).k ≠ .quiet → (decide (k = m) || L k) = true := fun k k1 k2 => by
      simp only [Bool.or_eq_true, decide_eq_true_eq]
      rcases Nat.lt_or_ge k m with e | e
      · exact .inr (hdone k e k2)
      · exact .inl (by omega)
    have q2 : ∀ k, m + 1 ≤ k → k < ops.size → (F k).k ≠ .quiet → (decide (k = m) || L k) = false := fun k k1 k2 k3 => by
      simp only [Bool.or_eq_false_iff, decide_eq_false_iff_not]
      exact ⟨by omega, I.high k (by omega) k2 k3⟩
    have q3 : ∀ i, (decide (i = m) || L i) = true → ∀ k ∈ ancAt (drawnC P ops) i, (decide (k = m) || L k) = true := fun i hi k hk => by
      simp only [Bool.or_eq_true, decide_eq_true_eq] at hi ⊢
      rcases hi with e | e
      · subst e; exact .inr (hdown k hk)
      · exact .inr (I.down i e k hk)
    have q4 : ∀ i, (decide (i = m) || L i) = true → i < ops.size := fun i hi => by
      simp only [Bool.or_eq_true, decide_eq_true_eq] at hi
      rcases hi with e | e
      · omega
      · exact I.inn i e
    obtain ⟨m1, hI⟩ := reopen (L := fun k => decide (k = m) || L k) (c := m + 1) R h0 hm hfr q1 q2 q3 q4 t1 t2 (res.trans hR) htop ((put_defers _ _ _).trans I.dfr)
    exact hK ι2 _ m1 _ w2 hI

/-- What is not carried out. -/
theorem idle_step (R : Run P call ops F) (I : Inv P N M ops F ι0 w0 ds L c m ι a w) (h0 : ∀ p ∈ (F 0).h.hid, p.2 ≤ (F 0).h.next) {j : Nat} (hj : j < ops.size) (hL : L j = false) (hdown : ∀ i ∈ ancAt (drawnC P ops) j, L i = true) (hq : (F j).k = .quiet) (hv : (F j).v = undefV) :
    Inv P N M ops F ι0 w0 ds (fun k => decide (k = j) || L k) c m ι (a.put ops[j].dst undef) w := by
  have hempty : ¬ (F j).h.next < (F (j + 1)).h.next := fun h => R.quiet_empty hj h hq
  have hhid : ∀ x, hides (hidL F (fun k => decide (k = j) || L k) c m) x = hides (hidL F L c m) x := fun x => by
    rw [Bool.eq_iff_iff, hidL_iff, hidL_iff]
    constructor
    · rintro ⟨k, k1, k2, k3, k4⟩
      simp only [Bool.or_eq_false_iff] at k3
      exact ⟨k, k1, k2, k3.2, k4⟩
    · rintro ⟨k, k1, k2, k3, k4, k5⟩
      have : k ≠ j := fun e => by subst e; omega
      exact ⟨k, k1, k2, by simp [this, k3], k4, k5⟩
  have hget : ∀ b, (HL F (fun k => decide (k = j) || L k) c m).get b = (HL F L c m).get b := fun b => by
    rcases Nat.mod_two_eq_zero_or_one b with he | he
    · rw [HL_even he, HL_even he, hhid]
    · rw [HL_odd he, HL_odd he]
  obtain ⟨t1, t2⟩ := I.tmps R hj hL (fun t => R.self hj) (Ren.le.refl ι) (Nat.le_refl c) (Nat.le_trans I.cm I.mn) (v' := undef) (by rw [hv]; exact VR.undefV _)
  refine ⟨I.cm, I.mn, I.nob, I.last, I.frc, fun k k1 k2 => by simp [I.low k k1 k2], fun k k1 k2 k3 => ?_, fun i hi k hk => ?_, fun i hi => ?_, t1, t2, I.res.retarget hget (Nat.le_refl _) rfl (R.HL_hid I.mn h0) I.top, fun A hA b o K hvA hb hl => I.own A hA b o K hvA (by rw [← hget]; exact hb) hl, fun k k1 k2 k3 => ?_, I.top, (put_defers _ _ _).trans I.dfr⟩
  · simp only [Bool.or_eq_false_iff, decide_eq_false_iff_not]
    exact ⟨fun e => by subst e; exact k3 hq, I.high k k1 k2 k3⟩
  · simp only [Bool.or_eq_true, decide_eq_true_eq] at hi ⊢
    rcases hi with e | e
    · subst e; exact .inr (hdown k hk)
    · exact .inr (I.down i e k hk)
  · simp only [Bool.or_eq_true, decide_eq_true_eq] at hi
    rcases hi with e | e
    · omega
    · exact I.inn i e
  · simp only [Bool.or_eq_false_iff] at k3
    exact I.unb k k1 k2 k3.2

/-- ONE OPERATION, WHENEVER IT COMES. -/
theorem any_step (R : Run P call ops F) (I : Inv P N M ops F ι0 w0 ds L c m ι a w) (gi0 : GI P ι0) (h0 : ∀ p ∈ (F 0).h.hid, p.2 ≤ (F 0).h.next) (hM : (F ops.size).h.next ≤ M) {j : Nat} (hj : j < ops.size) (hL : L j = false) (hdown : ∀ i ∈ ancAt (drawnC P ops) j, L i = true)
    {K : Act → World → Prop} {Qx : Exit → Act → World → Prop} (hK : ∀ ι1 c1 m1 a1 w1, Inv P N M ops F ι0 w0 ds (fun k => decide (k = j) || L k) c1 m1 ι1 a1 w1 → K a1 w1) : wpOpIn (W r) 0 P ops Qx j K a w := by
  have gi : GI P ι := GI.step I.res gi0
  obtain ⟨hg, o, ho, hop, hdst, hgu, hanc, hst, hstep⟩ := R.oper hj
  have hw := R.wantsAt I hj hL hdown ho hgu
  unfold wpOpIn
  have hoj : ops[j]? = some ops[j] := by simp [hj]
  simp only [hoj]
  cases hkk : (F j).k with
  | quiet =>
    rw [hkk] at hstep
    rcases hstep.2.2 with ⟨w1, w2⟩ | ⟨w1, w2, q, w3⟩
    · rw [w1] at hw
      rw [← hw, if_neg (by simp)]
      exact ⟨fun _ _ => trivial, hK _ _ _ _ _ (idle_step R I h0 hj hL hdown hkk w2)⟩
    · rw [w1] at hw
      rw [← hw, if_pos rfl]
      have hpe : ∀ h, o.op.exec call (F j).tm h = .ret ((F j).v, h) := fun h => by
        have := (pure_any (h' := h) w2 w3).1
        rcases exec_eq call (F j).tm h o.op with ⟨f, as, e⟩ | e
        · rw [e] at w2; simp [IOp.isPure] at w2
        · rw [e]; exact this
      have hrun : (opC P ops[j].op).exec call (blank (namesAt ops.toList (drawnC P ops) j) (F j).tm) { HL F (fun k => decide (k ∈ ancAt (drawnC P ops) j)) c m with floor := (F m).h.next } = .ret ((F j).v, { HL F (fun k => decide (k ∈ ancAt (drawnC P ops) j)) c m with floor := (F m).h.next }) := by
        rw [← hop, R.blanked hj ho]; exact hpe _
      exact fly R I gi h0 hj hL hdown (fun t => R.self hj) (fun h => absurd hkk h) (eye_pure R I h0 hj hdown hkk) hrun (R.noSelect hj ⟨_, _, _, _, hrun⟩) (fun t => R.reads hj) fun ι1 a1 w1 hI => hK ι1 c m a1 w1 hI
  | bar =>
    rw [hkk] at hstep
    rw [hstep.1] at hw
    rw [← hw, if_pos rfl]
    have hjm := (I.place R hj hL hdown (by rw [hkk]; simp)).2.1 hkk
    subst hjm
    exact bar_step R I gi h0 hM hj hL hdown hkk hK
  | free =>
    rw [hkk] at hstep
    obtain ⟨w1, w2, h2, w3, w4, w5⟩ := hstep
    rw [w1] at hw
    rw [← hw, if_pos rfl]
    obtain ⟨p1, _, p3⟩ := I.place R hj hL hdown (by rw [hkk]; simp)
    have hjm := p3 (by rw [hkk]; simp)
    rw [hanc] at w3
    have hk : Keeps (seen (F j) (ancAt (drawnC P ops) j)) h2 := by
      have := exec_keeps R.good.keeps (F j).tm (seen (F j) (ancAt (drawnC P ops) j)) o.op
      rw [w3] at this; exact this
    have hrun : (opC P ops[j].op).exec call (blank (namesAt ops.toList (drawnC P ops) j) (F j).tm) (seen (F j) (ancAt (drawnC P ops) j)) = .ret ((F j).v, h2) := by
      rw [← hop, R.blanked hj ho]; exact w3
    exact fly R I gi h0 hj hL hdown (fun t => R.self hj) (fun _ => hjm) (eye_free R I h0 hj hdown p1 hjm hk w4) hrun (R.noSelect hj ⟨_, _, _, _, hrun⟩) (fun t => R.reads hj) fun ι1 a1 w1 hI => hK ι1 c m a1 w1 hI
end
end Go.Ideal

/-
  A REGION WHOSE ORDER IS DRAWN is sound.
-/
namespace Go.Ideal
open Go Go.RowKit
section
variable {P : Program} {call : Caller} {ops : Array Oper} {F : Nat → Tr}
variable {N M : Nat} {ι0 : Ren} {w0 : World} {ds : List Deferred} {L : Nat → Bool} {c m : Nat} {ι : Ren} {a : Act} {w : World} {r : Option Nat}

theorem all_done (R : Run P call ops F) (I : Inv P N M ops F ι0 w0 ds L c m ι a w) (h0 : ∀ p ∈ (F 0).h.hid, p.2 ≤ (F 0).h.next) (hall : ∀ k, k < ops.size → L k = true) :
    VRs ι (F ops.size).tm a.tmps.toList ∧ Res P N M ι0 (F 0).h w0 ι (F ops.size).h w := by
  have hm : m = ops.size := by
    rcases I.last with e | e
    · exact e
    · rcases Nat.lt_or_ge m ops.size with h | h
      · have := I.high m (Nat.le_refl _) h (by rw [e]; simp)
        rw [hall m h] at this; cases this
      · exact Nat.le_antisymm I.mn h
  subst hm
  refine ⟨VRs.of (by rw [R.tm_len (Nat.le_refl _), ← I.len, Array.length_toList]) fun t x x' h1 h2 => ?_, I.res.retarget (fun b => ?_) (Nat.le_refl _) rfl (fun p hp => ?_) I.top⟩
  · have h2' : a.tmps[t]? = some x' := by simpa using h2
    have htl : t < (F 0).tm.length := by rw [← I.len]; exact (Array.getElem?_eq_some_iff.1 h2').1
    rcases I.tmp t x' h2' with ⟨i, i1, i2, i3, i4⟩ | ⟨i1, v, i2, i3⟩
    · have hin := I.inn i i1
      rw [R.tm_some hin (Nat.le_refl _) i2 (fun k k1 k2 k3 => by have := i3 k (hall k k2) k3; omega) htl] at h1
      cases h1
      exact i4.mono cut_le_self
    · rw [R.tm_keep (Nat.zero_le _) (Nat.le_refl _) fun k _ k2 k3 => i1 k (hall k k2) k3, i2] at h1
      cases h1
      exact i3.mono cut_le_self
  · have hnone : ∀ x, hides (hidL F L c ops.size) x = false := fun x => by
      cases hh : hides (hidL F L c ops.size) x with
      | false => rfl
      | true =>
        obtain ⟨k, k1, k2, k3, _⟩ := hidL_iff.1 hh
        rw [hall k k2] at k3; cases k3
    rcases Nat.mod_two_eq_zero_or_one b with he | he
    · rw [HL_even he, get_even he, hnone, R.hid (Nat.le_refl _)]; simp
    · rw [HL_odd he]
  · rw [R.hid (Nat.le_refl _)] at hp
    exact Nat.le_trans (h0 p hp) (R.le (Nat.zero_le _) (Nat.le_refl _))

theorem count_set : ∀ (l : List Bool) (i : Nat), l[i]? = some false → (l.set i true).countP (fun b => !b) + 1 = l.countP (fun b => !b)
  | [], i, h => by simp at h
  | b :: l, 0, h => by simp at h; subst h; simp
  | b :: l, i + 1, h => by
    simp at h
    have := count_set l i h
    simp only [List.set_cons_succ, List.countP_cons]
    omega

theorem count_zero {l : List Bool} (h : l.countP (fun b => !b) = 0) (i : Nat) (hi : i < l.length) : l[i]? = some true := by
  rw [List.countP_eq_zero] at h
  have := h l[i] (List.getElem_mem hi)
  simp at this
  simp [hi, this]

theorem first_false : ∀ (l : List Bool), l.countP (fun b => !b) ≠ 0 → ∃ i : Nat, l[i]? = some false ∧ ∀ k : Nat, k < i → l[k]? = some true
  | [], h => by simp at h
  | b :: l, h => by
    cases b with
    | false => exact ⟨0, by simp, fun k hk => by omega⟩
    | true =>
      obtain ⟨i, h1, h2⟩ := first_false l (by simpa using h)
      refine ⟨i + 1, by simpa using h1, fun k hk => ?_⟩
      cases k with
      | zero => simp
      | succ k => simpa using h2 k (by omega)

theorem mem_direct {o : Oper} {e : Edge} (he : e ∈ o.after) (hb : Region.binds .any e = true) : e.on ∈ direct o := by
  simp only [direct, List.mem_map, List.mem_filter]
  exact ⟨e, ⟨by simpa using he, hb⟩, rfl⟩

/-- Which may come now. -/
theorem Run.ready (R : Run P call ops F) {listed : Array Bool} (hs : listed.size = ops.size) {j : Nat} (hj : j ∈ Region.ready .any ops listed) (hdown : ∀ i, listed.getD i false = true → ∀ k ∈ ancAt (drawnC P ops) i, listed.getD k false = true) :
    j < ops.size ∧ listed.getD j false = false ∧ ∀ i ∈ ancAt (drawnC P ops) j, listed.getD i false = true := by
  obtain ⟨h1, o, h2, h3⟩ := mem_ready.1 hj
  have hlt : j < ops.size := (Array.getElem?_eq_some_iff.1 h2).1
  have hdir : ∀ d ∈ dirAt ops.toList j, listed.getD d false = true := fun d hd => by
    have : ops.toList[j]? = some o := by simpa using h2
    simp only [dirAt, this, direct, List.mem_map, List.mem_filter] at hd
    obtain ⟨e, ⟨e1, e2⟩, rfl⟩ := hd
    exact h3 e (by simpa using e1) e2
  refine ⟨hlt, ?_, fun i hi => ?_⟩
  · rw [Array.getD_eq_getD_getElem?] at h1 ⊢
    cases hx : listed[j]? with
    | none => rw [hx] at h1; simp at h1
    | some b => rw [hx] at h1; simpa using h1
  · rcases ((R.okAt hlt).2.1 i hi).2.2 with e | ⟨d, e1, e2⟩
    · exact hdir i e
    · exact hdown d (hdir d e1) i e2

theorem getD_set {listed : Array Bool} {j : Nat} (hj : j < listed.size) : (fun k => (listed.setIfInBounds j true).getD k false) = fun k => decide (k = j) || listed.getD k false := by
  funext k
  simp only [Array.getD_eq_getD_getElem?]
  by_cases h : k = j
  · subst h; simp [hj]
  · rw [Array.getElem?_setIfInBounds_ne (Ne.symm h)]; simp [h]

theorem any_sound (R : Run P call ops F) (gi0 : GI P ι0) (h0 : ∀ p ∈ (F 0).h.hid, p.2 ≤ (F 0).h.next) (hM : (F ops.size).h.next ≤ M) {Qx : Exit → Act → World → Prop}
    (hend : ∀ ι' a' w', VRs ι' (F ops.size).tm a'.tmps.toList → Res P N M ι0 (F 0).h w0 ι' (F ops.size).h w' → a'.defers = ds → Qx .normal a' w') :
    ∀ (fuel : Nat) (listed : Array Bool) {c m : Nat} {ι : Ren} {a : Act} {w : World}, listed.size = ops.size → listed.toList.countP (fun b => !b) = fuel → Inv P N M ops F ι0 w0 ds (fun k => listed.getD k false) c m ι a w →
      wpAnyIn (W r) 0 P .any ops Qx fuel listed a w
  | 0, listed, c, m, ι, a, w, hs, hc, I => by
    have hall : ∀ k, k < ops.size → listed.getD k false = true := fun k hk => by
      have := count_zero hc k (by simpa [hs] using hk)
      have h2 : listed[k]? = some true := by simpa using this
      simp [Array.getD_eq_getD_getElem?, h2]
    obtain ⟨e1, e2⟩ := all_done R I h0 hall
    refine ⟨?_, hend _ _ _ e1 e2 I.dfr⟩
    rw [List.eq_nil_iff_forall_not_mem]
    intro j hj
    obtain ⟨j1, j2, _⟩ := R.ready hs hj I.down
    rw [hall j j1] at j2; cases j2
  | fuel + 1, listed, c, m, ι, a, w, hs, hc, I => by
    refine ⟨fun hnil => ?_, fun j hj => ?_⟩
    · exfalso
      obtain ⟨i, i1, i2⟩ := first_false listed.toList (by omega)
      have i1' : listed[i]? = some false := by simpa using i1
      have hlt : i < ops.size := by rw [← hs]; exact (Array.getElem?_eq_some_iff.1 i1').1
      have : i ∈ Region.ready .any ops listed := by
        refine mem_ready.2 ⟨by simp [Array.getD_eq_getD_getElem?, i1'], ops[i], by simp [hlt], fun e he hb => ?_⟩
        have hd : e.on ∈ dirAt ops.toList i := by
          have : ops.toList[i]? = some ops[i] := by simp [hlt]
          simp only [dirAt, this]
          exact mem_direct he hb
        have h2 := i2 e.on ((R.okAt hlt).1 _ hd)
        have h3 : listed[e.on]? = some true := by simpa using h2
        simp [Array.getD_eq_getD_getElem?, h3]
      rw [hnil] at this; cases this
    · obtain ⟨j1, j2, j3⟩ := R.ready hs hj I.down
      refine any_step R I gi0 h0 hM j1 j2 j3 fun ι1 c1 m1 a1 w1 hI => ?_
      have hjl : j < listed.size := by omega
      refine any_sound R gi0 h0 hM hend fuel (listed.setIfInBounds j true) (by simpa using hs) ?_ ?_ (c := c1) (m := m1) (ι := ι1)
      · have hx : listed.toList[j]? = some false := by
          have : listed[j]? = some listed[j] := by simp [hjl]
          simp only [Array.getD_eq_getD_getElem?, this, Option.getD_some] at j2
          rw [Array.getElem?_toList, this, j2]
        have := count_set listed.toList j hx
        rw [Array.toList_setIfInBounds]
        omega
      · rw [getD_set hjl]; exact hI

/-- A REGION WHOSE ORDER IS DRAWN: whatever order is drawn. -/
theorem drawn_sound {h : Heap} {tm : List Value} (hc : CallOK P call) (hok : drawnOk ops.toList (drawnC P ops) = true) (H : Here P N M ι h w) (t : VRs ι tm a.tmps.toList) {p : List Value × Heap} (hr : execDrawn call (drawnC P ops) 0 [] tm h = some p) (hM : p.2.next ≤ M)
    {Qx : Exit → Act → World → Prop} (hend : ∀ ι' a' w', VRs ι' p.1 a'.tmps.toList → Res P N M ι h w ι' p.2 w' → a'.defers = a.defers → Qx .normal a' w') :
    wpAnyIn (W r) 0 P .any ops Qx ops.size (Array.replicate ops.size false) a w := by
  obtain ⟨F, f1, f2, f3, f4, f5, f6⟩ := trace_of call (drawnC P ops) 0 [] tm h p hr
  rw [Nat.zero_add, drawn_length] at f4 f5
  have R : Run P call ops F := ⟨hok, hc, fun k o ho => by have := f6 k o ho; rwa [Nat.zero_add] at this, f3, by rw [f2]; exact H.hb⟩
  have h0 : ∀ p ∈ (F 0).h.hid, p.2 ≤ (F 0).h.next := by rw [f2]; exact H.sim.hid
  have htop : ∀ k, (F 0).h.next ≤ k → ι (2 * k) = .unborn := by rw [f2]; exact H.none_above
  have hL : (fun k => (Array.replicate ops.size false).getD k false) = fun _ => false := by
    funext k
    simp only [Array.getD_eq_getD_getElem?]
    by_cases hk : k < ops.size
    · simp [hk]
    · simp [hk]
  have base : ι.le (cut (View F 0 fun _ => False) ι) := le_cut (Ren.le.refl _) fun d hd => by
    rcases Nat.mod_two_eq_zero_or_one d with he | he
    · refine .inr (.inl (Nat.lt_of_not_le fun hh => hd ?_))
      have := htop (d / 2) hh
      rwa [show 2 * (d / 2) = d by omega] at this
    · exact .inl he
  have htm : ∀ (x : Nat) v', a.tmps[x]? = some v' → (∃ i, (fun _ : Nat => false) i = true ∧ Ideal.dstAt (drawnC P ops) i = some x ∧ (∀ k, (fun _ : Nat => false) k = true → Ideal.dstAt (drawnC P ops) k = some x → k ≤ i) ∧ VR (cut (View F 0 (Up P ops i)) ι) (F i).v v') ∨
      ((∀ i, (fun _ : Nat => false) i = true → Ideal.dstAt (drawnC P ops) i ≠ some x) ∧ ∃ v, (F 0).tm[x]? = some v ∧ VR (cut (View F 0 fun _ => False) ι) v v') := by
    intro x v' hv
    obtain ⟨v, e1, e2⟩ := t.get' x v' (by simpa using hv)
    exact .inr ⟨fun i hi => by simp at hi, v, by rw [f1]; exact e1, e2.mono base⟩
  obtain ⟨m, I⟩ := reopen (P := P) (N := N) (M := M) (ι0 := ι) (w0 := w) (ds := a.defers) (L := fun _ => false) (c := 0) (ι := ι) (a := a) (w := w) R h0 (Nat.zero_le _) f3 (fun k hk => by omega) (fun _ _ _ _ => rfl) (fun i hi => by cases hi) (fun i hi => by cases hi) (by rw [f1, t.length, Array.length_toList])
    htm (by rw [f2]; exact Res.refl H.sim) htop rfl
  refine any_sound R H.gi h0 (by rw [f5]; exact hM) (ds := a.defers) (fun ι' a' w' h1 h2 h3 => hend ι' a' w' (by rw [← f4]; exact h1) (by rw [f2, f5] at h2; exact h2) h3) ops.size (Array.replicate ops.size false) (by simp) (by rw [Array.toList_replicate, List.countP_replicate]; simp) ?_ (c := 0) (m := m) (ι := ι)
  rw [hL]; exact I
end
end Go.Ideal
