import Derived.Test.YtmpnldmdchchjaaFf
namespace Go.Ideal
open Go Go.RowKit
section
variable {P : Program} {call : Caller} {ops : Array Oper} {plan : List (List Nat)} {F : Nat → Tr}
variable {N M : Nat} {ι0 : Ren} {w0 : World} {ds : List Deferred} {L : Nat → Bool} {c m : Nat} {ι : Ren} {a : Act} {w : World} {r : Option Nat}
theorem get_even_some {h : Heap} {b : Nat} {o : IObj} (hb : b % 2 = 0) : h.get b = some o ↔ hides h.hid (b / 2) = false ∧ look h.mem (b / 2) = some o := by
  rw [get_even hb]
  cases hides h.hid (b / 2) <;> simp
theorem eval_blank {ns : List Nat} {x : Operand} (h : ∀ t, x = .tmp t → t ∈ ns) : a.eval x = ({ a with tmps := (blank ns a.tmps.toList).toArray } : Act).eval x := by
  cases x with
  | tmp t =>
    have := blank_in (l := a.tmps.toList) (h t rfl)
    simp only [Act.eval, Array.getD_eq_getD_getElem?]
    congr 1
    simp only [List.getElem?_toArray, this, Array.getElem?_toList]
  | const v => rfl
  | global g => rfl
  | func f => rfl
theorem Run.look_last (R : Run P call ops plan F) {i j x : Nat} (hij : i < j) (hj : j ≤ ops.size) (nob : ∀ k, i < k → k < j → (F k).k ≠ .bar) (ti : Touch P ops plan F i x) (hmax : ∀ k, i < k → k < j → ¬ Touch P ops plan F k x) : look (F j).h.mem x = look (F (i + 1)).h.mem x := by
  refine R.same (i := i + 1) hij hj (fun k k1 k2 => nob k k1 k2) ?_ fun k k1 k2 => hmax k k1 k2
  rcases ti.2 with ⟨h1, _⟩ | h1
  · exact Nat.lt_of_lt_of_le h1 (R.le (Nat.le_succ i) (by omega))
  · exact h1.2
theorem last_of (p : Nat → Prop) (c : Nat) : ∀ m, (∃ i, c ≤ i ∧ i < m ∧ p i ∧ ∀ k, c ≤ k → k < m → p k → k ≤ i) ∨ ∀ k, c ≤ k → k < m → ¬ p k
  | 0 => .inr fun k _ hk => by omega
  | m + 1 => by
    by_cases h : c ≤ m ∧ p m
    · exact .inl ⟨m, h.1, by omega, h.2, fun k _ hk _ => by omega⟩
    · rcases last_of p c m with ⟨i, h1, h2, h3, h4⟩ | h1
      · refine .inl ⟨i, h1, by omega, h3, fun k k1 k2 k3 => ?_⟩
        rcases Nat.lt_or_ge k m with e | e
        · exact h4 k k1 e k3
        · have : k = m := by omega
          subst this; exact absurd ⟨k1, k3⟩ h
      · refine .inr fun k k1 k2 k3 => ?_
        rcases Nat.lt_or_ge k m with e | e
        · exact h1 k k1 e k3
        · have : k = m := by omega
          subst this; exact h ⟨k1, k3⟩
theorem Inv.sees (R : Run P call ops plan F) (I : Inv P N M ops plan F ι0 w0 ds L c m ι a w) {j x : Nat} {o : IObj} (hj : j < ops.size) (hL : L j = false) (hdown : ∀ i ∈ ancAt (drawnC P ops) j, L i = true) (hcj : c ≤ j) (hjm : j < m)
    (hv : hides (eye P ops plan F j).hid x = false) (ho : look (F j).h.mem x = some o) : ∃ K, ι (2 * x) = .live K ∧ OR P ι (2 * x) o K w := by
  have hx : x < (F j).h.next := Nat.lt_of_not_le fun h => by rw [R.hbAt (Nat.le_of_lt hj) _ h] at ho; cases ho
  have h0 : hides (F 0).h.hid x = false := by
    cases hh : hides (F 0).h.hid x with
    | false => rfl
    | true => rw [eye_hides.2 (.inr (.inr (by rw [R.hid (Nat.le_of_lt hj)]; exact hh)))] at hv; cases hv
  -- who has left a mark and is done stands ahead of it; who stands ahead of it and leaves a mark is done
  have done : ∀ k, c ≤ k → k < m → Touch P ops plan F k x → (L k = true ↔ k < j) := fun k k1 k2 tk => by
    by_cases e : k = j
    · subst e; simp [hL]
    rcases R.seen_fixed I.frc I.nob I.mn ⟨k1, k2⟩ ⟨hcj, hjm⟩ e tk hx hv with f | f
    · exact ⟨fun _ => R.anc_lt f, fun _ => hdown k f⟩
    · refine ⟨fun hk => ?_, fun hk => ?_⟩
      · have := I.down k hk j f; rw [hL] at this; cases this
      · have := R.anc_lt f; omega
  rcases last_of (fun k => Touch P ops plan F k x) c j with ⟨i, i1, i2, i3, i4⟩ | hno
  · refine I.mem1 x i o h0 ⟨i1, by omega, (done i i1 (by omega) i3).2 i2, i3, fun k k1 k2 k3 k4 => i4 k k1 ((done k k1 k2 k4).1 k3) k4⟩ ?_
    rw [← R.look_last i2 (Nat.le_of_lt hj) (fun k k1 k2 => I.nob k (by omega) (by omega)) i3 fun k k1 k2 tk => by have := i4 k (by omega) k2 tk; omega]
    exact ho
  · have hxc : x < (F c).h.next := Nat.lt_of_not_le fun h => by
      obtain ⟨k, k1, k2, k3, k4⟩ := tile (F := F) (d := j - c) (i := c) h (by rw [show c + (j - c) = j by omega]; exact hx)
      have hq : (F k).k = .free := by
        have h1 := I.nob k k1 (by omega)
        have h2 := R.quiet_empty (k := k) (by omega) (by omega)
        cases hk : (F k).k with
        | quiet => exact absurd hk h2
        | bar => exact absurd hk h1
        | free => rfl
      exact hno k k1 (by omega) ⟨hq, .inr ⟨k3, k4⟩⟩
    refine I.mem0 x o h0 (fun k k1 k2 k3 k4 => hno k k1 ((done k k1 k2 k4).1 k3) k4) hxc ?_
    rw [← R.same hcj (Nat.le_of_lt hj) (fun k k1 k2 => I.nob k k1 (by omega)) hxc fun k k1 k2 => hno k k1 k2]
    exact ho
end
end Go.Ideal
namespace Go.Ideal
open Go Go.RowKit
section
variable {P : Program} {call : Caller} {ops : Array Oper} {plan : List (List Nat)} {F : Nat → Tr}
variable {N M : Nat} {ι0 : Ren} {w0 : World} {ds : List Deferred} {L : Nat → Bool} {c m : Nat} {ι : Ren} {a : Act} {w : World} {r : Option Nat}
theorem Inv.was (R : Run P call ops plan F) (I : Inv P N M ops plan F ι0 w0 ds L c m ι a w) {j x : Nat} (hj : j ≤ ops.size) (hx : x < (F j).h.next) (hm : x ∈ mayAt plan F j) (hv : hides (F 0).h.hid x = false) (hs : (look (F j).h.mem x).isSome = true) {K : Loc} (hl : ι (2 * x) = .live K) (hjm : j ≤ m) :
    (w0.heap.size ≤ K.b ∨ ∃ b K0, (F 0).h.can b ∧ ι0 b = .live K0 ∧ K0.b = K.b) ∧ ((∀ k, (F 0).h.next ≤ k → k < (F m).h.next → 2 * x ≠ 2 * k) → (F 0).h.can (2 * x) ∧ ι0 (2 * x) = .live K) := by
  have hold : (∀ k, (F 0).h.next ≤ k → k < (F m).h.next → 2 * x ≠ 2 * k) → (F 0).h.can (2 * x) ∧ ι0 (2 * x) = .live K := by
    intro hno
    have hx0 : x < (F 0).h.next := Nat.lt_of_not_le fun h => hno x h (Nat.lt_of_lt_of_le hx (R.le hjm I.mn)) rfl
    have hs0 := (R.keep (Nat.zero_le j) hj).back x hx0 hs
    refine ⟨⟨by omega, ?_, ?_⟩, ?_⟩
    · have := (List.mem_filter.1 hm).2
      simp only [Bool.or_eq_true, decide_eq_true_eq, List.contains_iff_mem] at this
      rw [show 2 * x / 2 = x by omega]
      exact this
    · obtain ⟨o, ho⟩ := Option.isSome_iff_exists.1 hs0
      exact Option.isSome_iff_exists.2 ⟨o, (get_even_some (by omega)).2 (by rw [show 2 * x / 2 = x by omega]; exact ⟨hv, ho⟩)⟩
    · rcases I.part.same (2 * x) hno with e | ⟨_, e, _⟩
      · rw [← e]; exact hl
      · rw [e] at hl; cases hl
  refine ⟨?_, hold⟩
  by_cases hn : ∃ k, (F 0).h.next ≤ k ∧ k < (F m).h.next ∧ 2 * x = 2 * k
  · obtain ⟨k, k1, k2, e⟩ := hn
    rw [e] at hl
    exact I.part.fresh k K k1 k2 hl
  · obtain ⟨h1, h2⟩ := hold fun k k1 k2 e => hn ⟨k, k1, k2, e⟩
    exact .inr ⟨2 * x, K, h1, h2, rfl⟩
theorem Inv.advance (R : Run P call ops plan F) (I : Inv P N M ops plan F ι0 w0 ds L c m ι a w) {j : Nat} (hj : j < ops.size) (hL : L j = false) (hdown : ∀ i ∈ ancAt (drawnC P ops) j, L i = true) (hself : ∀ t, Ideal.dstAt (drawnC P ops) j = some t → t ∈ namesAt ops.toList (drawnC P ops) j)
    (hpl : (F j).k ≠ .quiet → c ≤ j ∧ j < m) (hnb : (F j).k ≠ .bar) {ι2 : Ren} {w2 : World} {M2 : Nat} {h2 : Heap} (S2 : Sim P N M2 ι2 h2 w2) (hle : ι.le ι2) (hsame : ∀ b, (∀ x, b = 2 * x → ¬ Touch P ops plan F j x) → ι2 b = ι b)
    (hframe : ∀ k, k < w.heap.size → (∀ x K, Touch P ops plan F j x → x < (F j).h.next → (look (F j).h.mem x).isSome = true → ι (2 * x) = .live K → K.b ≠ k) → w2.heap[k]? = w.heap[k]?)
    (hmem : ∀ x o, Touch P ops plan F j x → look (F (j + 1)).h.mem x = some o → ∃ K, ι2 (2 * x) = .live K ∧ OR P ι2 (2 * x) o K w2)
    (hfresh : ∀ x K, (F j).h.next ≤ x → x < (F (j + 1)).h.next → ι2 (2 * x) = .live K → w.heap.size ≤ K.b ∨ ∃ y K', Touch P ops plan F j y ∧ y < (F j).h.next ∧ (look (F j).h.mem y).isSome = true ∧ ι (2 * y) = .live K' ∧ K'.b = K.b)
    (hdies : ∀ x, Touch P ops plan F j x → x < (F j).h.next → ι2 (2 * x) ≠ ι (2 * x) → ι2 (2 * x) = .dead ∧ (look (F j).h.mem x).isSome = true ∧ ∃ K, ι (2 * x) = .live K)
    (hgrow : w.heap.size ≤ w2.heap.size) (hos : w2.os = w.os) (htp : w2.tape = w.tape) (hou : w2.output = w.output) {v' : Value} (hv : VR ι2 (F j).v v') :
    Inv P N M ops plan F ι0 w0 ds (fun k => decide (k = j) || L k) c m ι2 (a.put ops[j].dst v') w2 := by
  obtain ⟨t1, t2⟩ := I.tmps R hj hL hself hle hv
  have hfree : ∀ {x}, Touch P ops plan F j x → c ≤ j ∧ j < m := fun t => hpl (by rw [t.1]; simp)
  have hvis : ∀ {x}, Touch P ops plan F j x → x < (F j).h.next → x ∈ mayAt plan F j ∧ hides (F 0).h.hid x = false := fun {x} t hx => by
    rcases t.2 with ⟨_, h1, h3⟩ | ⟨h1, _⟩
    · refine ⟨h1, ?_⟩
      cases hh : hides (F 0).h.hid x with
      | false => rfl
      | true => rw [eye_hides.2 (.inr (.inr (by rw [R.hid (Nat.le_of_lt hj)]; exact hh)))] at h3; cases h3
    · omega
  have hsz : ∀ b K, ι b = .live K → K.b < w.heap.size := fun b K hl => by
    rcases Nat.mod_two_eq_zero_or_one b with he | he
    · exact (I.part.own b K he hl).2
    · exact Nat.lt_of_lt_of_le (I.part.ro b K he hl) I.part.size
  -- what it has not touched is as it was
  have carry : ∀ b o K, (∀ x, b = 2 * x → ¬ Touch P ops plan F j x) → ι b = .live K → OR P ι b o K w → ι2 b = .live K ∧ OR P ι2 b o K w2 := by
    intro b o K hb hl ho
    refine ⟨by rw [hsame b hb]; exact hl, ho.mono hle (hframe _ (hsz b K hl) fun x K' tx _ _ hx e => ?_)⟩
    rcases Nat.mod_two_eq_zero_or_one b with he | he
    · exact I.part.inj (2 * x) b K' K (by omega) he (fun e2 => hb x e2.symm tx) hx hl e
    · have h1 := I.part.ro b K he hl
      have h3 := (I.part.own (2 * x) K' (by omega) hx).1
      omega
  have noFresh : ∀ {x}, ¬ ((F j).h.next ≤ x ∧ x < (F (j + 1)).h.next) → ∀ {y}, 2 * x = 2 * y → Touch P ops plan F j y → y < (F j).h.next := fun {x} hx {y} e t => by
    have : x = y := by omega
    subst this
    rcases t.2 with ⟨h1, _⟩ | h1
    · exact h1
    · exact absurd h1 hx
  have hin : ∀ {k}, (F j).h.next ≤ k → k < (F (j + 1)).h.next → Touch P ops plan F j k := fun {k} h1 h3 => by
    refine ⟨?_, .inr ⟨h1, h3⟩⟩
    have hq := R.quiet_empty hj (by omega)
    cases hk : (F j).k with
    | quiet => exact absurd hk hq
    | bar => exact absurd hk hnb
    | free => rfl
  -- nothing that lives not is born but what it laid
  have hun : ∀ x, ¬ ((F j).h.next ≤ x ∧ x < (F (j + 1)).h.next) → ι (2 * x) = .unborn → ι2 (2 * x) = .unborn := fun x hx hu => by
    by_cases ht : Touch P ops plan F j x
    · have hlt := noFresh hx rfl ht
      refine Classical.byContradiction fun hne => ?_
      obtain ⟨_, _, K, hK⟩ := hdies x ht hlt (by rw [hu]; exact hne)
      rw [hu] at hK; cases hK
    · rw [hsame (2 * x) fun y e => by have : x = y := by omega
                                      subst this; exact ht]
      exact hu
  refine ⟨I.cm, I.mn, I.nob, I.last, I.frc, fun k k1 k2 => by simp [I.low k k1 k2], fun k k1 k2 k3 => ?_, fun i hi k hk => ?_, fun i hi => ?_, t1, t2, ?_, ?_, ?_, ?_, ?_, ?_, (put_defers _ _ _).trans I.dfr⟩
  · simp only [Bool.or_eq_false_iff, decide_eq_false_iff_not]
    exact ⟨fun e => by subst e; have := (hpl k3).2; omega, I.high k k1 k2 k3⟩
  · simp only [Bool.or_eq_true, decide_eq_true_eq] at hi ⊢
    rcases hi with e | e
    · subst e; exact .inr (hdown k hk)
    · exact .inr (I.down i e k hk)
  · simp only [Bool.or_eq_true, decide_eq_true_eq] at hi
    rcases hi with e | e
    · omega
    · exact I.inn i e
  · -- the step as a whole
    have hp := I.part
    refine ⟨hp.le.trans hle, S2.own, S2.ro, S2.inj, S2.size, fun b hb => ?_, fun k hk hno => ?_, fun k K k1 k2 hl => ?_, Nat.le_trans hp.grow hgrow, hos.trans hp.os, htp.trans hp.tape, hou.trans hp.output⟩
    · by_cases hch : ι2 b = ι b
      · rw [hch]; exact hp.same b hb
      · have hex : ∃ x, b = 2 * x ∧ Touch P ops plan F j x := Classical.byContradiction fun hn => hch (hsame b fun x e t => hn ⟨x, e, t⟩)
        obtain ⟨x, rfl, tx⟩ := hex
        obtain ⟨p1, p2⟩ := hfree tx
        have hlt : x < (F j).h.next := by
          rcases tx.2 with ⟨h1, _⟩ | ⟨h1, h3⟩
          · exact h1
          · exact absurd rfl (hb x (Nat.le_trans (R.le (Nat.zero_le j) (Nat.le_of_lt hj)) h1) (Nat.lt_of_lt_of_le h3 (R.le (i := j + 1) (j := m) p2 I.mn)))
        obtain ⟨d1, d2, K, d3⟩ := hdies x tx hlt hch
        obtain ⟨v1, v2⟩ := hvis tx hlt
        obtain ⟨e1, e2⟩ := (I.was R (Nat.le_of_lt hj) hlt v1 v2 d2 d3 (Nat.le_of_lt p2)).2 hb
        exact .inr ⟨e1, d1, K, e2⟩
    · rw [hframe k (Nat.lt_of_lt_of_le hk hp.grow) fun x K tx hlt hs hl e => ?_]
      · exact hp.frame k hk hno
      · obtain ⟨p1, p2⟩ := hfree tx
        obtain ⟨v1, v2⟩ := hvis tx hlt
        rcases (I.was R (Nat.le_of_lt hj) hlt v1 v2 hs hl (Nat.le_of_lt p2)).1 with g | ⟨b, K0, g1, g2, g3⟩
        · omega
        · exact hno b K0 g1 g2 (g3.trans e)
    · by_cases hf : (F j).h.next ≤ k ∧ k < (F (j + 1)).h.next
      · rcases hfresh k K hf.1 hf.2 hl with g | ⟨y, K', y1, y2, y3, y4, y5⟩
        · exact .inl (Nat.le_trans hp.grow g)
        · obtain ⟨p1, p2⟩ := hfree y1
          obtain ⟨v1, v2⟩ := hvis y1 y2
          rcases (I.was R (Nat.le_of_lt hj) y2 v1 v2 y3 y4 (Nat.le_of_lt p2)).1 with g | ⟨b, K0, g1, g2, g3⟩
          · exact .inl (by omega)
          · exact .inr ⟨b, K0, g1, g2, g3.trans y5⟩
      · refine hp.fresh k K k1 k2 ?_
        by_cases hch : ι2 (2 * k) = ι (2 * k)
        · rw [← hch]; exact hl
        · have hex : ∃ x, 2 * k = 2 * x ∧ Touch P ops plan F j x := Classical.byContradiction fun hn => hch (hsame _ fun x e t => hn ⟨x, e, t⟩)
          obtain ⟨x, e, tx⟩ := hex
          have hlt := noFresh hf e tx
          have : x = k := by omega
          subst this
          obtain ⟨d1, _⟩ := hdies x tx hlt hch
          rw [d1] at hl; cases hl
  · -- marks
    rintro x i o hh ⟨i1, i2, i3, i4, i5⟩ ho
    by_cases e : i = j
    · subst e; exact hmem x o i4 ho
    · have hLi : L i = true := by simpa [e] using i3
      have hnt : ¬ Touch P ops plan F j x := fun tj => by
        have hji := i5 j (hfree tj).1 (hfree tj).2 (by simp) tj
        rcases R.touch_fixed I.frc I.nob I.mn ⟨i1, i2⟩ (hfree tj) e i4 tj with f | f
        · have := R.anc_lt f; omega
        · have := I.down i hLi j f; rw [hL] at this; cases this
      obtain ⟨K, k1, k2⟩ := I.mem1 x i o hh ⟨i1, i2, hLi, i4, fun k q1 q2 q3 q4 => i5 k q1 q2 (by simp [q3]) q4⟩ ho
      exact ⟨K, carry (2 * x) o K (fun y e2 => by have : x = y := by omega
                                                  subst this; exact hnt) k1 k2⟩
  · intro x o hh hno hx ho
    obtain ⟨K, k1, k2⟩ := I.mem0 x o hh (fun k q1 q2 q3 => hno k q1 q2 (by simp [q3])) hx ho
    refine ⟨K, carry (2 * x) o K (fun y e2 => ?_) k1 k2⟩
    have : x = y := by omega
    subst this
    exact fun tj => hno j (hfree tj).1 (hfree tj).2 (by simp) tj
  · intro b o hb ho
    obtain ⟨K, k1, k2⟩ := I.odd b o hb ho
    exact ⟨K, carry b o K (fun x e => by omega) k1 k2⟩
  · intro k k1 k2 k3 x x1 x2
    simp only [Bool.or_eq_false_iff, decide_eq_false_iff_not] at k3
    exact hun x (fun hx => k3.1 (R.apart (Nat.lt_of_lt_of_le k2 I.mn) hj x1 x2 hx.1 hx.2)) (I.unb k k1 k2 k3.2 x x1 x2)
  · intro x x1 x2
    refine hun x (fun hx => ?_) (I.top x x1 x2)
    have tj := hin hx.1 hx.2
    have := R.le (i := j + 1) (j := m) (hfree tj).2 I.mn
    omega
end
end Go.Ideal
namespace Go.Ideal
open Go Go.RowKit
section
variable {P : Program} {call : Caller} {ops : Array Oper} {plan : List (List Nat)} {F : Nat → Tr}
variable {N M : Nat} {ι0 : Ren} {w0 : World} {ds : List Deferred} {L : Nat → Bool} {c m : Nat} {ι : Ren} {a : Act} {w : World} {r : Option Nat}
theorem Run.oper (R : Run P call ops plan F) {k : Nat} (hk : k < ops.size) : guardC ops ops[k].guard ≠ none ∧ ∃ o, (drawnC P ops)[k]? = some o ∧ o.op = opC P ops[k].op ∧ o.dst = ops[k].dst ∧ guardC ops ops[k].guard = some o.guard ∧ o.anc = ancAt (drawnC P ops) k ∧ Step call ((drawnC P ops).map (·.anc)) plan o k (F k) (F (k + 1)) := by
  obtain ⟨anc, bar, h1, h2⟩ := R.at_ hk
  have hg : guardC ops ops[k].guard ≠ none := by
    intro e
    have eo : operC P ops anc bar ops[k] = { dst := ops[k].dst, op := .bad, guard := none, anc := anc, bar := bar } := by simp [operC, e]
    rw [eo] at h2
    obtain ⟨_, h3⟩ := h2
    cases hkk : (F k).k <;> rw [hkk] at h3
    · rcases h3.2.2 with ⟨e1, _⟩ | ⟨_, e2, _⟩
      · simp [wants] at e1
      · simp [IOp.isPure] at e2
    · have := h3.2.2.2.1; simp [IOp.exec, IOp.run] at this
    · obtain ⟨_, _, g2, e1, _⟩ := h3; simp [IOp.exec, IOp.run] at e1
  refine ⟨hg, _, h1, ?_, ?_, ?_, ?_, h2⟩
  · unfold operC; split
    · rfl
    · rename_i e; exact absurd e hg
  · unfold operC; split <;> rfl
  · unfold operC; split
    · rename_i e; exact e
    · rename_i e; exact absurd e hg
  · simp only [ancAt, h1]
theorem Run.self (R : Run P call ops plan F) {j t : Nat} (hj : j < ops.size) (h : Ideal.dstAt (drawnC P ops) j = some t) : t ∈ namesAt ops.toList (drawnC P ops) j := by
  obtain ⟨_, o, h1, h2, h3, _⟩ := R.oper hj
  simp only [Ideal.dstAt, h1, Option.bind_some] at h
  simp only [namesAt, h1]
  refine List.mem_append_left _ (List.mem_append_left _ (List.mem_append_left _ ?_))
  rw [h]; simp
theorem Run.reads (R : Run P call ops plan F) {j t : Nat} (hj : j < ops.size) (h : Operand.tmp t ∈ ops[j].op.operands) : t ∈ namesAt ops.toList (drawnC P ops) j := by
  have : ops.toList[j]? = some ops[j] := by simp [hj]
  simp only [namesAt, this]
  refine List.mem_append_right _ ?_
  simp only [operTmps, List.mem_filterMap]
  exact ⟨.tmp t, by simpa using h, rfl⟩
theorem Run.noSelect (R : Run P call ops plan F) {j : Nat} (hj : j < ops.size) (hw : ∃ tm h v q, (opC P ops[j].op).exec call tm h = .ret (v, q)) : ∀ cs b, ops[j].op ≠ .select cs b := by
  intro cs b e
  obtain ⟨tm, h, v, q, hq⟩ := hw
  have : opC P (.select cs b) = .bad := by unfold opC; split <;> rfl
  rw [e, this] at hq
  simp [IOp.exec, IOp.run] at hq
theorem Run.blanked (R : Run P call ops plan F) {j : Nat} (hj : j < ops.size) {o : IOper} (ho : (drawnC P ops)[j]? = some o) (h : Heap) (tm : List Value) : o.op.exec call (blank (namesAt ops.toList (drawnC P ops) j) tm) h = o.op.exec call tm h := by
  refine exec_congr call h o.op fun x hx => ?_
  cases x with
  | const v => rfl
  | tmp t =>
    simp only [Opd.eval]
    refine blank_getD ?_
    simp only [namesAt, ho]
    refine List.mem_append_left _ (List.mem_append_left _ (List.mem_append_right _ ?_))
    simp only [List.mem_filterMap]
    exact ⟨.tmp t, hx, rfl⟩
theorem Run.wantsAt (R : Run P call ops plan F) (I : Inv P N M ops plan F ι0 w0 ds L c m ι a w) {j : Nat} (hj : j < ops.size) (hL : L j = false) (hdown : ∀ i ∈ ancAt (drawnC P ops) j, L i = true) {o : IOper} (ho : (drawnC P ops)[j]? = some o) (hg : guardC ops ops[j].guard = some o.guard) :
    wants (F j).tm o.guard = Region.wanted ops[j] (yielded ops a.tmps) := by
  cases hgd : ops[j].guard with
  | none =>
    rw [hgd] at hg
    simp only [guardC, Option.some.injEq] at hg
    rw [← hg]
    simp [wants, Region.wanted, hgd]
  | some p =>
    obtain ⟨i, b⟩ := p
    rw [hgd] at hg
    simp only [guardC] at hg
    cases hd : (ops[i]?).bind (·.dst) with
    | none => rw [hd] at hg; cases hg
    | some d =>
      rw [hd] at hg
      simp only [Option.some.injEq] at hg
      have hn : d ∈ namesAt ops.toList (drawnC P ops) j := by
        simp only [namesAt, ho]
        refine List.mem_append_left _ (List.mem_append_right _ ?_)
        rw [← hg]; simp
      rw [← hg]
      simp only [wants, Region.wanted, hgd, yielded, hd, Option.bind_some]
      cases ht : a.tmps[d]? with
      | none =>
        have : (F j).tm[d]? = none := by
          rw [List.getElem?_eq_none_iff, R.tm_len (Nat.le_of_lt hj), ← I.len]
          simpa using ht
        rw [this]; simp
      | some v' =>
        obtain ⟨v, e1, e2⟩ := I.name R hj hL hdown hn ht
        rw [e1]
        cases e2 <;> simp
theorem next_bar {n : Nat} : ∀ (d c : Nat), c + d = n → ∃ m, c ≤ m ∧ m ≤ n ∧ (∀ k, c ≤ k → k < m → (F k).k ≠ .bar) ∧ (m = n ∨ (F m).k = .bar)
  | 0, c, h => ⟨c, Nat.le_refl _, by omega, fun k h1 h2 => by omega, .inl (by omega)⟩
  | d + 1, c, h => by
    by_cases hb : (F c).k = .bar
    · exact ⟨c, Nat.le_refl _, by omega, fun k h1 h2 => by omega, .inr hb⟩
    · obtain ⟨m, h1, h2, h3, h4⟩ := next_bar (n := n) d (c + 1) (by omega)
      refine ⟨m, by omega, h2, fun k k1 k2 => ?_, h4⟩
      rcases Nat.lt_or_ge c k with e | e
      · exact h3 k e k2
      · have : k = c := by omega
        rw [this]; exact hb
theorem Run.kinds (R : Run P call ops plan F) {k : Nat} (hk : k < ops.size) : ((F k).k ≠ .quiet → pureAt (drawnC P ops) k = false) ∧ ((F k).k = .bar → barAt (drawnC P ops) k = true) := by
  obtain ⟨_, o, h1, _, _, _, _, h2, h3⟩ := R.oper hk
  refine ⟨fun h => ?_, fun h => ?_⟩
  · simp only [pureAt, h1]
    cases hkk : (F k).k <;> rw [hkk] at h3
    · exact absurd hkk h
    · exact h3.2.1
    · exact h3.2.1
  · rw [h] at h3
    simp only [barAt, h1]
    exact h3.2.2.1
theorem Run.bar_done (R : Run P call ops plan F) {m k : Nat} (hm : m < ops.size) (hb : (F m).k = .bar) (hk : k < ops.size) (hne : m ≠ k) (hq : (F k).k ≠ .quiet) : k ∈ ancAt (drawnC P ops) m ∨ m ∈ ancAt (drawnC P ops) k := by
  rcases (R.okAt hm).2.2 k hk hne with e | e | ⟨_, e⟩
  · exact .inl e
  · exact .inr e
  · have := e ((R.kinds hm).2 hb)
    rw [(R.kinds hk).1 hq] at this; cases this
theorem Inv.place (R : Run P call ops plan F) (I : Inv P N M ops plan F ι0 w0 ds L c m ι a w) {j : Nat} (hj : j < ops.size) (hL : L j = false) (hdown : ∀ i ∈ ancAt (drawnC P ops) j, L i = true) (hq : (F j).k ≠ .quiet) : c ≤ j ∧ ((F j).k = .bar → j = m) ∧ ((F j).k ≠ .bar → j < m) := by
  have h1 : c ≤ j := Nat.le_of_not_lt fun h => by have := I.low j h hq; rw [hL] at this; cases this
  have h2 : ¬ m < j := fun h => by
    rcases I.last with e | e
    · omega
    · rcases R.bar_done (m := m) (by omega) e hj (by omega) hq with x | x
      · have := R.anc_lt x; omega
      · have := hdown m x
        rw [I.high m (Nat.le_refl _) (by omega) (by rw [e]; simp)] at this; cases this
  refine ⟨h1, fun hb => ?_, fun hb => ?_⟩
  · rcases Nat.lt_trichotomy j m with h | h | h
    · exact absurd hb (I.nob j h1 h)
    · exact h
    · exact absurd h h2
  · rcases Nat.lt_trichotomy j m with h | h | h
    · exact h
    · rcases I.last with e | e
      · omega
      · rw [← h] at e; exact absurd e hb
    · exact absurd h h2
end
end Go.Ideal
namespace Go.Ideal
open Go Go.RowKit
section
variable {P : Program} {call : Caller} {ops : Array Oper} {plan : List (List Nat)} {F : Nat → Tr}
variable {N M : Nat} {ι0 : Ren} {w0 : World} {ds : List Deferred} {L : Nat → Bool} {c m : Nat} {ι : Ren} {a : Act} {w : World} {r : Option Nat}
theorem blank_rel (R : Run P call ops plan F) (I : Inv P N M ops plan F ι0 w0 ds L c m ι a w) {j : Nat} (hj : j < ops.size) (hL : L j = false) (hdown : ∀ i ∈ ancAt (drawnC P ops) j, L i = true) :
    VRs ι (blank (namesAt ops.toList (drawnC P ops) j) (F j).tm) (blank (namesAt ops.toList (drawnC P ops) j) a.tmps.toList) := by
  refine VRs.of (by rw [blank_len, blank_len, R.tm_len (Nat.le_of_lt hj), ← I.len, Array.length_toList]) fun t x x' h1 h2 => ?_
  by_cases hn : t ∈ namesAt ops.toList (drawnC P ops) j
  · rw [blank_in hn] at h1 h2
    obtain ⟨v, e1, e2⟩ := I.name R hj hL hdown hn (v' := x') (by simpa using h2)
    rw [h1] at e1; cases e1
    exact e2
  · rw [blank_get] at h1 h2
    simp only [Option.map_eq_some_iff, List.contains_iff_mem, hn, if_false] at h1 h2
    obtain ⟨_, _, rfl⟩ := h1
    obtain ⟨_, _, rfl⟩ := h2
    exact VR.undefV _
def bare (h : Heap) (n : Nat) : Heap := { next := n, mem := [], ro := h.ro, floor := n, may := [], hid := [] }
theorem bare_even {h : Heap} {n b : Nat} (hb : b % 2 = 0) : (bare h n).get b = none := by
  rw [get_even hb]; simp [bare, look, hides]
theorem bare_odd {h : Heap} {n b : Nat} (hb : b % 2 = 1) : (bare h n).get b = h.get b := by
  rw [get_odd hb, get_odd hb]; rfl
theorem quiet_untouched {j x : Nat} (hq : (F j).k = .quiet) : ¬ Touch P ops plan F j x := fun t => by have := t.1; rw [hq] at this; cases this
theorem pure_step (R : Run P call ops plan F) (I : Inv P N M ops plan F ι0 w0 ds L c m ι a w) (gi : GI P ι) {j : Nat} (hj : j < ops.size) (hL : L j = false) (hdown : ∀ i ∈ ancAt (drawnC P ops) j, L i = true) (hq : (F j).k = .quiet) {o : IOper} (ho : (drawnC P ops)[j]? = some o) (hop : o.op = opC P ops[j].op)
    (hrun : ∀ h, o.op.exec call (F j).tm h = .ret ((F j).v, h)) {K : Act → World → Prop} {Qx : Exit → Act → World → Prop} (hK : ∀ ι1 a1 w1, Inv P N M ops plan F ι0 w0 ds (fun k => decide (k = j) || L k) c m ι1 a1 w1 → K a1 w1) : ops[j].wpIn (W r) 0 P a w K Qx := by
  have s : Sim P N (F m).h.next ι (bare (F 0).h (F m).h.next) w := by
    refine ⟨fun b o hb => ?_, fun k k1 k2 => ?_, I.part.own, I.part.ro, I.part.inj, I.part.size, fun p hp => by cases hp⟩
    · rcases Nat.mod_two_eq_zero_or_one b with he | he
      · rw [bare_even he] at hb; cases hb
      · rw [bare_odd he] at hb; exact I.odd b o he hb
    · simp only [bare] at k1; omega
  have H : Here P N (F m).h.next ι (bare (F 0).h (F m).h.next) w := ⟨s, gi, fun k _ => rfl⟩
  have ht := blank_rel R I hj hL hdown
  have hrun' : (opC P ops[j].op).exec call (blank (namesAt ops.toList (drawnC P ops) j) (F j).tm) (bare (F 0).h (F m).h.next) = .ret ((F j).v, bare (F 0).h (F m).h.next) := by
    rw [← hop, R.blanked hj ho]; exact hrun _
  refine oper_at (a1 := { a with tmps := (blank (namesAt ops.toList (drawnC P ops) j) a.tmps.toList).toArray }) (Q := fun p => p = ((F j).v, bare (F 0).h (F m).h.next)) R.good H (by simpa using ht) (fun p hp => by rw [hp]; exact Nat.le_refl _) ?_ (by rw [hrun']; exact rfl) ?_
  · exact execOp_congr _ (R.noSelect hj ⟨_, _, _, _, hrun'⟩) fun x hx => eval_blank fun t e => R.reads hj (e ▸ hx)
  · intro v v' ι2 h' w2 hqq hv hR
    simp only [Prod.mk.injEq] at hqq
    obtain ⟨e1, e2⟩ := hqq
    have e2' := e2.symm
    subst e2'
    have e1' := e1.symm
    subst e1'
    have nocan : ∀ b, ¬ (bare (F 0).h (F m).h.next).can b := fun b hc => by
      have := hc.2.2
      rw [bare_even hc.1] at this; cases this
    have hsame : ∀ b, ι2 b = ι b := fun b => by
      rcases hR.same b (fun k k1 k2 => by simp only [bare] at k1 k2; omega) with e | ⟨e, _⟩
      · exact e
      · exact absurd e (nocan b)
    refine hK ι2 _ w2 (I.advance R hj hL hdown (fun t => R.self hj) (fun h => absurd hq h) (by rw [hq]; simp) hR.sim hR.le (fun b _ => hsame b) (fun k hk _ => hR.frame k hk fun b K hc _ => absurd hc (nocan b)) (fun x o t => absurd t (quiet_untouched hq)) (fun x K h1 h2 => ?_) (fun x t => absurd t (quiet_untouched hq)) hR.grow hR.os hR.tape hR.output hv)
    exact absurd hq (R.quiet_empty hj (by omega))
theorem idle_step (R : Run P call ops plan F) (I : Inv P N M ops plan F ι0 w0 ds L c m ι a w) {j : Nat} (hj : j < ops.size) (hL : L j = false) (hdown : ∀ i ∈ ancAt (drawnC P ops) j, L i = true) (hq : (F j).k = .quiet) (hv : (F j).v = undefV) :
    Inv P N M ops plan F ι0 w0 ds (fun k => decide (k = j) || L k) c m ι (a.put ops[j].dst undef) w := by
  have s : Sim P N (F m).h.next ι (bare (F 0).h (F m).h.next) w := by
    refine ⟨fun b o hb => ?_, fun k k1 k2 => ?_, I.part.own, I.part.ro, I.part.inj, I.part.size, fun p hp => by cases hp⟩
    · rcases Nat.mod_two_eq_zero_or_one b with he | he
      · rw [bare_even he] at hb; cases hb
      · rw [bare_odd he] at hb; exact I.odd b o he hb
    · simp only [bare] at k1; omega
  refine I.advance R hj hL hdown (fun t => R.self hj) (fun h => absurd hq h) (by rw [hq]; simp) s (Ren.le.refl ι) (fun b _ => rfl) (fun k _ _ => rfl) (fun x o t => absurd t (quiet_untouched hq)) (fun x K h1 h2 => absurd hq (R.quiet_empty hj (by omega))) (fun x t => absurd t (quiet_untouched hq)) (Nat.le_refl _) rfl rfl rfl (by rw [hv]; exact VR.undefV _)
end
end Go.Ideal
namespace Go.Ideal
open Go Go.RowKit
section
variable {P : Program} {call : Caller} {ops : Array Oper} {plan : List (List Nat)} {F : Nat → Tr}
variable {N M : Nat} {ι0 : Ren} {w0 : World} {ds : List Deferred} {L : Nat → Bool} {c m : Nat} {ι : Ren} {a : Act} {w : World} {r : Option Nat}
theorem Run.eye_bound (R : Run P call ops plan F) (h0 : ∀ p ∈ (F 0).h.hid, p.2 ≤ (F 0).h.next) (hc : (F c).fr = []) {j : Nat} (hcj : c ≤ j) (hj : j ≤ ops.size) (nob : ∀ k, c ≤ k → k < j → (F k).k ≠ .bar) : ∀ p ∈ (eye P ops plan F j).hid, p.2 ≤ (eye P ops plan F j).next := by
  intro p hp
  simp only [eye, seenBy, List.mem_append] at hp
  show p.2 ≤ (F j).h.next
  rcases hp with (hp | hp) | hp
  · obtain ⟨q, hq, rfl⟩ := List.mem_map.1 hp
    simp only [List.mem_filter, R.frs hc hcj hj nob] at hq
    obtain ⟨⟨k, k1, k2, k3, rfl⟩, _⟩ := hq
    exact R.le (i := k + 1) (j := j) k2 hj
  · simp only [List.mem_flatMap, List.mem_range] at hp
    obtain ⟨k, _, hp⟩ := hp
    split at hp
    · simp only [List.mem_map, List.mem_filter, decide_eq_true_eq] at hp
      obtain ⟨y, ⟨_, y2⟩, rfl⟩ := hp
      exact y2
    · cases hp
  · rw [R.hid hj] at hp
    exact Nat.le_trans (h0 p hp) (R.le (Nat.zero_le j) hj)
theorem Run.eye_can (R : Run P call ops plan F) {j b : Nat} (hj : j ≤ ops.size) (hq : (F j).k = .free) (h : (eye P ops plan F j).can b) : b % 2 = 0 ∧ b / 2 < (F j).h.next ∧ Touch P ops plan F j (b / 2) ∧ (look (F j).h.mem (b / 2)).isSome = true := by
  obtain ⟨h1, h2, h3⟩ := h
  obtain ⟨o, ho⟩ := Option.isSome_iff_exists.1 h3
  obtain ⟨g1, g2⟩ := (get_even_some h1).1 ho
  have g2' : look (F j).h.mem (b / 2) = some o := g2
  have hlt : b / 2 < (F j).h.next := Nat.lt_of_not_le fun h => by rw [R.hbAt hj _ h] at g2'; cases g2'
  refine ⟨h1, hlt, ⟨hq, .inl ⟨hlt, ?_, g1⟩⟩, by rw [g2']; rfl⟩
  rcases h2 with h2 | h2
  · have : (F j).h.next ≤ b / 2 := h2
    omega
  · simp only [eye, seenBy, R.floor hj, R.may hj] at h2
    exact h2
theorem free_step (R : Run P call ops plan F) (I : Inv P N M ops plan F ι0 w0 ds L c m ι a w) (gi : GI P ι) (h0 : ∀ p ∈ (F 0).h.hid, p.2 ≤ (F 0).h.next) {j : Nat} (hj : j < ops.size) (hL : L j = false) (hdown : ∀ i ∈ ancAt (drawnC P ops) j, L i = true) (hq : (F j).k = .free) (hcj : c ≤ j) (hjm : j < m)
    {o : IOper} (ho : (drawnC P ops)[j]? = some o) (hop : o.op = opC P ops[j].op) {h2 : Heap} (hrun : o.op.exec call (F j).tm (eye P ops plan F j) = .ret ((F j).v, h2)) (he2 : (F (j + 1)).h = { h2 with floor := (F j).h.floor, may := (F j).h.may, hid := (F j).h.hid })
    {K : Act → World → Prop} {Qx : Exit → Act → World → Prop} (hK : ∀ ι1 a1 w1, Inv P N M ops plan F ι0 w0 ds (fun k => decide (k = j) || L k) c m ι1 a1 w1 → K a1 w1) : ops[j].wpIn (W r) 0 P a w K Qx := by
  have hjs := Nat.le_of_lt hj
  have hnx : h2.next = (F (j + 1)).h.next := by rw [he2]
  have hmem : h2.mem = (F (j + 1)).h.mem := by rw [he2]
  have hkeep : Keeps (eye P ops plan F j) h2 := by
    have := exec_keeps R.good.keeps (F j).tm (eye P ops plan F j) o.op
    rw [hrun] at this; exact this
  have hbound := R.eye_bound h0 I.frc hcj hjs (fun k k1 k2 => I.nob k k1 (by omega))
  have s : Sim P N h2.next ι (eye P ops plan F j) w := by
    refine ⟨fun b ob hb => ?_, fun k k1 k2 => I.unb j hcj hjm hL k k1 (by rw [← hnx]; exact k2), I.part.own, I.part.ro, I.part.inj, I.part.size, hbound⟩
    rcases Nat.mod_two_eq_zero_or_one b with he | he
    · obtain ⟨g1, g2⟩ := (get_even_some he).1 hb
      have := I.sees R hj hL hdown hcj hjm g1 g2
      rwa [show 2 * (b / 2) = b by omega] at this
    · refine I.odd b ob he ?_
      rw [get_odd he] at hb ⊢
      have e : (eye P ops plan F j).ro = (F 0).h.ro := R.ro hjs
      rw [e] at hb
      exact hb
  have H : Here P N h2.next ι (eye P ops plan F j) w := ⟨s, gi, R.hbAt hjs⟩
  have ht := blank_rel R I hj hL hdown
  have hrun' : (opC P ops[j].op).exec call (blank (namesAt ops.toList (drawnC P ops) j) (F j).tm) (eye P ops plan F j) = .ret ((F j).v, h2) := by
    rw [← hop, R.blanked hj ho]; exact hrun
  refine oper_at (a1 := { a with tmps := (blank (namesAt ops.toList (drawnC P ops) j) a.tmps.toList).toArray }) (Q := fun p => p = ((F j).v, h2)) R.good H (by simpa using ht) (fun p hp => by rw [hp]; exact Nat.le_refl _) ?_ (by rw [hrun']; exact rfl) ?_
  · exact execOp_congr _ (R.noSelect hj ⟨_, _, _, _, hrun'⟩) fun x hx => eval_blank fun t e => R.reads hj (e ▸ hx)
  · intro v v' ι2 h' w2 hqq hv hR
    simp only [Prod.mk.injEq] at hqq
    obtain ⟨e1, e2⟩ := hqq
    have e2' := e2.symm
    subst e2'
    have e1' := e1.symm
    subst e1'
    have can := fun {b : Nat} (hb : (eye P ops plan F j).can b) => R.eye_can hjs hq hb
    have hfr : ∀ {x}, (F j).h.next ≤ x → x < (F (j + 1)).h.next → Touch P ops plan F j x := fun h1 h3 => ⟨hq, .inr ⟨h1, h3⟩⟩
    have nofresh : ∀ b, (∀ x, b = 2 * x → ¬ ((F j).h.next ≤ x ∧ x < (F (j + 1)).h.next)) → ∀ k, (eye P ops plan F j).next ≤ k → k < h2.next → b ≠ 2 * k := fun b hb k k1 k2 e => hb k e ⟨k1, by rw [← hnx]; exact k2⟩
    refine hK ι2 _ w2 (I.advance R hj hL hdown (fun t => R.self hj) (fun _ => ⟨hcj, hjm⟩) (by rw [hq]; simp) hR.sim hR.le (fun b hb => ?_) (fun k hk hno => ?_) (fun x ob tx hob => ?_) (fun x K' x1 x2 hl => ?_) (fun x tx hx hch => ?_) hR.grow hR.os hR.tape hR.output hv)
    · rcases hR.same b (nofresh b fun x e hx => hb x e (hfr hx.1 hx.2)) with e | ⟨e, _⟩
      · exact e
      · obtain ⟨c1, _, c3, _⟩ := can e
        exact absurd c3 (hb (b / 2) (by omega))
    · refine hR.frame k hk fun b K' hc hl => ?_
      obtain ⟨c1, c2, c3, c4⟩ := can hc
      exact hno (b / 2) K' c3 c2 c4 (by rw [show 2 * (b / 2) = b by omega]; exact hl)
    · have hvis : hides h2.hid x = false := by
        rw [hkeep.hid]
        rcases tx.2 with ⟨_, _, h3⟩ | ⟨h1, _⟩
        · exact h3
        · exact hides_false hbound h1
      rw [← hmem] at hob
      exact hR.sim.live (2 * x) ob ((get_even_some (by omega)).2 (by rw [show 2 * x / 2 = x by omega]; exact ⟨hvis, hob⟩))
    · rcases hR.fresh x K' x1 (by rw [hnx]; exact x2) hl with e | ⟨b, K0, b1, b2, b3⟩
      · exact .inl e
      · obtain ⟨c1, c2, c3, c4⟩ := can b1
        exact .inr ⟨b / 2, K0, c3, c2, c4, by rw [show 2 * (b / 2) = b by omega]; exact b2, b3⟩
    · rcases hR.same (2 * x) (nofresh _ fun y e hy => by omega) with e | ⟨e, e2, e3⟩
      · exact absurd e hch
      · obtain ⟨c1, c2, c3, c4⟩ := can e
        rw [show 2 * x / 2 = x by omega] at c4
        exact ⟨e2, c4, e3⟩
end
end Go.Ideal
namespace Go.Ideal
open Go Go.RowKit
section
variable {P : Program} {call : Caller} {ops : Array Oper} {plan : List (List Nat)} {F : Nat → Tr}
variable {N M : Nat} {ι0 : Ren} {w0 : World} {ds : List Deferred} {L : Nat → Bool} {c m : Nat} {ι : Ren} {a : Act} {w : World} {r : Option Nat}
theorem Inv.whole (R : Run P call ops plan F) (I : Inv P N M ops plan F ι0 w0 ds L c m ι a w) (h0 : ∀ p ∈ (F 0).h.hid, p.2 ≤ (F 0).h.next) (hdone : ∀ k, k < m → (F k).k ≠ .quiet → L k = true) : Res P N M ι0 (F 0).h w0 ι (F m).h w := by
  refine I.part.res (fun b o hb => ?_) I.top (fun q hq => ?_) (R.le (Nat.zero_le m) I.mn) (R.floor I.mn) (R.may I.mn) fun b hb hn => ?_
  · rcases Nat.mod_two_eq_zero_or_one b with he | he
    · obtain ⟨g1, g2⟩ := (get_even_some he).1 hb
      rw [R.hid I.mn] at g1
      have hx : b / 2 < (F m).h.next := Nat.lt_of_not_le fun h => by rw [R.hbAt I.mn _ h] at g2; cases g2
      have hb2 : 2 * (b / 2) = b := by omega
      rcases last_of (fun k => Touch P ops plan F k (b / 2)) c m with ⟨i, i1, i2, i3, i4⟩ | hno
      · have := I.mem1 (b / 2) i o g1 ⟨i1, i2, hdone i i2 (by rw [i3.1]; simp), i3, fun k k1 k2 _ k4 => i4 k k1 k2 k4⟩ (by
          rw [← R.look_last i2 I.mn (fun k k1 k2 => I.nob k (by omega) k2) i3 fun k k1 k2 tk => by have := i4 k (by omega) k2 tk; omega]
          exact g2)
        rwa [hb2] at this
      · have hxc : b / 2 < (F c).h.next := Nat.lt_of_not_le fun h => by
          have hcm := I.cm
          obtain ⟨k, k1, k2, k3, k4⟩ := tile (F := F) (d := m - c) (i := c) h (by rw [show c + (m - c) = m by omega]; exact hx)
          have hkm : k < m := by omega
          have hkn : k < ops.size := Nat.lt_of_lt_of_le hkm I.mn
          have hq : (F k).k = .free := by
            have h1 := I.nob k k1 hkm
            have h2 := R.quiet_empty hkn (by omega)
            cases hk : (F k).k with
            | quiet => exact absurd hk h2
            | bar => exact absurd hk h1
            | free => rfl
          exact hno k k1 hkm ⟨hq, .inr ⟨k3, k4⟩⟩
        have := I.mem0 (b / 2) o g1 (fun k k1 k2 _ => hno k k1 k2) hxc (by
          rw [← R.same I.cm I.mn (fun k k1 k2 => I.nob k k1 k2) hxc fun k k1 k2 => hno k k1 k2]
          exact g2)
        rwa [hb2] at this
    · refine I.odd b o he ?_
      rw [get_odd he] at hb ⊢
      rw [R.ro I.mn] at hb
      exact hb
  · rw [R.hid I.mn] at hq
    exact Nat.le_trans (h0 q hq) (R.le (Nat.zero_le m) I.mn)
  · rcases Nat.mod_two_eq_zero_or_one b with he | he
    · obtain ⟨o, ho⟩ := Option.isSome_iff_exists.1 hb
      obtain ⟨g1, g2⟩ := (get_even_some he).1 ho
      have hx : b / 2 < (F m).h.next := Nat.lt_of_not_le fun h => by rw [R.hbAt I.mn _ h] at g2; cases g2
      have hx0 : b / 2 < (F 0).h.next := Nat.lt_of_not_le fun h => hn (b / 2) h hx (by omega)
      have hs := (R.keep (Nat.zero_le m) I.mn).back (b / 2) hx0 (by rw [g2]; rfl)
      obtain ⟨o', ho'⟩ := Option.isSome_iff_exists.1 hs
      exact Option.isSome_iff_exists.2 ⟨o', (get_even_some he).2 ⟨by rw [← R.hid I.mn]; exact g1, ho'⟩⟩
    · rw [get_odd he] at hb ⊢
      rw [R.ro I.mn] at hb
      exact hb
theorem reopen (R : Run P call ops plan F) (hM : (F ops.size).h.next ≤ M) (hc : c ≤ ops.size) (frc : (F c).fr = []) (low : ∀ k, k < c → (F k).k ≠ .quiet → L k = true) (high : ∀ k, c ≤ k → k < ops.size → (F k).k ≠ .quiet → L k = false)
    (down : ∀ i, L i = true → ∀ j ∈ ancAt (drawnC P ops) i, L j = true) (inn : ∀ i, L i = true → i < ops.size) (len : a.tmps.size = (F 0).tm.length)
    (tmp : ∀ t v', a.tmps[t]? = some v' → (∃ i, L i = true ∧ Ideal.dstAt (drawnC P ops) i = some t ∧ (∀ k, L k = true → Ideal.dstAt (drawnC P ops) k = some t → k ≤ i) ∧ VR ι (F i).v v') ∨
      ((∀ i, L i = true → Ideal.dstAt (drawnC P ops) i ≠ some t) ∧ ∃ v, (F 0).tm[t]? = some v ∧ VR ι v v'))
    (res : Res P N M ι0 (F 0).h w0 ι (F c).h w) (dfr : a.defers = ds) : ∃ m, Inv P N M ops plan F ι0 w0 ds L c m ι a w := by
  obtain ⟨m, m1, m2, m3, m4⟩ := next_bar (F := F) (n := ops.size) (ops.size - c) c (by omega)
  have hmM : (F m).h.next ≤ M := Nat.le_trans (R.le m2 (Nat.le_refl _)) hM
  have hle := R.le m1 m2
  refine ⟨m, m1, m2, m3, m4, frc, low, fun k k1 => high k (by omega), down, inn, len, tmp, res.part.more hle fun k k1 k2 => res.sim.unborn k k1 (by omega), ?_, ?_, ?_, fun j j1 j2 _ k k1 k2 => res.sim.unborn k ?_ ?_, fun k k1 k2 => res.sim.unborn k (Nat.le_trans hle k1) k2, dfr⟩
  · rintro x i o _ ⟨i1, i2, i3, i4, _⟩ _
    have := high i i1 (Nat.lt_of_lt_of_le i2 m2) (by rw [i4.1]; simp)
    rw [this] at i3; cases i3
  · intro x o hh _ _ ho
    exact res.sim.live (2 * x) o ((get_even_some (by omega)).2 (by rw [show 2 * x / 2 = x by omega, R.hid hc]; exact ⟨hh, ho⟩))
  · intro b o hb ho
    refine res.sim.live b o ?_
    rw [get_odd hb] at ho ⊢
    rw [R.ro hc]; exact ho
  · exact Nat.le_trans (R.le j1 (by omega)) k1
  · exact Nat.lt_of_lt_of_le k2 (Nat.le_trans (R.le (i := j + 1) (j := m) j2 m2) hmM)
theorem bar_step (R : Run P call ops plan F) (I : Inv P N M ops plan F ι0 w0 ds L c m ι a w) (gi : GI P ι) (h0 : ∀ p ∈ (F 0).h.hid, p.2 ≤ (F 0).h.next) (hM : (F ops.size).h.next ≤ M) (hm : m < ops.size) (hL : L m = false) (hdown : ∀ i ∈ ancAt (drawnC P ops) m, L i = true) (hb : (F m).k = .bar)
    {K : Act → World → Prop} {Qx : Exit → Act → World → Prop} (hK : ∀ ι1 c1 m1 a1 w1, Inv P N M ops plan F ι0 w0 ds (fun k => decide (k = m) || L k) c1 m1 ι1 a1 w1 → K a1 w1) : ops[m].wpIn (W r) 0 P a w K Qx := by
  obtain ⟨hg, o, ho, hop, hdst, hgu, hanc, hst, hstep⟩ := R.oper hm
  rw [hb] at hstep
  obtain ⟨hwant, hpure, hbar, hrun, hfr⟩ := hstep
  have hdone : ∀ k, k < m → (F k).k ≠ .quiet → L k = true := fun k k1 k2 => by
    rcases R.bar_done hm hb (k := k) (by omega) (by omega) k2 with e | e
    · exact hdown k e
    · have := R.anc_lt e; omega
  have res := I.whole R h0 hdone
  have H : Here P N M ι (F m).h w := ⟨res.sim, gi, R.hbAt I.mn⟩
  have ht := blank_rel R I hm hL hdown
  have hrun' : (opC P ops[m].op).exec call (blank (namesAt ops.toList (drawnC P ops) m) (F m).tm) (F m).h = .ret ((F m).v, (F (m + 1)).h) := by
    rw [← hop, R.blanked hm ho]; exact hrun
  have hm1 : (F (m + 1)).h.next ≤ M := Nat.le_trans (R.le (i := m + 1) hm (Nat.le_refl _)) hM
  refine oper_at (a1 := { a with tmps := (blank (namesAt ops.toList (drawnC P ops) m) a.tmps.toList).toArray }) (Q := fun p => p = ((F m).v, (F (m + 1)).h)) R.good H (by simpa using ht) (fun p hp => by rw [hp]; exact hm1) ?_ (by rw [hrun']; exact rfl) ?_
  · exact execOp_congr _ (R.noSelect hm ⟨_, _, _, _, hrun'⟩) fun x hx => eval_blank fun t e => R.reads hm (e ▸ hx)
  · intro v v' ι2 h' w2 hq hv hR
    simp only [Prod.mk.injEq] at hq
    obtain ⟨e1, e2⟩ := hq
    subst e1; subst e2
    obtain ⟨t1, t2⟩ := I.tmps R hm hL (fun t => R.self hm) hR.le hv
    have q1 : ∀ k, k < m + 1 → (F k).k ≠ .quiet → (decide (k = m) || L k) = true := fun k k1 k2 => by
      simp only [Bool.or_eq_true, decide_eq_true_eq]
      rcases Nat.lt_or_ge k m with e | e
      · exact .inr (hdone k e k2)
      · exact .inl (by omega)
    have q2 : ∀ k, m + 1 ≤ k → k < ops.size → (F k).k ≠ .quiet → (decide (k = m) || L k) = false := fun k k1 k2 k3 => by
      simp only [Bool.or_eq_false_iff, decide_eq_false_iff_not]
      exact ⟨by omega, I.high k (by omega) k2 k3⟩
    have q3 : ∀ i, (decide (i = m) || L i) = true → ∀ k ∈ ancAt (drawnC P ops) i, (decide (k = m) || L k) = true := fun i hi k hk => by
      simp only [Bool.or_eq_true, decide_eq_true_eq] at hi ⊢
      rcases hi with e | e
      · subst e; exact .inr (hdown k hk)
      · exact .inr (I.down i e k hk)
    have q4 : ∀ i, (decide (i = m) || L i) = true → i < ops.size := fun i hi => by
      simp only [Bool.or_eq_true, decide_eq_true_eq] at hi
      rcases hi with e | e
      · omega
      · exact I.inn i e
    obtain ⟨m1, hI⟩ := reopen (L := fun k => decide (k = m) || L k) (c := m + 1) R hM hm hfr q1 q2 q3 q4 t1 t2 (res.trans hR) ((put_defers _ _ _).trans I.dfr)
    exact hK ι2 _ m1 _ w2 hI
theorem any_step (R : Run P call ops plan F) (I : Inv P N M ops plan F ι0 w0 ds L c m ι a w) (gi0 : GI P ι0) (h0 : ∀ p ∈ (F 0).h.hid, p.2 ≤ (F 0).h.next) (hM : (F ops.size).h.next ≤ M) {j : Nat} (hj : j < ops.size) (hL : L j = false) (hdown : ∀ i ∈ ancAt (drawnC P ops) j, L i = true)
    {K : Act → World → Prop} {Qx : Exit → Act → World → Prop} (hK : ∀ ι1 c1 m1 a1 w1, Inv P N M ops plan F ι0 w0 ds (fun k => decide (k = j) || L k) c1 m1 ι1 a1 w1 → K a1 w1) : wpOpIn (W r) 0 P ops Qx j K a w := by
  have gi : GI P ι := fun x hx => (gi0 x hx).mono I.part.le
  obtain ⟨hg, o, ho, hop, hdst, hgu, hanc, hst, hstep⟩ := R.oper hj
  have hw := R.wantsAt I hj hL hdown ho hgu
  unfold wpOpIn
  have hoj : ops[j]? = some ops[j] := by simp [hj]
  simp only [hoj]
  cases hkk : (F j).k with
  | quiet =>
    rw [hkk] at hstep
    rcases hstep.2.2 with ⟨w1, w2⟩ | ⟨w1, w2, q, w3⟩
    · rw [w1] at hw
      rw [← hw, if_neg (by simp)]
      exact ⟨fun _ _ => trivial, hK _ _ _ _ _ (idle_step R I hj hL hdown hkk w2)⟩
    · rw [w1] at hw
      rw [← hw, if_pos rfl]
      refine pure_step R I gi hj hL hdown hkk ho hop (fun h => ?_) fun ι1 a1 w1 hI => hK ι1 c m a1 w1 hI
      have := (pure_any (h' := h) w2 w3).1
      rcases exec_eq call (F j).tm h o.op with ⟨f, as, e⟩ | e
      · rw [e] at w2; simp [IOp.isPure] at w2
      · rw [e]; exact this
  | bar =>
    rw [hkk] at hstep
    rw [hstep.1] at hw
    rw [← hw, if_pos rfl]
    have hjm := (I.place R hj hL hdown (by rw [hkk]; simp)).2.1 hkk
    subst hjm
    exact bar_step R I gi h0 hM hj hL hdown hkk hK
  | free =>
    rw [hkk] at hstep
    obtain ⟨w1, w2, h2, w3, w4, w5⟩ := hstep
    rw [w1] at hw
    rw [← hw, if_pos rfl]
    obtain ⟨p1, _, p3⟩ := I.place R hj hL hdown (by rw [hkk]; simp)
    exact free_step R I gi h0 hj hL hdown hkk p1 (p3 (by rw [hkk]; simp)) ho hop w3 w4 fun ι1 a1 w1 hI => hK ι1 c m a1 w1 hI
theorem all_done (R : Run P call ops plan F) (I : Inv P N M ops plan F ι0 w0 ds L c m ι a w) (_ : (F ops.size).h.next ≤ M) (hall : ∀ k, k < ops.size → L k = true) (h0 : ∀ p ∈ (F 0).h.hid, p.2 ≤ (F 0).h.next) :
    VRs ι (F ops.size).tm a.tmps.toList ∧ Res P N M ι0 (F 0).h w0 ι (F ops.size).h w := by
  have hm : m = ops.size := by
    rcases I.last with e | e
    · exact e
    · rcases Nat.lt_or_ge m ops.size with h | h
      · have := I.high m (Nat.le_refl _) h (by rw [e]; simp)
        rw [hall m h] at this; cases this
      · exact Nat.le_antisymm I.mn h
  subst hm
  refine ⟨VRs.of (by rw [R.tm_len (Nat.le_refl _), ← I.len, Array.length_toList]) fun t x x' h1 h2 => ?_, I.whole R h0 fun k k1 _ => hall k k1⟩
  have h2' : a.tmps[t]? = some x' := by simpa using h2
  have htl : t < (F 0).tm.length := by rw [← I.len]; exact (Array.getElem?_eq_some_iff.1 h2').1
  rcases I.tmp t x' h2' with ⟨i, i1, i2, i3, i4⟩ | ⟨i1, v, i2, i3⟩
  · have hin := I.inn i i1
    rw [R.tm_some hin (Nat.le_refl _) i2 (fun k k1 k2 k3 => by have := i3 k (hall k k2) k3; omega) htl] at h1
    cases h1
    exact i4
  · rw [R.tm_keep (Nat.zero_le _) (Nat.le_refl _) fun k _ k2 k3 => i1 k (hall k k2) k3, i2] at h1
    cases h1
    exact i3
theorem count_set : ∀ (l : List Bool) (i : Nat), l[i]? = some false → (l.set i true).countP (fun b => !b) + 1 = l.countP (fun b => !b)
  | [], i, h => by simp at h
  | b :: l, 0, h => by simp at h; subst h; simp
  | b :: l, i + 1, h => by
    simp at h
    have := count_set l i h
    simp only [List.set_cons_succ, List.countP_cons]
    omega
theorem count_zero {l : List Bool} (h : l.countP (fun b => !b) = 0) (i : Nat) (hi : i < l.length) : l[i]? = some true := by
  rw [List.countP_eq_zero] at h
  have := h l[i] (List.getElem_mem hi)
  simp at this
  simp [hi, this]
theorem first_false : ∀ (l : List Bool), l.countP (fun b => !b) ≠ 0 → ∃ i : Nat, l[i]? = some false ∧ ∀ k : Nat, k < i → l[k]? = some true
  | [], h => by simp at h
  | b :: l, h => by
    cases b with
    | false => exact ⟨0, by simp, fun k hk => by omega⟩
    | true =>
      obtain ⟨i, h1, h2⟩ := first_false l (by simpa using h)
      refine ⟨i + 1, by simpa using h1, fun k hk => ?_⟩
      cases k with
      | zero => simp
      | succ k => simpa using h2 k (by omega)
theorem mem_direct {o : Oper} {e : Edge} (he : e ∈ o.after) (hb : Region.binds .any e = true) : e.on ∈ direct o := by
  simp only [direct, List.mem_map, List.mem_filter]
  exact ⟨e, ⟨by simpa using he, hb⟩, rfl⟩
theorem Run.ready (R : Run P call ops plan F) {listed : Array Bool} (hs : listed.size = ops.size) {j : Nat} (hj : j ∈ Region.ready .any ops listed) (hdown : ∀ i, listed.getD i false = true → ∀ k ∈ ancAt (drawnC P ops) i, listed.getD k false = true) :
    j < ops.size ∧ listed.getD j false = false ∧ ∀ i ∈ ancAt (drawnC P ops) j, listed.getD i false = true := by
  obtain ⟨h1, o, h2, h3⟩ := mem_ready.1 hj
  have hlt : j < ops.size := (Array.getElem?_eq_some_iff.1 h2).1
  have hdir : ∀ d ∈ dirAt ops.toList j, listed.getD d false = true := fun d hd => by
    have : ops.toList[j]? = some o := by simpa using h2
    simp only [dirAt, this, direct, List.mem_map, List.mem_filter] at hd
    obtain ⟨e, ⟨e1, e2⟩, rfl⟩ := hd
    exact h3 e (by simpa using e1) e2
  refine ⟨hlt, ?_, fun i hi => ?_⟩
  · rw [Array.getD_eq_getD_getElem?] at h1 ⊢
    cases hx : listed[j]? with
    | none => rw [hx] at h1; simp at h1
    | some b => rw [hx] at h1; simpa using h1
  · rcases ((R.okAt hlt).2.1 i hi).2.2 with e | ⟨d, e1, e2⟩
    · exact hdir i e
    · exact hdown d (hdir d e1) i e2
theorem getD_set {listed : Array Bool} {j : Nat} (hj : j < listed.size) : (fun k => (listed.setIfInBounds j true).getD k false) = fun k => decide (k = j) || listed.getD k false := by
  funext k
  simp only [Array.getD_eq_getD_getElem?]
  by_cases h : k = j
  · subst h; simp [hj]
  · rw [Array.getElem?_setIfInBounds_ne (Ne.symm h)]; simp [h]
theorem any_sound (R : Run P call ops plan F) (gi0 : GI P ι0) (h0 : ∀ p ∈ (F 0).h.hid, p.2 ≤ (F 0).h.next) (hM : (F ops.size).h.next ≤ M) {Qx : Exit → Act → World → Prop}
    (hend : ∀ ι' a' w', VRs ι' (F ops.size).tm a'.tmps.toList → Res P N M ι0 (F 0).h w0 ι' (F ops.size).h w' → a'.defers = ds → Qx .normal a' w') :
    ∀ (fuel : Nat) (listed : Array Bool) {c m : Nat} {ι : Ren} {a : Act} {w : World}, listed.size = ops.size → listed.toList.countP (fun b => !b) = fuel → Inv P N M ops plan F ι0 w0 ds (fun k => listed.getD k false) c m ι a w →
      wpAnyIn (W r) 0 P .any ops Qx fuel listed a w
  | 0, listed, c, m, ι, a, w, hs, hc, I => by
    have hall : ∀ k, k < ops.size → listed.getD k false = true := fun k hk => by
      have := count_zero hc k (by simpa [hs] using hk)
      have h2 : listed[k]? = some true := by simpa using this
      simp [Array.getD_eq_getD_getElem?, h2]
    obtain ⟨e1, e2⟩ := all_done R I hM hall h0
    refine ⟨?_, hend _ _ _ e1 e2 I.dfr⟩
    rw [List.eq_nil_iff_forall_not_mem]
    intro j hj
    obtain ⟨j1, j2, _⟩ := R.ready hs hj I.down
    rw [hall j j1] at j2; cases j2
  | fuel + 1, listed, c, m, ι, a, w, hs, hc, I => by
    refine ⟨fun hnil => ?_, fun j hj => ?_⟩
    · exfalso
      obtain ⟨i, i1, i2⟩ := first_false listed.toList (by omega)
      have i1' : listed[i]? = some false := by simpa using i1
      have hlt : i < ops.size := by rw [← hs]; exact (Array.getElem?_eq_some_iff.1 i1').1
      have : i ∈ Region.ready .any ops listed := by
        refine mem_ready.2 ⟨by simp [Array.getD_eq_getD_getElem?, i1'], ops[i], by simp [hlt], fun e he hb => ?_⟩
        have hd : e.on ∈ dirAt ops.toList i := by
          have : ops.toList[i]? = some ops[i] := by simp [hlt]
          simp only [dirAt, this]
          exact mem_direct he hb
        have h2 := i2 e.on ((R.okAt hlt).1 _ hd)
        have h3 : listed[e.on]? = some true := by simpa using h2
        simp [Array.getD_eq_getD_getElem?, h3]
      rw [hnil] at this; cases this
    · obtain ⟨j1, j2, j3⟩ := R.ready hs hj I.down
      refine any_step R I gi0 h0 hM j1 j2 j3 fun ι1 c1 m1 a1 w1 hI => ?_
      have hjl : j < listed.size := by omega
      refine any_sound R gi0 h0 hM hend fuel (listed.setIfInBounds j true) (by simpa using hs) ?_ ?_ (c := c1) (m := m1) (ι := ι1)
      · have hx : listed.toList[j]? = some false := by
          have : listed[j]? = some listed[j] := by simp [hjl]
          simp only [Array.getD_eq_getD_getElem?, this, Option.getD_some] at j2
          rw [Array.getElem?_toList, this, j2]
        have := count_set listed.toList j hx
        rw [Array.toList_setIfInBounds]
        omega
      · rw [getD_set hjl]; exact hI
theorem drawn_sound {h : Heap} {tm : List Value} (hc : CallOK P call) (hok : drawnOk ops.toList (drawnC P ops) = true) (H : Here P N M ι h w) (t : VRs ι tm a.tmps.toList) {p : List Value × Heap} (hr : execDrawn call ((drawnC P ops).map (·.anc)) plan (drawnC P ops) 0 [] tm h = .ok p) (hM : p.2.next ≤ M)
    {Qx : Exit → Act → World → Prop} (hend : ∀ ι' a' w', VRs ι' p.1 a'.tmps.toList → Res P N M ι h w ι' p.2 w' → a'.defers = a.defers → Qx .normal a' w') :
    wpAnyIn (W r) 0 P .any ops Qx ops.size (Array.replicate ops.size false) a w := by
  obtain ⟨F, f1, f2, f3, f4, f5, f6⟩ := trace_of call _ plan (drawnC P ops) 0 [] tm h p hr
  rw [Nat.zero_add, drawn_length] at f4 f5
  have R : Run P call ops plan F := ⟨hok, hc, fun k o ho => by have := f6 k o ho; rwa [Nat.zero_add] at this, f3, by rw [f2]; exact H.hb⟩
  have h0 : ∀ p ∈ (F 0).h.hid, p.2 ≤ (F 0).h.next := by rw [f2]; exact H.sim.hid
  have hL : (fun k => (Array.replicate ops.size false).getD k false) = fun _ => false := by
    funext k
    simp only [Array.getD_eq_getD_getElem?]
    by_cases hk : k < ops.size
    · simp [hk]
    · simp [hk]
  have htm : ∀ (x : Nat) v', a.tmps[x]? = some v' → (∃ i, (fun _ : Nat => false) i = true ∧ Ideal.dstAt (drawnC P ops) i = some x ∧ (∀ k, (fun _ : Nat => false) k = true → Ideal.dstAt (drawnC P ops) k = some x → k ≤ i) ∧ VR ι (F i).v v') ∨
      ((∀ i, (fun _ : Nat => false) i = true → Ideal.dstAt (drawnC P ops) i ≠ some x) ∧ ∃ v, (F 0).tm[x]? = some v ∧ VR ι v v') := by
    intro x v' hv
    obtain ⟨v, e1, e2⟩ := t.get' x v' (by simpa using hv)
    exact .inr ⟨fun i hi => by simp at hi, v, by rw [f1]; exact e1, e2⟩
  have hM' : (F ops.size).h.next ≤ M := by rw [f5]; exact hM
  obtain ⟨m, I⟩ := reopen (P := P) (N := N) (M := M) (ι0 := ι) (w0 := w) (ds := a.defers) (L := fun _ => false) (c := 0) (ι := ι) (a := a) (w := w) R hM' (Nat.zero_le _) f3 (fun k hk => by omega) (fun _ _ _ _ => rfl) (fun i hi => by cases hi) (fun i hi => by cases hi) (by rw [f1, t.length, Array.length_toList])
    htm (by rw [f2]; exact Res.refl H.sim) rfl
  refine any_sound R H.gi h0 hM' (ds := a.defers) (fun ι' a' w' h1 h2 h3 => hend ι' a' w' (by rw [← f4]; exact h1) (by rw [f2, f5] at h2; exact h2) h3) ops.size (Array.replicate ops.size false) (by simp) (by rw [Array.toList_replicate, List.countP_replicate]; simp) ?_ (c := 0) (m := m) (ι := ι)
  rw [hL]; exact I
end
end Go.Ideal
