import Derived.Test.YtmpnldmdchchjaaFg
import Derived.KernelRfl
import Derived.ProofKit
import Derived.OpenShut
import Derived.Carry
import Derived.JoinedAt
namespace Go.Ideal
open Go Go.RowKit
def DR (ι : Ren) : List Nat → List Deferred → Prop
  | [], [] => True
  | r :: rs, d :: ds => (∃ r', d.target = .collected r' ∧ MR ι r r') ∧ DR ι rs ds
  | _, _ => False
theorem DR.mono {ι ι' : Ren} (h : ι.le ι') : ∀ {rs : List Nat} {ds : List Deferred}, DR ι rs ds → DR ι' rs ds
  | [], [], _ => trivial
  | _ :: _, _ :: _, ⟨⟨r', h1, h2⟩, h3⟩ => ⟨⟨r', h1, h2.mono h⟩, DR.mono h h3⟩
  | [], _ :: _, hd => hd.elim
  | _ :: _, [], hd => hd.elim
theorem DR.append {ι : Ren} : ∀ {rs rs' : List Nat} {ds ds' : List Deferred}, DR ι rs ds → DR ι rs' ds' → DR ι (rs ++ rs') (ds ++ ds')
  | [], _, [], _, _, h => h
  | _ :: _, _, _ :: _, _, ⟨h1, h2⟩, h => ⟨h1, DR.append h2 h⟩
  | [], _, _ :: _, _, hd, _ => hd.elim
  | _ :: _, _, [], _, hd, _ => hd.elim
def XR : IExit → Exit → Prop
  | .normal, .normal => True
  | .exit i, .exit j => i = j
  | .ret, .ret => True
  | _, _ => False
section
variable {P : Program} {N M : Nat} {ι : Ren} {w : World} {a : Act} {call : Caller} {r around : Option Nat} {s : St}
def Post (P : Program) (N M : Nat) (ι : Ren) (h : Heap) (w : World) (Q : IExit × St → Prop) : Exit → Act → World → Prop := fun e a' w' =>
  ∃ e0 s' ι', Q (e0, s') ∧ XR e0 e ∧ VRs ι' s'.tmps a'.tmps.toList ∧ DR ι' s'.defers a'.defers ∧ Res P N M ι h w ι' s'.h w'
theorem Post.before {ι' : Ren} {h h' : Heap} {w' : World} (R : Res P N M ι h w ι' h' w') {Q Q' : IExit × St → Prop} (hQ : ∀ p, Q p → Q' p) {e : Exit} {a' : Act} {w2 : World} (hp : Post P N M ι' h' w' Q e a' w2) : Post P N M ι h w Q' e a' w2 := by
  obtain ⟨e0, s', ι2, h1, h2, h3, h4, h5⟩ := hp
  exact ⟨e0, s', ι2, hQ _ h1, h2, h3, h4, R.trans h5⟩
theorem stepR_scope {b : Frame} {k : List Item} {cs : List Frame} {c : Code} : step P (lone (b.atR a (.code (.scope c) :: k)) cs w) = .next (lone (b.atR a (.code c :: .inScope c :: k)) cs w) :=
  step_lone_go (by simp [stepG, stepG.exec, Frame.atR])
theorem stepR_inScope {b : Frame} {k : List Item} {cs : List Frame} {c : Code} : step P (lone (b.atR a (.inScope c :: k)) cs w) = .next (lone (b.atR a k) cs w) :=
  step_lone_go (by simp [stepG, stepG.exec, Frame.atR])
theorem wpIn_scope {F : Fence} {n : Nat} {Q : Exit → Act → World → Prop} {c : Code} (hg : ∀ l a w, ¬ Q (.goto l) a w) (h : c.wpIn F n P Q a w) : (Code.scope c).wpIn F n P Q a w := by
  intro b k cs hro hb hr
  have h0 : (lone (b.atR a (.code (.scope c) :: k)) cs w).fenced P F := fenced_calm hb hr rfl
  obtain ⟨e, a₁, w₁, hq, harr⟩ := h b (.inScope c :: k) cs hro hb hr
  cases e with
  | normal => exact ⟨.normal, a₁, w₁, hq, .head h0 stepR_scope (StepsIn.trans harr (.one (fenced_calm hb hr rfl) stepR_inScope))⟩
  | exit id =>
    have hx : exitTo id (.inScope c :: k) = exitTo id k := by simp [exitTo]
    exact ⟨.exit id, a₁, w₁, hq, fun k' hk => .head h0 stepR_scope (harr.1 k' (by rw [hx]; exact hk)), fun hr' hk => let ⟨k₁, h1, h2⟩ := harr.2 hr' (by rw [hx]; exact hk); ⟨k₁, h1, .head h0 stepR_scope h2⟩⟩
  | goto l => exact absurd hq (hg l _ _)
  | ret => exact ⟨_, a₁, w₁, hq, .of_steps (.one h0 stepR_scope) harr⟩
  | panic ch => exact ⟨_, a₁, w₁, hq, .of_steps (.one h0 stepR_scope) harr⟩
  | outgrown => exact ⟨_, a₁, w₁, hq, .of_steps (.one h0 stepR_scope) harr⟩
theorem wpIn_loop_down {F : Fence} {n : Nat} {Q : Exit → Act → World → Prop} {c : Code} (I : Nat → Act → World → Prop) {k0 : Nat} (h0 : I k0 a w) (round : ∀ k a w, I k a w → c.wpIn F n P (Exit.then (fun a' w' => ∃ k', k' < k ∧ I k' a' w') Q) a w) : (Code.loop c).wpIn F n P Q a w := by
  have least : ∀ a w, (∃ k, I k a w) → ∃ k, I k a w ∧ ∀ m, I m a w → k ≤ m := by
    intro a w ⟨k, hk⟩
    induction k using Nat.strongRecOn with
    | _ k ih =>
      by_cases h : ∃ m, m < k ∧ I m a w
      · obtain ⟨m, m1, m2⟩ := h; exact ih m m1 m2
      · exact ⟨k, hk, fun m hm => Nat.le_of_not_lt fun hlt => h ⟨m, hlt, hm⟩⟩
  classical
  refine wpIn_loop (fun a w => ∃ k, I k a w) (fun a w => if h : ∃ k, I k a w then Classical.choose (least a w h) else 0) ⟨k0, h0⟩ fun a w h => ?_
  have hspec := Classical.choose_spec (least a w h)
  refine wpIn_mono (round _ a w hspec.1) fun e a' w' he => ?_
  cases e <;> try exact he
  obtain ⟨k', k1, k2⟩ := he
  refine ⟨⟨k', k2⟩, ?_⟩
  have hex : ∃ k, I k a' w' := ⟨k', k2⟩
  simp only [hex, h, dif_pos]
  exact Nat.lt_of_le_of_lt ((Classical.choose_spec (least a' w' hex)).2 k' k2) k1
theorem range_core (hc : CallOK P call) {g : Operand} {ps : Array Tmp} {asg body : Code} (og : okOpd P g = true) {h1 : Heap} {w1 : World} {ι1 : Ren} (H : Here P N M ι s.h w) (H1 : Here P N M ι1 h1 w1) (R1 : Res P N M ι s.h w ι1 h1 w1) (t : VRs ι s.tmps a.tmps.toList) (dr : DR ι s.defers a.defers)
    {d d' : Nat} {marks : List Nat} {mark : List Deferred} (hd : MR ι1 d d') (hmarks : DR ι1 marks mark) {Q : IExit × St → Prop} (hQ : ∀ p, Q p → p.2.h.next ≤ M)
    (he : ∀ fn, (Instr.enterLoop fn a.tmps ps asg body r).run P w = .ok (w1.heap.size, mark) (w1.alloc (.loop { state := .ready, pending := none, fn, tmps := a.tmps, params := ps, assign := asg, body, defers := d' })))
    (hr : T.All Q (match (Opd.of g).eval s.tmps with
      | .func (.func f) first cap =>
        (call (.func (.func f) first cap) [.func (.yield (2 * h1.next)) #[] #[]] (h1.alloc (.loop { state := .ready, pending := .normal, tmps := s.tmps, params := ps.toList, assign := codeC P asg, body := codeC P body, defers := d }))).bind fun p =>
          match p.2.get (2 * h1.next) with
          | some (.loop lp) => if lp.state = .busy then .fail else
            match p.2.put (2 * h1.next) (some (.loop { lp with state := .exhausted })) with
            | some h' => .ret (lp.pending, { tmps := s.tmps, defers := marks ++ s.defers, h := h' })
            | none => .fail
          | _ => .fail
      | _ => .fail)) : (Code.rangeFunc g ps asg body).wpIn (W r) 0 P (Post P N M ι s.h w Q) a w := by
  have hgv := opd_rel (a := a) H.gi t og
  generalize (Opd.of g).eval s.tmps = gv at *
  generalize hgv' : a.eval g = gv' at *
  split at hr
  · rename_i f first cap
    cases hgv with
    | func _ v1 v2 =>
    rename_i fs' cs'
    refine wpIn_rangeFunc fun fn _ => ?_
    have hall := T.All_and (T.All_bind hr) (hc.keeps _ _ _)
    -- the counter's bound
    have hbound : ∀ p : Value × Heap, (T.All Q (match p.2.get (2 * h1.next) with
          | some (.loop lp) => if lp.state = .busy then .fail else
            match p.2.put (2 * h1.next) (some (.loop { lp with state := .exhausted })) with
            | some h' => .ret (lp.pending, { tmps := s.tmps, defers := marks ++ s.defers, h := h' })
            | none => .fail
          | _ => .fail) ∧ Keeps (h1.alloc (.loop { state := .ready, pending := .normal, tmps := s.tmps, params := ps.toList, assign := codeC P asg, body := codeC P body, defers := d })) p.2) → p.2.next ≤ M := by
      rintro p ⟨hp1, hp2⟩
      split at hp1
      · split at hp1
        · exact hp1.elim
        · split at hp1
          · rename_i h' hput
            have := hQ _ hp1
            exact Nat.le_trans (Keeps.put hput).next this
          · exact hp1.elim
      · exact hp1.elim
    obtain ⟨p0, q0⟩ := T.All_some hall
    have hlt : h1.next < M := by
      have h2 := q0.2.next
      have h3 := hbound p0 q0
      simp only [Heap.alloc] at h2
      omega
    -- the record
    have hun := H1.sim.unborn h1.next (Nat.le_refl _) hlt
    have hle := Ren.le_born (s := .live ⟨w1.heap.size, 0, 0, 0, 0⟩) hun
    have R2 := Res.alloc (P := P) (N := N) (M := M) (o := .loop { state := .ready, pending := .normal, tmps := s.tmps, params := ps.toList, assign := codeC P asg, body := codeC P body, defers := d })
      (O := .loop { state := .ready, pending := none, fn, tmps := a.tmps, params := ps, assign := asg, body, defers := d' }) (L := ⟨w1.heap.size, 0, 0, 0, 0⟩) H1.sim hlt rfl
      ⟨by omega, _, World.alloc_heap_new w1 _, rfl, rfl, (t.mono R1.le).mono hle, rfl, rfl, rfl, hd.mono hle⟩
    have H2 := H1.step R2 (Keeps.alloc _ _)
    have hl2 : (ι1.put (2 * h1.next) (.live ⟨w1.heap.size, 0, 0, 0, 0⟩)) (2 * h1.next) = .live ⟨w1.heap.size, 0, 0, 0, 0⟩ := Ren.put_same _ _ _
    have hy : VRs (ι1.put (2 * h1.next) (.live ⟨w1.heap.size, 0, 0, 0, 0⟩)) [Value.func (.yield (2 * h1.next)) #[] #[]] (#[Value.func (.yield w1.heap.size) #[] #[]] : Array Value).toList :=
      .cons (.yield (by simp only [MR, hl2]) .nil .nil) .nil
    obtain ⟨ent, calls⟩ := hc.func (N := N) (M := M) H2 ((v1.mono R1.le).mono hle) ((v2.mono R1.le).mono hle) hy hall hbound
    refine ⟨w1.heap.size, mark, w1.alloc (.loop { state := .ready, pending := none, fn, tmps := a.tmps, params := ps, assign := asg, body, defers := d' }), { target := .fn (.func f) cs', args := fs' ++ #[.func (.yield w1.heap.size) #[] #[]] }, w1.alloc (.loop { state := .ready, pending := none, fn, tmps := a.tmps, params := ps, assign := asg, body, defers := d' }), f, fs' ++ #[.func (.yield w1.heap.size) #[] #[]] ++ cs', w1.alloc (.loop { state := .ready, pending := none, fn, tmps := a.tmps, params := ps, assign := asg, body, defers := d' }), he fn, ?_, fun _ _ => trivial, ?_, fun e => by simp at e, ?_⟩
    · show (resolve a.eval (rangeCall g w1.heap.size) 0).run P _ = _
      have hargs : (#[Operand.const (.func (.yield w1.heap.size) #[] #[])] : Array Operand).map a.eval = #[.func (.yield w1.heap.size) #[] #[]] := by simp [Act.eval]
      simp only [resolve, rangeCall, hgv', Deferred.ofValue, hargs, Sem.run_pure]
    · exact ent _ _
    · refine CallsIn.mono calls fun e w3 hE => ?_
      cases e with
      | panicked c => exact hE.elim
      | outgrown => exact hE.elim
      | returned v' =>
        obtain ⟨v, ι3, h3, ⟨hq, _⟩, _, R3⟩ := hE
        simp only at hq
        split at hq
        · rename_i lp hget
          split at hq
          · exact hq.elim
          · rename_i hbusy
            split at hq
            · rename_i h' hput
              obtain ⟨K, k1, k2⟩ := R3.sim.live _ _ hget
              have hK : K = ⟨w1.heap.size, 0, 0, 0, 0⟩ := by
                have := R3.le (2 * h1.next)
                simp only [hl2] at this
                rcases this with e | e <;> rw [k1] at e <;> cases e
                rfl
              subst hK
              obtain ⟨_, RL, g1, g2, g3, g4, g5, g6, g7, g8⟩ := k2
              have hput' := Put.setIn (w := w3) (.loop { RL with state := .exhausted }) (lt_of_heap g1)
              have R4 : Res P N M ι3 h3 w3 ι3 h' (w3.putObj w1.heap.size (.loop { RL with state := .exhausted })) :=
                Res.write R3.sim hput k1 hput'.size hput'.other hput'.os hput'.tape hput'.output ⟨(put_spec hput).1, _, hput'.at_, rfl, g3, g4, g5, g6, g7, g8⟩
              refine ⟨RL.pending, _, run_endLoop g1 (by rw [g2]; exact hbusy), ?_⟩
              have RR := R1.trans (R2.trans (R3.trans R4))
              have hpost : ∀ e, XR lp.pending e → Post P N M ι s.h w Q e { a with defers := mark ++ a.defers } (w3.putObj w1.heap.size (.loop { RL with state := .exhausted })) := fun e hx =>
                ⟨lp.pending, _, ι3, hq, hx, t.mono RR.le, (hmarks.mono (R2.le.trans R3.le)).append (dr.mono RR.le), RR⟩
              generalize w3.putObj w1.heap.size (.loop { RL with state := .exhausted }) = w4 at hpost
              rw [g3]
              cases hpd : lp.pending with
              | normal => exact hpost .normal (by rw [hpd]; trivial)
              | exit id => exact wpIn_exit (hpost (.exit id) (by rw [hpd]; rfl))
              | ret => exact wpIn_ret (hpost .ret (by rw [hpd]; trivial))
            · exact hq.elim
        · exact hq.elim
  · exact hr.elim
end
end Go.Ideal
namespace Go.Ideal
open Go Go.RowKit
section
variable {P : Program} {N M : Nat} {call : Caller}
theorem run_enterLoop_inner {w : World} {l : Nat} {R : Loop} (h : w.heap[l]? = some (.loop R)) (fn : FuncId) (tmps : Array Value) (ps : Array Tmp) (assign body : Code) :
    (Instr.enterLoop fn tmps ps assign body (some l)).run P w = .ok (w.heap.size, []) (w.alloc (.loop { state := .ready, pending := none, fn, tmps, params := ps, assign, body, defers := R.defers })) := by
  unfold Instr.enterLoop
  simp only [Sem.run_bind, run_getLoop h, run_newObj_alloc, Result.andThen, Sem.run_pure]
theorem code_sound (hc : CallOK P call) (hm : P.follows .mixedOrders = true) (fuel : Nat) (around r : Option Nat) : ∀ (c : Code) {ι : Ren} {w : World} {a : Act} {s : St} {Q : IExit × St → Prop}, Here P N M ι s.h w → OMR ι around r → VRs ι s.tmps a.tmps.toList → DR ι s.defers a.defers →
    (exec call fuel around (codeC P c) s).All Q → (∀ p, Q p → p.2.h.next ≤ M) → c.wpIn (W r) 0 P (Post P N M ι s.h w Q) a w := by
  intro c
  induction c with
  | skip => intro ι w a s Q H ha t dr hr hQ; exact wpIn_skip ⟨.normal, s, ι, hr, trivial, t, dr, .refl H.sim⟩
  | label l => intro ι w a s Q H ha t dr hr hQ; exact wpIn_label ⟨.normal, s, ι, hr, trivial, t, dr, .refl H.sim⟩
  | goto l => intro ι w a s Q H ha t dr hr hQ; exact hr.elim
  | refuse x => intro ι w a s Q H ha t dr hr hQ; exact hr.elim
  | exit id => intro ι w a s Q H ha t dr hr hQ; exact wpIn_exit ⟨.exit id, s, ι, hr, rfl, t, dr, .refl H.sim⟩
  | ret => intro ι w a s Q H ha t dr hr hQ; exact wpIn_ret ⟨.ret, s, ι, hr, trivial, t, dr, .refl H.sim⟩
  | scope b ih =>
    intro ι w a s Q H ha t dr hr hQ
    refine wpIn_scope (fun l a w h => ?_) (ih H ha t dr hr hQ)
    obtain ⟨e0, s', ι', h1, h2, _⟩ := h
    cases e0 <;> exact h2.elim
  | region id ops draw =>
    intro ι w a s Q H ha t dr hr hQ
    cases draw with
    | false =>
      simp only [codeC, regionC, Bool.false_eq_true, if_false, exec] at hr
      refine wpIn_region ?_
      rw [List.range_eq_range']
      refine ops_sound hc (Q := fun p => Q (.normal, { s with tmps := p.1, h := p.2 })) (fun p hp => hQ _ hp) (ι0 := ι) (h0 := s.h) (w0 := w) (ds := a.defers) (fun ι' a' w' tm' h' hq ht hR hd => ?_) ops.size 0 (by omega) H (.refl H.sim) t rfl (T.All.mono (fun _ h => h) (T.All_bind hr))
      exact ⟨.normal, { s with tmps := tm', h := h' }, ι', hq, trivial, ht, by rw [hd]; exact dr.mono hR.le, hR⟩
    | true =>
      simp only [codeC, regionC, if_true] at hr
      split at hr
      · rename_i hok
        simp only [exec] at hr
        split at hr
        · rename_i p hp
          have rd := Res.drew (P := P) (N := N) (M := M) H.sim (w.drawn + 1)
          have H' : Here P N M ι s.h { w with drawn := w.drawn + 1 } := ⟨rd.sim, H.gi, H.hb⟩
          refine wpIn_region_any hm (drawn_sound hc hok H' t (drawnRun_some hp).choose_spec (hQ _ hr) fun ι' a' w' ht hR hd => ?_)
          exact ⟨.normal, { s with tmps := p.1, h := p.2 }, ι', hr, trivial, ht, by rw [hd]; exact dr.mono hR.le, rd.trans hR⟩
        · exact hr.elim
      · exact hr.elim
  | seq x y ihx ihy =>
    intro ι w a s Q H ha t dr hr hQ
    simp only [codeC, exec] at hr
    have hall := T.All_and (T.All_bind hr) (code_keeps hc.keeps fuel around (codeC P x) s)
    have hbound : ∀ p : IExit × St, (T.All Q (match p with
      | (.normal, s') => exec call fuel around (codeC P y) s'
      | r => .ret r) ∧ Keeps s.h p.2.h) → p.2.h.next ≤ M := by
      rintro ⟨e, s'⟩ ⟨h1, _⟩
      cases e with
      | normal =>
        obtain ⟨q, q1, q2⟩ := T.All_some (T.All_and h1 (code_keeps hc.keeps fuel around (codeC P y) s'))
        exact Nat.le_trans q2.next (hQ q q1)
      | exit j => exact hQ _ h1
      | ret => exact hQ _ h1
    refine wpIn_seq (wpIn_mono (ihx H ha t dr hall hbound) fun e a' w' he => ?_)
    obtain ⟨e0, s', ι', ⟨hq, hk⟩, hx, ht, hd, hR⟩ := he
    cases e0 with
    | normal =>
      cases e <;> try exact hx.elim
      have H' := H.step hR hk
      exact wpIn_mono (ihy H' (ha.mono hR.le) ht hd hq hQ) fun e2 a2 w2 h2 => Post.before hR (fun _ h => h) h2
    | exit j =>
      cases e <;> try exact hx.elim
      exact ⟨.exit j, s', ι', hq, hx, ht, hd, hR⟩
    | ret =>
      cases e <;> try exact hx.elim
      exact ⟨.ret, s', ι', hq, hx, ht, hd, hR⟩
  | cond g x y ihx ihy =>
    intro ι w a s Q H ha t dr hr hQ
    simp only [codeC] at hr
    split at hr
    · rename_i og
      have hg := opd_rel (a := a) H.gi t og
      simp only [exec] at hr
      generalize (Opd.of g).eval s.tmps = v at *
      generalize hgv : a.eval g = v' at *
      split at hr
      · cases hg; exact wpIn_cond_true hgv (ihx H ha t dr hr hQ)
      · cases hg; exact wpIn_cond_false hgv (ihy H ha t dr hr hQ)
      · exact hr.elim
    · exact hr.elim
  | block id b ih =>
    intro ι w a s Q H ha t dr hr hQ
    simp only [codeC, exec] at hr
    refine wpIn_block (wpIn_mono (ih H ha t dr (T.All_bind hr) ?_) fun e a' w' he => ?_)
    · rintro ⟨e, s'⟩ h1
      cases e with
      | normal => exact hQ _ h1
      | exit j => exact hQ (if j = id then .normal else .exit j, s') h1
      | ret => exact hQ _ h1
    · obtain ⟨e0, s', ι', hq, hx, ht, hd, hR⟩ := he
      cases e0 with
      | normal =>
        cases e <;> try exact hx.elim
        exact ⟨.normal, s', ι', hq, trivial, ht, hd, hR⟩
      | exit j =>
        cases e <;> try exact hx.elim
        simp only [XR] at hx
        subst hx
        simp only [Exit.inBlock]
        simp only [T.All] at hq
        split
        · rename_i e; rw [if_pos e] at hq; exact ⟨.normal, s', ι', hq, trivial, ht, hd, hR⟩
        · rename_i e; rw [if_neg e] at hq; exact ⟨.exit j, s', ι', hq, rfl, ht, hd, hR⟩
      | ret =>
        cases e <;> try exact hx.elim
        exact ⟨.ret, s', ι', hq, trivial, ht, hd, hR⟩
  | loop b ih =>
    intro ι w a s Q H ha t dr hr hQ
    simp only [codeC, exec] at hr
    refine wpIn_loop_down (fun k a' w' => ∃ s' ι', T.All Q (iter (exec call fuel around (codeC P b)) k s') ∧ Here P N M ι' s'.h w' ∧ VRs ι' s'.tmps a'.tmps.toList ∧ DR ι' s'.defers a'.defers ∧ Res P N M ι s.h w ι' s'.h w') (k0 := fuel) ⟨s, ι, hr, H, t, dr, .refl H.sim⟩ ?_
    rintro k a' w' ⟨s', ι', h1, h2, h3, h4, h5⟩
    cases k with
    | zero => exact h1.elim
    | succ k =>
      simp only [iter] at h1
      have hall := T.All_and (T.All_bind h1) (code_keeps hc.keeps fuel around (codeC P b) s')
      have hbound : ∀ p : IExit × St, (T.All Q (match p with
        | (.normal, s') => iter (exec call fuel around (codeC P b)) k s'
        | r => .ret r) ∧ Keeps s'.h p.2.h) → p.2.h.next ≤ M := by
        rintro ⟨e, s2⟩ ⟨g1, _⟩
        cases e with
        | normal =>
          obtain ⟨q, q1, q2⟩ := T.All_some (T.All_and g1 (iter_keeps (code_keeps hc.keeps fuel around (codeC P b)) k s2))
          exact Nat.le_trans q2.next (hQ q q1)
        | exit j => exact hQ _ g1
        | ret => exact hQ _ g1
      refine wpIn_mono (ih h2 (ha.mono h5.le) h3 h4 hall hbound) fun e a2 w2 he => ?_
      obtain ⟨e0, s2, ι2, ⟨hq, hk⟩, hx, ht, hd, hR⟩ := he
      cases e0 with
      | normal =>
        cases e <;> try exact hx.elim
        exact ⟨k, Nat.lt_succ_self k, s2, ι2, hq, h2.step hR hk, ht, hd, h5.trans hR⟩
      | exit j =>
        cases e <;> try exact hx.elim
        exact ⟨.exit j, s2, ι2, hq, hx, ht, hd, h5.trans hR⟩
      | ret =>
        cases e <;> try exact hx.elim
        exact ⟨.ret, s2, ι2, hq, hx, ht, hd, h5.trans hR⟩
  | rangeFunc g ps asg body _ _ =>
    intro ι w a s Q H ha t dr hr hQ
    simp only [codeC] at hr
    split at hr
    · rename_i og
      cases around with
      | none =>
        cases r with
        | some _ => exact ha.elim
        | none =>
        simp only [exec] at hr
        have hlt : s.h.next < M := by
          split at hr
          · have hall := T.All_and (T.All_bind hr) (hc.keeps _ _ _)
            obtain ⟨p, p1, p2⟩ := T.All_some hall
            have h2 := p2.next
            simp only [Heap.alloc] at h2
            have : p.2.next ≤ M := by
              split at p1
              · split at p1
                · exact p1.elim
                · split at p1
                  · rename_i hput; exact Nat.le_trans (Keeps.put hput).next (hQ _ p1)
                  · exact p1.elim
              · exact p1.elim
            omega
          · exact hr.elim
        have R1 := Res.alloc (P := P) (N := N) (M := M) (o := .deferred true) (O := .deferred (some [])) (L := ⟨w.heap.size, 0, 0, 0, 0⟩) H.sim hlt rfl ⟨by omega, World.alloc_heap_new w _⟩
        have H1 := H.step R1 (Keeps.alloc _ _)
        have hself : MR (ι.put (2 * s.h.next) (.live ⟨w.heap.size, 0, 0, 0, 0⟩)) (2 * s.h.next) w.heap.size := by simp only [MR, Ren.put_same]
        refine range_core (d' := w.heap.size) (marks := [2 * s.h.next]) (mark := [{ target := .collected w.heap.size, args := #[] }]) hc og H H1 R1 t dr hself ⟨⟨w.heap.size, rfl, hself⟩, trivial⟩ hQ (fun fn => ?_) hr
        rw [run_enterLoop_outer, World.size_alloc]
      | some l =>
        cases r with
        | none => exact ha.elim
        | some l' =>
        simp only [exec] at hr
        split at hr
        · rename_i lp hg
          obtain ⟨K, k1, k2⟩ := H.sim.live l _ hg
          simp only [OMR, MR, k1] at ha
          subst ha
          obtain ⟨_, RL, g1, g2, g3, g4, g5, g6, g7, g8⟩ := k2
          exact range_core (d' := RL.defers) (marks := []) (mark := []) hc og H H (.refl H.sim) t dr g8 trivial hQ (fun fn => run_enterLoop_inner g1 fn _ _ _ _) hr
        · exact hr.elim
    · exact hr.elim
theorem marks_sound {R0 : Ending → World → Prop} {fn : Func} {tmps : Array Value} : ∀ (rs : List Nat) {ds : List Deferred} {ι : Ren} {h h' : Heap} {w : World}, Sim P N M ι h w → DR ι rs ds → shutMarks rs h = some h' →
    (∀ w', Res P N M ι h w ι h' w' → ∃ v, (results fn tmps).run P w' = .ok v w' ∧ R0 (.returned v) w') → LeavesInM (W none) 0 P fn tmps R0 ds .returning w
  | [], ds, ι, h, h', w, hs, hd, hh, he => by
    cases ds with
    | cons d ds => exact hd.elim
    | nil =>
      simp only [shutMarks, Option.some.injEq] at hh
      subst hh
      exact he w (.refl hs)
  | r :: rs, ds, ι, h, h', w, hs, hd, hh, he => by
    cases ds with
    | nil => exact hd.elim
    | cons d ds =>
      obtain ⟨⟨r', t1, t2⟩, hd⟩ := hd
      simp only [shutMarks] at hh
      split at hh
      · rename_i hg
        split at hh
        · rename_i h2 hp
          obtain ⟨K, k1, k2⟩ := hs.live r _ hg
          simp only [MR, k1] at t2
          subst t2
          obtain ⟨k3, k4⟩ := k2
          have hput := Put.setIn (w := w) (.deferred none) (lt_of_heap k4)
          have R1 : Res P N M ι h w ι h2 (w.putObj K.b (.deferred none)) := Res.write hs hp k1 hput.size hput.other hput.os hput.tape hput.output ⟨k3, hput.at_⟩
          refine ⟨by simp, .inl ⟨K.b, _, t1, run_takeDeferred k4, ?_⟩⟩
          exact marks_sound rs R1.sim hd hh fun w' hR => he w' (R1.trans hR)
        · cases hh
      · cases hh
end
end Go.Ideal
namespace Go.Ideal
open Go Go.RowKit
section
variable {P : Program} {N M : Nat} {env : Env}
theorem funcC_spec {f : Nat} {F : IFunc} (h : funcC P f = some F) : ∃ fn c, P.funcs[f]? = some fn ∧ (fn.name == "runtime.NumGoroutine") = false ∧ fn.body = some c ∧ fn.results.toList.mapM (resultC P) = some F.results ∧ F.ntmps = fn.ntmps ∧ F.body = codeC P c := by
  unfold funcC at h
  split at h
  · rename_i fn hf
    split at h
    · cases h
    · rename_i hn
      split at h
      · rename_i c rs hb hr
        cases h
        exact ⟨fn, c, hf, by simpa using hn, hb, hr, rfl, rfl⟩
      · cases h
  · cases h
theorem enters_of {g : Nat} {fn : Func} {c : Code} (hf : P.funcs[g]? = some fn) (hn : (fn.name == "runtime.NumGoroutine") = false) (hb : fn.body = some c) : Enters P g := by
  intro as w
  simp [callFunc, program, Sem.run, hf, hb, Sem.run_bind]
  simpa using hn
noncomputable def resOf (tmps : Array Value) : ResultVar → Sem Value
  | .tmp t => pure (tmps.getD t undef)
  | .cell a t => do loadVar t (← asAddr (tmps.getD a undef))
theorem results_eq (fn : Func) (tmps : Array Value) : results fn tmps = (do let vs ← fn.results.mapM (resOf tmps); pure (if h : vs.size = 1 then vs[0] else .tuple vs)) := by
  unfold results
  congr
theorem result_sound {ι : Ren} {h : Heap} {w : World} {tm : List Value} {tmps : Array Value} (s : Sim P N M ι h w) (t : VRs ι tm tmps.toList) {x : ResultVar} {i : IResult} (hx : resultC P x = some i) {v : Value} (hv : i.val tm h = some v) :
    ∃ v', (resOf tmps x).run P w = .ok v' w ∧ VR ι v v' := by
  have gd : ∀ k, VR ι (tm.getD k undefV) (tmps.getD k undef) := fun k => by
    have := t.getD k
    rw [show tmps.getD k undef = tmps.toList.getD k undef by simp [Array.getD_eq_getD_getElem?, List.getD]]
    exact this
  cases x with
  | tmp k =>
    simp only [resultC, Option.some.injEq] at hx
    subst hx
    simp only [IResult.val, Option.some.injEq] at hv
    subst hv
    exact ⟨_, by simp [resOf], gd k⟩
  | cell k ty =>
    simp only [resultC, Option.map_eq_some_iff] at hx
    obtain ⟨n, hl, rfl⟩ := hx
    simp only [IResult.val] at hv
    have hk := gd k
    generalize tm.getD k undefV = x at *
    have hres : resOf tmps (.cell k ty) = (do loadVar ty (← asAddr (tmps.getD k undef))) := rfl
    rw [hres]
    clear gd hres
    generalize tmps.getD k undef = x' at *
    cases hk with
    | @ptr b off a' hp =>
      obtain ⟨m, h1, h2 | h2⟩ := ld_spec hl
      · obtain ⟨rfl, h2⟩ := h2
        simp only [Option.map_eq_some_iff] at hv
        obtain ⟨cs, hc, rfl⟩ := hv
        obtain ⟨cs', k1, k2, _⟩ := s.read hc hp
        exact ⟨.agg cs'.toArray, by simp [asAddr, loadVar, run_isAgg? h2, run_size h1, k1], .agg (by simpa using k2)⟩
      · obtain ⟨rfl, h2⟩ := h2
        simp only at hv
        split at hv
        · rename_i u hc
          cases hv
          obtain ⟨cs', k1, k2, k3⟩ := s.read hc hp
          cases k2 with
          | cons hu hs =>
            rename_i v' _
            have hcell : w.cell? a' = some v' := by
              have := k3 0 v' rfl
              simpa [Addr.add] using this
            refine ⟨v', ?_, hu⟩
            simp only [asAddr, Sem.run_bind, Sem.run_pure, Result.andThen_ok, loadVar, run_isAgg? h2]
            simp [hcell]
        · cases hv
    | _ => cases hv
theorem results_list {ι : Ren} {h : Heap} {w : World} {tm : List Value} {tmps : Array Value} (s : Sim P N M ι h w) (t : VRs ι tm tmps.toList) : ∀ {xs : List ResultVar} {is : List IResult} {vs : List Value}, xs.mapM (resultC P) = some is → is.mapM (IResult.val tm h) = some vs →
    ∃ vs', (xs.mapM (resOf tmps)).run P w = .ok vs' w ∧ VRs ι vs vs'
  | [], is, vs, h1, h2 => by
    simp at h1; subst h1
    simp at h2; subst h2
    exact ⟨[], by simp, .nil⟩
  | x :: xs, is, vs, h1, h2 => by
    simp only [List.mapM_cons, Option.bind_eq_bind, Option.bind_eq_some_iff, Option.pure_def, Option.some.injEq] at h1
    obtain ⟨i, hi, is', his, rfl⟩ := h1
    simp only [List.mapM_cons, Option.bind_eq_bind, Option.bind_eq_some_iff, Option.pure_def, Option.some.injEq] at h2
    obtain ⟨v, hv, vs', hvs, rfl⟩ := h2
    obtain ⟨v', e1, e2⟩ := result_sound s t hi hv
    obtain ⟨vs2, e3, e4⟩ := results_list s t his hvs
    exact ⟨v' :: vs2, by simp only [List.mapM_cons, Sem.run_bind, e1, Result.andThen_ok, e3, Sem.run_pure], .cons e2 e4⟩
theorem answer_sound {ι : Ren} {h : Heap} {w : World} {tm : List Value} {tmps : Array Value} (s : Sim P N M ι h w) (t : VRs ι tm tmps.toList) {fn : Func} {rs : List IResult} (hr : fn.results.toList.mapM (resultC P) = some rs) {v : Value} (ha : answer rs tm h = some v) :
    ∃ v', (results fn tmps).run P w = .ok v' w ∧ VR ι v v' := by
  unfold answer at ha
  have key : ∀ vs, rs.mapM (IResult.val tm h) = some vs → ∃ vs' : List Value, (results fn tmps).run P w = .ok (if h : vs'.toArray.size = 1 then vs'.toArray[0] else .tuple vs'.toArray) w ∧ VRs ι vs vs' := fun vs hvs => by
    obtain ⟨vs', e1, e2⟩ := results_list s t hr hvs
    refine ⟨vs', ?_, e2⟩
    rw [results_eq, Sem.run_bind, Array.mapM_eq_mapM_toList]
    simp only [Sem.run_map, e1, Sem.run_pure, Result.andThen_ok]
  split at ha
  · rename_i u hu
    cases ha
    obtain ⟨vs', e1, e2⟩ := key _ hu
    cases e2 with
    | cons hv hs => cases hs; exact ⟨_, e1, by simpa using hv⟩
  · rename_i vs hne hvs
    cases ha
    obtain ⟨vs', e1, e2⟩ := key _ hvs
    have hl := e2.length
    have : ¬ vs'.toArray.size = 1 := fun e => by
      simp only [List.size_toArray] at e
      match vs, hl with
      | [x], _ => exact hne x rfl
      | [], hl => simp at hl; omega
      | _ :: _ :: _, hl => simp at hl; omega
    rw [dif_neg this] at e1
    exact ⟨_, e1, .tuple (by simpa using e2)⟩
  · cases ha
noncomputable def EnvOK (P : Program) (env : Env) : Prop := ∀ g F, env g = some F → funcC P g = some F
theorem shut_bound {rs : List Nat} {h h' : Heap} (hs : shutMarks rs h = some h') : h.next ≤ h'.next := (marks_keep rs h h' hs).next
theorem set_params {ι : Ren} : ∀ {ps : List Nat} {as as' : List Value} {tm tm' : List Value}, VRs ι as as' → VRs ι tm tm' → VRs ι (setParams tm ps as) ((ps.zip as').foldl (fun (l : List Value) p => l.set p.1 p.2) tm')
  | [], _, _, _, _, _, ht => by simpa [setParams] using ht
  | _ :: _, [], _, _, _, ha, ht => by cases ha; simpa [setParams] using ht
  | p :: ps, _ :: _, _, _, _, ha, ht => by
    cases ha with
    | cons h hs => simp only [setParams, List.zip_cons_cons, List.foldl_cons]; exact set_params hs (ht.set p h)
theorem params_fold (ps : Array Tmp) (as tmps : Array Value) : ((ps.zip as).foldl (fun tmps (t, a) => tmps.setIfInBounds t a) tmps).toList = (ps.toList.zip as.toList).foldl (fun (l : List Value) p => l.set p.1 p.2) tmps.toList := by
  rw [← Array.foldl_toList, Array.toList_zip]
  generalize ps.toList.zip as.toList = l
  induction l generalizing tmps with
  | nil => rfl
  | cons x l ih => simp only [List.foldl_cons]; rw [ih]; simp
noncomputable def goes : IExit → Bool
  | .normal => true
  | _ => false
noncomputable def endOf (l : Nat) (p : IExit × St) : T (Value × Heap) :=
  match p.2.h.get l with
  | some (.loop lp3) =>
    match p.2.h.put l (some (.loop { lp3 with state := if goes p.1 then .ready else .done, pending := p.1 })) with
    | some h4 => .ret (.bool (goes p.1), h4)
    | none => .fail
  | _ => .fail
theorem endOf_keeps {l : Nat} {p : IExit × St} : (endOf l p).Each fun q => Keeps p.2.h q.2 := by
  unfold endOf
  split
  · split
    · rename_i hp; exact Keeps.put hp
    · trivial
  · trivial
noncomputable def bodyOf (call : Caller) (n l : Nat) (body : ICode) (s1 : St) : T (Value × Heap) :=
  match s1.h.get l with
  | some (.loop lp1) => if lp1.state = .ready then
      match s1.h.put l (some (.loop { lp1 with state := .busy })) with
      | some h2 => (exec call n (some l) body { s1 with h := h2 }).bind (endOf l)
      | none => .fail
    else .fail
  | _ => .fail
theorem bodyOf_keeps {call : Caller} (hc : CallKeeps call) {n l : Nat} {body : ICode} {s1 : St} : (bodyOf call n l body s1).Each fun q => Keeps s1.h q.2 := by
  unfold bodyOf
  split
  · split
    · split
      · rename_i hp
        exact T.Each_bind (code_keeps hc n (some l) body _) fun p hk => T.Each.mono (fun _ hq => (Keeps.put hp).trans (Keeps.trans hk hq)) endOf_keeps
      · trivial
    · trivial
  · trivial
theorem loop_at {ι ι1 : Ren} {l : Nat} {K : Loc} {h1 : Heap} {w1 : World} (hl : ι l = .live K) (hle : ι.le ι1) (s : Sim P N M ι1 h1 w1) {lp : ILoop} (hg : h1.get l = some (.loop lp)) : ι1 l = .live K ∧ OR P ι1 l (.loop lp) K w1 := by
  obtain ⟨K', k1, k2⟩ := s.live l _ hg
  have := hle l
  simp only [hl] at this
  rcases this with e | e <;> rw [k1] at e <;> cases e
  exact ⟨k1, k2⟩
theorem round_ok (hm : P.follows .mixedOrders = true) {call : Caller} (ih : CallOK P call) {n : Nat} {ι : Ren} {h : Heap} {w : World} {Q : Value × Heap → Prop} {l : Nat} {lp : ILoop} {K : Loc} {RL : Loop} {args : List Value} {args' : Array Value} (H : Here P N M ι h w) (k1 : ι l = .live K)
    (r4 : VRs ι lp.tmps RL.tmps.toList) (r5 : RL.params.toList = lp.params) (r6 : codeC P RL.assign = lp.assign) (r7 : codeC P RL.body = lp.body) (hargs : VRs ι args args'.toList)
    (hr : T.All Q ((exec call n (some l) lp.assign { tmps := setParams lp.tmps lp.params args, defers := [], h := h }).bind fun
        | (.normal, s1) => bodyOf call n l lp.body s1
        | _ => .fail)) (hQ : ∀ p, Q p → p.2.next ≤ M) :
    RoundIn (W none) 0 P K.b RL.fn ((RL.params.zip args').foldl (fun tmps (t, a) => tmps.setIfInBounds t a) RL.tmps) RL.assign RL.body w (Ends P N M ι h w Q) := by
  have hO : ∀ {ι' : Ren}, ι.le ι' → OMR ι' (some l) (some K.b) := fun hle => MR.mono hle (by simp only [MR, k1])
  have ht : VRs ι (setParams lp.tmps lp.params args) ((RL.params.zip args').foldl (fun tmps (t, a) => tmps.setIfInBounds t a) RL.tmps).toList := by
    rw [params_fold, r5]; exact set_params hargs r4
  have hall := T.All_and (T.All_bind hr) (code_keeps ih.keeps n (some l) lp.assign _)
  have hb1 : ∀ p : IExit × St, (T.All Q (match p with
        | (.normal, s1) => bodyOf call n l lp.body s1
        | _ => .fail) ∧ Keeps h p.2.h) → p.2.h.next ≤ M := by
    rintro ⟨e, s1⟩ ⟨g1, _⟩
    cases e with
    | normal =>
      obtain ⟨q, q1, q2⟩ := T.All_some (T.All_and g1 (bodyOf_keeps ih.keeps))
      exact Nat.le_trans q2.next (hQ q q1)
    | exit j => exact g1.elim
    | ret => exact g1.elim
  refine roundIn_of_wpIn trivial (wpIn_mono (code_sound (N := N) (M := M) ih hm n (some l) (some K.b) RL.assign (a := { tmps := _, defers := [] })
    (s := { tmps := setParams lp.tmps lp.params args, defers := [], h := h }) H (hO (Ren.le.refl ι)) ht trivial (by rw [r6]; exact hall) hb1) fun e a1 w1 he => ?_)
  obtain ⟨e0, s1, ι1, ⟨g1, g2⟩, hx, t1, d1, R1⟩ := he
  cases e0 with
  | exit j => exact g1.elim
  | ret => exact g1.elim
  | normal =>
    cases e <;> try exact hx.elim
    have H1 := H.step R1 g2
    simp only [bodyOf] at g1
    split at g1
    · rename_i lp1 hg1
      split at g1
      · rename_i hready
        split at g1
        · rename_i h2 hp1
          obtain ⟨l1, _, RL1, o1, o2, o3, o4, o5, o6, o7, o8⟩ := loop_at k1 R1.le R1.sim hg1
          have hput1 := Put.setIn (w := w1) (.loop { RL1 with state := .busy }) (lt_of_heap o1)
          have R2 : Res P N M ι1 s1.h w1 ι1 h2 (w1.putObj K.b (.loop { RL1 with state := .busy })) :=
            Res.write R1.sim hp1 l1 hput1.size hput1.other hput1.os hput1.tape hput1.output ⟨(put_spec hp1).1, _, hput1.at_, rfl, o3, o4, o5, o6, o7, o8⟩
          refine ⟨_, run_beginRound o1 (by rw [o2]; exact hready), ?_⟩
          have hall2 := T.All_and (T.All_bind g1) (code_keeps ih.keeps n (some l) lp.body _)
          have hb2 : ∀ p : IExit × St, (T.All Q (endOf l p) ∧ Keeps h2 p.2.h) → p.2.h.next ≤ M := by
            rintro p ⟨x1, _⟩
            obtain ⟨q, q1, q2⟩ := T.All_some (T.All_and x1 endOf_keeps)
            exact Nat.le_trans q2.next (hQ q q1)
          have H2 : Here P N M ι1 h2 (w1.putObj K.b (.loop { RL1 with state := .busy })) := H1.step R2 (Keeps.put hp1)
          refine wpIn_mono (code_sound (N := N) (M := M) ih hm n (some l) (some K.b) RL.body (s := { s1 with h := h2 }) H2 (hO R1.le) t1 d1 (by rw [r7]; exact hall2) hb2) fun e a3 w3 he3 => ?_
          obtain ⟨e3, s3, ι3, ⟨x1, x2⟩, hx3, t3, d3, R3⟩ := he3
          simp only [endOf] at x1
          split at x1
          · rename_i lp3 hg3
            split at x1
            · rename_i h4 hp4
              obtain ⟨l3, _, RL3, p1, p2, p3, p4, p5, p6, p7, p8⟩ := loop_at k1 (R1.le.trans R3.le) R3.sim hg3
              have RR := R1.trans (R2.trans R3)
              have fin : ∀ jump : Option Code, jump = jumpOf e3 → goes e3 = jump.isNone →
                  ∃ v w', (Instr.endRound K.b jump).run P w3 = .ok v w' ∧ Ends P N M ι h w Q (.returned v) w' := by
                intro jump hj hn
                have hput3 := Put.setIn (w := w3) (.loop { RL3 with state := if jump.isNone then .ready else .done, pending := jump }) (lt_of_heap p1)
                have R4 : Res P N M ι3 s3.h w3 ι3 h4 (w3.putObj K.b (.loop { RL3 with state := if jump.isNone then .ready else .done, pending := jump })) :=
                  Res.write R3.sim hp4 l3 hput3.size hput3.other hput3.os hput3.tape hput3.output ⟨(put_spec hp4).1, _, hput3.at_, by rw [hn], hj, p4, p5, p6, p7, p8⟩
                exact ⟨_, _, run_endRound jump p1, _, ι3, h4, x1, by rw [hn]; exact .bool _, RR.trans R4⟩
              cases e3 with
              | normal =>
                cases e <;> try exact hx3.elim
                exact fin none rfl rfl
              | exit j =>
                cases e <;> try exact hx3.elim
                simp only [XR] at hx3
                subst hx3
                exact fin (some (.exit _)) rfl rfl
              | ret =>
                cases e <;> try exact hx3.elim
                exact fin (some .ret) rfl rfl
            · exact x1.elim
          · exact x1.elim
        · exact g1.elim
      · exact g1.elim
    · exact g1.elim
theorem callV_ok (hm : P.follows .mixedOrders = true) (he : EnvOK P env) : ∀ n, CallOK P (callV env n)
  | 0 => ⟨callV_keeps env 0, fun _ _ _ _ h => h.elim, fun _ _ _ _ h => h.elim, fun _ _ _ _ h => h.elim⟩
  | n + 1 => by
    have ih := callV_ok hm he n
    refine ⟨callV_keeps env (n + 1), fun f as h Q hr => ?_, ?_, ?_⟩
    · simp only [callV] at hr
      split at hr
      · exact .inl ⟨_, _, _, rfl⟩
      · exact .inr ⟨_, _, _, rfl⟩
      · exact hr.elim
    · intro N M ι h w Q g fs fs' cs cs' as' as H h1 h2 h3 hr hQ
      simp only [callV] at hr
      split at hr
      · rename_i F hF
        obtain ⟨fn, c, f1, f2, f3, f4, f5, f6⟩ := funcC_spec (he g F hF)
        refine ⟨enters_of f1 f2 f3, ?_⟩
        simp only [enter] at hr
        have hall := T.All_and (T.All_bind hr) (code_keeps ih.keeps n none F.body _)
        have hargs : VRs ι (fs.toList ++ as ++ cs.toList) (fs' ++ as' ++ cs').toList := by simpa using (h1.append h3).append h2
        have hlen := hargs.length
        have ht : VRs ι ((fs.toList ++ as ++ cs.toList) ++ List.replicate (F.ntmps - (fs.toList ++ as ++ cs.toList).length) undefV) ((fs' ++ as' ++ cs') ++ Array.replicate (fn.ntmps - (fs' ++ as' ++ cs').size) undef : Array Value).toList := by
          rw [Array.toList_append, Array.toList_replicate, ← Array.length_toList, ← hlen, f5]
          exact hargs.append (VRs.replicate _ (VR.undefV _))
        refine callsIn_of_wp_marks f1 f3 trivial (wpIn_mono (code_sound (N := N) (M := M) ih hm n none none c (a := { tmps := (fs' ++ as' ++ cs') ++ Array.replicate (fn.ntmps - (fs' ++ as' ++ cs').size) undef, defers := [] })
          (s := { tmps := (fs.toList ++ as ++ cs.toList) ++ List.replicate (F.ntmps - (fs.toList ++ as ++ cs.toList).length) undefV, defers := [], h := h }) H trivial ht trivial (by rw [← f6]; exact hall) ?_) fun e a' w' hp => ?_)
        · rintro ⟨e, s⟩ ⟨g1, _⟩
          have key : T.All Q (match shutMarks s.defers s.h with
            | some h' => .ofOpt ((answer F.results s.tmps h').map fun v => (v, h'))
            | none => .fail) → s.h.next ≤ M := by
            intro g1
            split at g1
            · rename_i h' hs
              obtain ⟨p, p1, p2⟩ := All_ofOpt g1
              simp only [Option.map_eq_some_iff] at p1
              obtain ⟨v, _, rfl⟩ := p1
              exact Nat.le_trans (shut_bound hs) (hQ _ p2)
            · exact g1.elim
          cases e with
          | normal => exact key g1
          | exit j => exact g1.elim
          | ret => exact key g1
        · obtain ⟨e0, s', ι', ⟨g1, _⟩, hx, ht', hd, hR⟩ := hp
          have key : T.All Q (match shutMarks s'.defers s'.h with
            | some h' => .ofOpt ((answer F.results s'.tmps h').map fun v => (v, h'))
            | none => .fail) → LeavesInM (W none) 0 P fn a'.tmps (Ends P N M ι h w Q) a'.defers .returning w' := by
            intro g1
            split at g1
            · rename_i h' hs
              obtain ⟨p, p1, p2⟩ := All_ofOpt g1
              simp only [Option.map_eq_some_iff] at p1
              obtain ⟨v, hv, rfl⟩ := p1
              refine marks_sound s'.defers hR.sim hd hs fun w2 R2 => ?_
              obtain ⟨v', e1, e2⟩ := answer_sound R2.sim ht' f4 hv
              exact ⟨v', e1, v, ι', h', p2, e2, hR.trans R2⟩
            · exact g1.elim
          cases e0 with
          | normal =>
            cases e <;> try exact hx.elim
            exact key g1
          | exit j => exact g1.elim
          | ret =>
            cases e <;> try exact hx.elim
            exact key g1
      · exact hr.elim
    · intro N M ι h w Q l l' fs fs' cs as' as H hl h1 h2 hr hQ
      simp only [callV, round] at hr
      split at hr
      · rename_i lp hg
        split at hr
        · rename_i hlen
          obtain ⟨K, k1, k2⟩ := H.sim.live l _ hg
          simp only [MR, k1] at hl
          subst hl
          obtain ⟨_, RL, r1, r2, r3, r4, r5, r6, r7, r8⟩ := k2
          have hargs : VRs ι (fs.toList ++ as) (fs' ++ as').toList := by simpa using h1.append h2
          refine ⟨RL, r1, ?_, ?_⟩
          · have : (fs.toList ++ as).length = (fs' ++ as').size := by rw [hargs.length, Array.length_toList]
            rw [← this, hlen, ← r5, Array.length_toList]
          · exact round_ok hm ih H k1 r4 r5 r6 r7 hargs hr hQ
        · exact hr.elim
      · exact hr.elim
end
end Go.Ideal
namespace Go.Ideal
open Go Go.RowKit
noncomputable def T.True (x : T (Value × Heap)) : Prop := x.All fun p => p.1 = .bool true
theorem T.bounded {α : Type} {Q : α → Prop} (f : α → Nat) : ∀ {x : T α}, x.All Q → ∃ M, x.All fun a => Q a ∧ f a ≤ M
  | .ret a, hx => ⟨f a, hx, Nat.le_refl _⟩
  | .fail, hx => hx.elim
  | .ask n k, hx => by
    have step : ∀ m, m ≤ n → ∃ M, ∀ i, i < m → (k i).All fun a => Q a ∧ f a ≤ M := by
      intro m
      induction m with
      | zero => exact fun _ => ⟨0, fun i hi => by omega⟩
      | succ m ih =>
        intro hm
        obtain ⟨M1, h1⟩ := ih (by omega)
        obtain ⟨M2, h2⟩ := T.bounded f (hx.2 m (by omega))
        refine ⟨max M1 M2, fun i hi => ?_⟩
        rcases Nat.lt_or_ge i m with e | e
        · exact (h1 i e).mono fun a ha => ⟨ha.1, Nat.le_trans ha.2 (Nat.le_max_left _ _)⟩
        · have : i = m := by omega
          subst this
          exact h2.mono fun a ha => ⟨ha.1, Nat.le_trans ha.2 (Nat.le_max_right _ _)⟩
    obtain ⟨M, hM⟩ := step n (Nat.le_refl _)
    exact ⟨M, hx.1, hM⟩
noncomputable def fresh (ro : Nat → Option (List Value × Nat)) : Heap := { next := 0, mem := [], ro := ro, floor := 0, may := [], hid := [] }
theorem calls_of_run {P : Program} {env : Env} {n f : Nat} {args : List Value} {args' : Array Value} {W : World} {ι : Ren} {ro : Nat → Option (List Value × Nat)} (hm : P.follows .mixedOrders = true) (he : EnvOK P env)
    (H : ∀ M, Here P W.heap.size M ι (fresh ro) W) (ha : VRs ι args args'.toList) (hr : (run env n f args (fresh ro)).True) : Calls P f args' W fun e W' => e = .returned (.bool true) ∧ Below W.heap.size W W' := by
  obtain ⟨M, hM⟩ := T.bounded (fun p : Value × Heap => p.2.next) hr
  unfold run at hM
  have := ((callV_ok hm he n).func (H M) (fs := #[]) (cs := #[]) (fs' := #[]) (cs' := #[]) .nil .nil ha hM fun p hp => hp.2).2
  have e : (#[] : Array Value) ++ args' ++ #[] = args' := by simp
  rw [e] at this
  have hc : CallsIn Fence.wide 0 P f args' W (Ends P W.heap.size M ι (fresh ro) W fun a => a.1 = Value.bool true ∧ a.2.next ≤ M) := this
  refine (callsIn_wide.1 hc).mono fun e W' hE => ?_
  cases e with
  | panicked c => exact hE.elim
  | outgrown => exact hE.elim
  | returned v' =>
    obtain ⟨v, ι', h', ⟨q, _⟩, hv, hR⟩ := hE
    simp only at q
    subst q
    cases hv
    exact ⟨rfl, hR.below (H M).sim⟩
end Go.Ideal
namespace Go.Ideal
open Go Go.RowKit Go.ChangeShapes
section
variable {P : Program} {H : Type} {enc : TypeId × Value → H}
theorem trodAll_stays (hl : laidOutB P = true) {W W' : World} (hb : Below W.heap.size W W') : ∀ {ts : List TypeId} {vs : List Value} {ds : List (DataW H)} {ps : List MemPlace}, (∀ t ∈ ts, P.readableRec t = true ∧ t < P.types.size) →
    DataW.TrodAll enc P W 0 (fun _ => true) true ts vs ds ps → (∀ x ∈ ps, x.block < W.heap.size) → DataW.TrodAll enc P W' 0 (fun b => decide (b < W.heap.size)) true ts vs ds ps
  | [], [], [], ps, _, h, _ => h
  | t :: ts, v :: vs, d :: ds, ps, ht, h, hp => by
    obtain ⟨p, q, h1, h2, rfl⟩ := h
    exact ⟨p, q, Below.trod hl (ht t (by simp)).1 (ht t (by simp)).2 h1 hb (fun x hx => hp x (by simp [hx])), trodAll_stays hl hb (fun t' h' => ht t' (by simp [h'])) h2 (fun x hx => hp x (by simp [hx])), rfl⟩
  | [], _ :: _, _, _, _, h, _ => h.elim
  | [], [], _ :: _, _, _, h, _ => h.elim
  | _ :: _, [], _, _, _, h, _ => h.elim
  | _ :: _, _ :: _, [], _, _, h, _ => h.elim
theorem trodAll_length {W : World} {b : Nat} {sp : Nat → Bool} {hd : Bool} : ∀ {ts : List TypeId} {vs : List Value} {ds : List (DataW H)} {ps : List MemPlace}, DataW.TrodAll enc P W b sp hd ts vs ds ps → ds.length = ts.length ∧ vs.length = ts.length
  | [], [], [], _, _ => ⟨rfl, rfl⟩
  | t :: ts, v :: vs, d :: ds, _, h => by
    obtain ⟨p, q, _, h2, _⟩ := h
    obtain ⟨e1, e2⟩ := trodAll_length h2
    exact ⟨by simp [e1], by simp [e2]⟩
  | [], _ :: _, _, _, h => h.elim
  | [], [], _ :: _, _, h => h.elim
  | _ :: _, [], _, _, h => h.elim
  | _ :: _, _ :: _, [], _, h => h.elim
theorem law_post {f : Func} {s : ChangeSpec} {W W' : World} {args : Array Value} {ds gs : List (DataW H)} {before : List MemPlace} {tb : TypeId} (hl : laidOutB P = true) (hr : f.params.toList.all (fun t => P.readableRec t && decide (t < P.types.size)) = true)
    (hres : f.resultTypes = #[tb]) (htb : P.underlying tb = some .bool) (hv : s.vars = []) (hfn : ∀ ds : List (DataW H), ds.length = f.params.size → s.fn H ds = { results := [.lit (.bool true)], args := ds })
    (hW : DataW.Whole enc P f.params.toList s.vars false W args.toList ds gs before) (hb : Below W.heap.size W W') : s.post enc P f false true false false W args (.bool true) W' := by
  have hW0 := hW
  obtain ⟨p, q, hA, hV, rfl, hz, hn⟩ := hW
  have hV' := hV
  rw [hv] at hV
  have hlen := (trodAll_length hA).1
  rw [Array.length_toList] at hlen
  have hgs : gs = [] ∧ q = [] := by
    cases gs with
    | nil => exact ⟨rfl, hV⟩
    | cons g gs => exact hV.elim
  obtain ⟨rfl, rfl⟩ := hgs
  have hf := hfn (ds ++ []) (by simpa using hlen)
  refine ⟨ds, [], p ++ [], [], p, [], hW0, ?_, ?_, ?_, hb.frame _, fun h => by cases h⟩
  · rw [hf, hres]
    exact trodAll_mk1 (shut_bool htb true)
  · rw [hf]
    simp only [List.append_nil]
    refine trodAll_stays hl hb (fun t ht => ?_) hA fun x hx => hW0.lt x (by simp [hx])
    have := List.all_eq_true.1 hr t ht
    simpa using this
  · rw [hf, hv]
    rfl
end
end Go.Ideal
