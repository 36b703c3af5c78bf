import Derived.Test.YtmpnldmdchchjaaFa
import Derived.Test.YtmpnldmdchchjaaFe
namespace Go.Ideal
open Go
def T.Each {α : Type} (R : α → Prop) : T α → Prop
  | .ret a => R a
  | .fail => True
  | .ask n k => ∀ i, i < n → (k i).Each R
section
variable {α β : Type}
theorem T.All.mono {Q R : α → Prop} (h : ∀ a, Q a → R a) : ∀ {x : T α}, x.All Q → x.All R
  | .ret _, hx => h _ hx
  | .fail, hx => hx
  | .ask _ _, hx => ⟨hx.1, fun i hi => T.All.mono h (hx.2 i hi)⟩
theorem T.Each.mono {Q R : α → Prop} (h : ∀ a, Q a → R a) : ∀ {x : T α}, x.Each Q → x.Each R
  | .ret _, hx => h _ hx
  | .fail, hx => hx
  | .ask _ _, hx => fun i hi => T.Each.mono h (hx i hi)
theorem T.All_bind {Q : β → Prop} {f : α → T β} : ∀ {x : T α}, (x.bind f).All Q → x.All fun a => (f a).All Q
  | .ret _, hx => hx
  | .fail, hx => hx
  | .ask _ _, hx => ⟨hx.1, fun i hi => T.All_bind (hx.2 i hi)⟩
theorem T.Each_bind {R : α → Prop} {R' : β → Prop} {f : α → T β} : ∀ {x : T α}, x.Each R → (∀ a, R a → (f a).Each R') → (x.bind f).Each R'
  | .ret _, hx, h => h _ hx
  | .fail, _, _ => trivial
  | .ask _ _, hx, h => fun i hi => T.Each_bind (hx i hi) h
theorem T.All_and {Q R : α → Prop} : ∀ {x : T α}, x.All Q → x.Each R → x.All fun a => Q a ∧ R a
  | .ret _, hx, hy => ⟨hx, hy⟩
  | .fail, hx, _ => hx
  | .ask _ _, hx, hy => ⟨hx.1, fun i hi => T.All_and (hx.2 i hi) (hy i hi)⟩
theorem T.All_some {Q : α → Prop} : ∀ {x : T α}, x.All Q → ∃ a, Q a
  | .ret a, hx => ⟨a, hx⟩
  | .fail, hx => hx.elim
  | .ask _ _, hx => T.All_some (hx.2 0 hx.1)
theorem T.Each_ofOpt {R : α → Prop} {o : Option α} (h : ∀ a, o = some a → R a) : (T.ofOpt o).Each R := by
  cases o with
  | none => trivial
  | some a => exact h a rfl
theorem T.out_eq {x : T α} {a : α} (h : x.out = some a) : x = .ret a := by
  cases x <;> simp [T.out] at h
  rw [h]
end
structure Keeps (h h' : Heap) : Prop where
  next : h.next ≤ h'.next
  ro : h'.ro = h.ro
  floor : h'.floor = h.floor
  may : h'.may = h.may
  hid : h'.hid = h.hid
  low : ∀ k, k < h.floor → k ∉ h.may → k < h.next → look h'.mem k = look h.mem k
  hidden : ∀ k, hides h.hid k = true → k < h.next → look h'.mem k = look h.mem k
  back : ∀ k, k < h.next → (look h'.mem k).isSome = true → (look h.mem k).isSome = true
  bound : (∀ k, h.next ≤ k → look h.mem k = none) → ∀ k, h'.next ≤ k → look h'.mem k = none
theorem Keeps.refl (h : Heap) : Keeps h h := ⟨Nat.le_refl _, rfl, rfl, rfl, rfl, fun _ _ _ _ => rfl, fun _ _ _ => rfl, fun _ _ h => h, fun b => b⟩
theorem Keeps.trans {a b c : Heap} (x : Keeps a b) (y : Keeps b c) : Keeps a c :=
  ⟨Nat.le_trans x.next y.next, y.ro.trans x.ro, y.floor.trans x.floor, y.may.trans x.may, y.hid.trans x.hid, fun k h1 hm h2 => (y.low k (by rw [x.floor]; exact h1) (by rw [x.may]; exact hm) (Nat.lt_of_lt_of_le h2 x.next)).trans (x.low k h1 hm h2), fun k hk h2 => (y.hidden k (by rw [x.hid]; exact hk) (Nat.lt_of_lt_of_le h2 x.next)).trans (x.hidden k hk h2), fun k hk hs => x.back k hk (y.back k (Nat.lt_of_lt_of_le hk x.next) hs), fun h => y.bound (x.bound h)⟩
theorem look_upd' (l : List (Nat × Option IObj)) (n : Nat) (o : Option IObj) (k : Nat) : look (upd l n o) k = if k = n then o else look l k := by
  induction l with
  | nil => simp only [upd, look]; by_cases h : n = k <;> simp [h, eq_comm]
  | cons p l ih =>
    obtain ⟨m, x⟩ := p
    simp only [upd]
    split
    · rename_i e; subst e; simp only [look]; by_cases h : k = m <;> simp [h, eq_comm]
    · rename_i e
      simp only [look, ih]
      by_cases h : m = k
      · subst h; simp [e]
      · simp [h]
theorem Keeps.alloc (h : Heap) (o : IObj) : Keeps h (h.alloc o) :=
  ⟨Nat.le_succ _, rfl, rfl, rfl, rfl, fun k _ _ hk => by simp only [Heap.alloc, look]; rw [if_neg (by omega)], fun k _ hk => by simp only [Heap.alloc, look]; rw [if_neg (by omega)], fun k hk hs => by simp only [Heap.alloc, look] at hs; rw [if_neg (by omega)] at hs; exact hs, fun b k hk => by
    simp only [Heap.alloc, look] at hk ⊢; rw [if_neg (by omega)]; exact b k (by omega)⟩
theorem own_some {h : Heap} {k : Nat} (hk : (h.own k).isSome = true) : look h.mem k ≠ none := by
  unfold Heap.own at hk
  split at hk
  · simp at hk
  · intro e; rw [e] at hk; simp at hk
theorem Keeps.put {h h' : Heap} {b : Nat} {o : Option IObj} (hp : h.put b o = some h') : Keeps h h' := by
  unfold Heap.put at hp
  split at hp
  · rename_i hc
    cases hp
    refine ⟨Nat.le_refl _, rfl, rfl, rfl, rfl, fun k h1 hm _ => ?_, fun k hk _ => ?_, fun k _ hs => ?_, fun hb k hk => ?_⟩
    · simp only [look_upd']
      rw [if_neg]
      intro e
      rcases hc.2.1 with h2 | h2
      · omega
      · exact hm (e ▸ h2)
    · simp only [look_upd']
      rw [if_neg]
      intro e
      have := hc.2.2
      unfold Heap.own at this
      rw [← e, hk] at this
      simp at this
    · simp only [look_upd'] at hs
      split at hs
      · rename_i e
        have := own_some hc.2.2
        rw [← e] at this
        cases hl : look h.mem k with
        | none => exact absurd hl this
        | some _ => rfl
      · exact hs
    · simp only [look_upd']
      split
      · rename_i e
        exact absurd (hb _ (by rw [← e]; exact hk)) (own_some hc.2.2)
      · exact hb k hk
  · cases hp
theorem Keeps.write {h h' : Heap} {a : Addr} {vs : List Value} (hw : h.write a vs = some h') : Keeps h h' := by
  unfold Heap.write at hw
  split at hw
  · split at hw
    · exact Keeps.put hw
    · cases hw
  · cases hw
theorem keeps_append {h : Heap} {z bytes : Nat} {s x : Value} {p : Value × Heap} (hp : iappend h z bytes s x = some p) : Keeps h p.2 := by
  unfold iappend at hp
  split at hp
  · split at hp
    · split at hp <;> first | (cases hp; exact .refl _) | cases hp
    · split at hp
      · cases hp
      · split at hp
        · split at hp
          · split at hp
            · rename_i hw; cases hp; exact Keeps.write hw
            · cases hp
          · cases hp
        · split at hp
          · split at hp
            · cases hp
            · simp only at hp
              split at hp
              · cases hp; exact .alloc _ _
              · split at hp
                · cases hp
                · split at hp
                  · split at hp
                    · cases hp
                    · split at hp
                      · rename_i hq; cases hp; exact (Keeps.put hq).trans (.alloc _ _)
                      · cases hp
                  · cases hp; exact .alloc _ _
          · cases hp
  · cases hp
theorem keeps_copy {h : Heap} {z : Nat} {d s : Value} {p : Value × Heap} (hp : icopy h z d s = some p) : Keeps h p.2 := by
  unfold icopy at hp
  split at hp
  · simp only at hp
    split at hp
    · split at hp <;> first | (cases hp; exact .refl _) | cases hp
    · split at hp
      · split at hp
        · rename_i hw; cases hp; exact Keeps.write hw
        · cases hp
      · cases hp
  · cases hp
theorem keeps_next {h : Heap} {r m since c : Nat} {seen : List Nat} {old new : List Ent} : (nextOf h r m since seen c old new).Each fun p => Keeps h p.2 := by
  have step : ∀ x, (stepOf h r m since seen c x).Each fun p => Keeps h p.2 := by
    intro x
    unfold stepOf
    split
    · split
      · rename_i hp; exact Keeps.put hp
      · trivial
    · exact Keeps.refl _
    · trivial
  unfold nextOf
  split
  · exact step _
  · exact fun i _ => step _
theorem keeps_map {α : Type} {h : Heap} {f : α → Value} {o : Option α} : (T.ofOpt (o.map fun v => (f v, h))).Each fun p => Keeps h p.2 := by
  cases o with
  | none => trivial
  | some a => exact Keeps.refl _
theorem run_keeps (tm : List Value) (h : Heap) (op : IOp) : (op.run tm h).Each fun p => Keeps h p.2 := by
  cases op <;> simp only [IOp.run]
  case append => exact T.Each_ofOpt fun p hp => keeps_append hp
  case copy => exact T.Each_ofOpt fun p hp => keeps_copy hp
  case box => exact .alloc _ _
  case bin => exact keeps_map
  case un => exact keeps_map
  case eqAgg => exact keeps_map
  case minmax =>
    split
    · exact keeps_map
    · trivial
  case nextMap =>
    repeat' first
      | exact keeps_next
      | trivial
      | exact Keeps.refl _
      | split
  all_goals
    repeat' first
      | trivial
      | exact Keeps.refl _
      | exact Keeps.alloc _ _
      | (apply Keeps.put; assumption)
      | (apply Keeps.write; assumption)
      | split
def CallKeeps (call : Caller) : Prop := ∀ f as h, (call f as h).Each fun p => Keeps h p.2
theorem exec_eq (call : Caller) (tm : List Value) (h : Heap) (op : IOp) : (∃ f as, op = .call f as) ∨ op.exec call tm h = op.run tm h := by
  cases op <;> first
    | exact .inl ⟨_, _, rfl⟩
    | exact .inr rfl
theorem exec_keeps {call : Caller} (hc : CallKeeps call) (tm : List Value) (h : Heap) (op : IOp) : (op.exec call tm h).Each fun p => Keeps h p.2 := by
  rcases exec_eq call tm h op with ⟨f, as, rfl⟩ | e
  · exact hc _ _ _
  · rw [e]; exact run_keeps tm h op
theorem execOps_keeps {call : Caller} (hc : CallKeeps call) : ∀ (ops : List IOper) (tm : List Value) (h : Heap), (execOps call ops tm h).Each fun p => Keeps h p.2
  | [], _, _ => Keeps.refl _
  | o :: r, tm, h => by
    simp only [execOps]
    split
    · exact T.Each_bind (exec_keeps hc tm h o.op) fun p hp => T.Each.mono (fun _ hq => hp.trans hq) (execOps_keeps hc r _ _)
    · exact execOps_keeps hc r _ _
theorem Keeps.lift {h h2 : Heap} {as plan : List (List Nat)} {i : Nat} {fr : List (Nat × Nat × Nat)} (k : Keeps (seenBy as plan i fr h) h2) : Keeps h { h2 with floor := h.floor, may := h.may, hid := h.hid } := by
  refine ⟨k.next, k.ro, rfl, rfl, rfl, fun x h1 hm h3 => k.low x h3 (fun hx => ?_) h3, fun x hx h3 => ?_, k.back, k.bound⟩
  · simp only [seenBy, List.mem_filter, Bool.or_eq_true, decide_eq_true_eq, List.contains_iff_mem] at hx
    rcases hx.2 with e | e
    · omega
    · exact hm e
  · refine k.hidden x ?_ h3
    simp only [seenBy, hides, List.any_append, Bool.or_eq_true]
    exact .inr hx
theorem out_each {α : Type} {R : α → Prop} {x : T α} {a : α} (h : x.out = some a) (he : x.Each R) : R a := by
  rw [T.out_eq h] at he; exact he
theorem execDrawn_keeps {call : Caller} (hc : CallKeeps call) (as plan : List (List Nat)) : ∀ (ops : List IOper) (i : Nat) (fr : List (Nat × Nat × Nat)) (tm : List Value) (h : Heap) (p : List Value × Heap), execDrawn call as plan ops i fr tm h = .ok p → Keeps h p.2
  | [], _, _, _, _, p, hp => by simp only [execDrawn, Except.ok.injEq] at hp; subst hp; exact .refl _
  | o :: r, i, fr, tm, h, p, hp => by
    simp only [execDrawn] at hp
    split at hp
    · split at hp
      · split at hp
        · exact execDrawn_keeps hc as plan r _ _ _ _ p hp
        · cases hp
      · split at hp
        · split at hp
          · rename_i q hq
            exact (out_each hq (exec_keeps hc tm h o.op)).trans (execDrawn_keeps hc as plan r _ _ _ _ p hp)
          · cases hp
        · split at hp
          · rename_i q hq
            have hk := out_each hq (exec_keeps hc tm _ o.op)
            exact (Keeps.lift hk).trans (execDrawn_keeps hc as plan r _ _ _ _ p hp)
          · cases hp
    · exact execDrawn_keeps hc as plan r _ _ _ _ p hp
theorem drawnLoop_some {call : Caller} {ops : List IOper} {tm : List Value} {h : Heap} {p : List Value × Heap} : ∀ (n : Nat) (plan : List (List Nat)), drawnLoop call ops tm h n plan = some p → ∃ plan, execDrawn call (ops.map (·.anc)) plan ops 0 [] tm h = .ok p
  | 0, _, hp => by cases hp
  | n + 1, plan, hp => by
    simp only [drawnLoop] at hp
    split at hp
    · rename_i q hq; cases hp; exact ⟨plan, hq⟩
    · split at hp
      · cases hp
      · exact drawnLoop_some n _ hp
theorem drawnRun_some {call : Caller} {ops : List IOper} {tm : List Value} {h : Heap} {p : List Value × Heap} (hp : drawnRun call ops tm h = some p) : ∃ plan, execDrawn call (ops.map (·.anc)) plan ops 0 [] tm h = .ok p := by
  unfold drawnRun at hp
  split at hp
  · rename_i q hq
    cases hp
    exact drawnLoop_some _ _ hq
  · split at hp
    · rename_i hx
      cases hp
      exact ⟨_, Classical.choose_spec hx⟩
    · cases hp
theorem drawnRun_ok {call : Caller} {ops : List IOper} {tm : List Value} {h : Heap} {plan : List (List Nat)} {p : List Value × Heap} (hp : execDrawn call (ops.map (·.anc)) plan ops 0 [] tm h = .ok p) : ∃ p', drawnRun call ops tm h = some p' := by
  unfold drawnRun
  split
  · exact ⟨_, rfl⟩
  · have hx : ∃ q : List (List Nat) × (List Value × Heap), execDrawn call (ops.map (·.anc)) q.1 ops 0 [] tm h = .ok q.2 := ⟨(plan, p), hp⟩
    rw [dif_pos hx]
    exact ⟨_, rfl⟩
theorem drawnRun_keeps {call : Caller} (hc : CallKeeps call) (ops : List IOper) (tm : List Value) (h : Heap) (p : List Value × Heap) (hp : drawnRun call ops tm h = some p) : Keeps h p.2 := by
  obtain ⟨plan, hq⟩ := drawnRun_some hp
  exact execDrawn_keeps hc _ plan ops _ _ _ _ p hq
theorem iter_keeps {f : St → T (IExit × St)} (hf : ∀ s, (f s).Each fun p => Keeps s.h p.2.h) : ∀ (n : Nat) (s : St), (iter f n s).Each fun p => Keeps s.h p.2.h
  | 0, _ => trivial
  | n + 1, s => by
    simp only [iter]
    refine T.Each_bind (hf s) fun p hp => ?_
    obtain ⟨e, s'⟩ := p
    cases e with
    | normal => exact T.Each.mono (fun _ hq => hp.trans hq) (iter_keeps hf n s')
    | exit j => exact hp
    | ret => exact hp
theorem code_keeps {call : Caller} (hc : CallKeeps call) (fuel : Nat) (around : Option Nat) : ∀ (c : ICode) (s : St), (exec call fuel around c s).Each fun p => Keeps s.h p.2.h
  | .skip, s => Keeps.refl _
  | .region ops, s => T.Each_bind (execOps_keeps hc ops s.tmps s.h) fun p hp => hp
  | .drawn ops, s => by
    simp only [exec]
    split
    · rename_i p hp; exact drawnRun_keeps hc _ _ _ p hp
    · trivial
  | .seq a b, s => by
    simp only [exec]
    refine T.Each_bind (code_keeps hc fuel around a s) fun p hp => ?_
    obtain ⟨e, s'⟩ := p
    cases e with
    | normal => exact T.Each.mono (fun _ hq => hp.trans hq) (code_keeps hc fuel around b s')
    | exit j => exact hp
    | ret => exact hp
  | .cond c a b, s => by
    simp only [exec]
    split
    · exact code_keeps hc fuel around a s
    · exact code_keeps hc fuel around b s
    · trivial
  | .block id b, s => by
    simp only [exec]
    refine T.Each_bind (code_keeps hc fuel around b s) fun p hp => ?_
    obtain ⟨e, s'⟩ := p
    cases e <;> exact hp
  | .loop b, s => iter_keeps (code_keeps hc fuel around b) fuel s
  | .rangeFunc f ps asg body, s => by
    have run : ∀ (h : Heap) (d : Nat) (marks : List Nat), Keeps s.h h → T.Each (fun (p : IExit × St) => Keeps s.h p.2.h) (match f.eval s.tmps with
      | .func (.func g) first cap =>
        (call (.func (.func g) first cap) [.func (.yield (2 * h.next)) #[] #[]] (h.alloc (.loop { state := .ready, pending := .normal, tmps := s.tmps, params := ps, assign := asg, body := body, defers := d }))).bind fun p =>
          match p.2.get (2 * h.next) with
          | some (.loop lp) => if lp.state = .busy then .fail else
            match p.2.put (2 * h.next) (some (.loop { lp with state := .exhausted })) with
            | some h' => .ret (lp.pending, { tmps := s.tmps, defers := marks ++ s.defers, h := h' })
            | none => .fail
          | _ => .fail
      | _ => .fail) := by
      intro h d marks hk
      split
      · refine T.Each_bind (hc _ _ _) fun p hp => ?_
        split
        · split
          · trivial
          · split
            · rename_i hq; exact hk.trans ((Keeps.alloc _ _).trans (hp.trans (Keeps.put hq)))
            · trivial
        · trivial
      · trivial
    cases around with
    | none => exact run _ _ _ (Keeps.alloc _ _)
    | some l =>
      simp only [exec]
      split
      · exact run _ _ _ (Keeps.refl _)
      · trivial
  | .exit id, s => Keeps.refl _
  | .ret, s => Keeps.refl _
  | .bad, _ => trivial
theorem marks_keep : ∀ (rs : List Nat) (h h' : Heap), shutMarks rs h = some h' → Keeps h h'
  | [], h, h', hp => by simp only [shutMarks, Option.some.injEq] at hp; subst hp; exact .refl _
  | r :: rs, h, h', hp => by
    simp only [shutMarks] at hp
    split at hp
    · split at hp
      · rename_i hq; exact (Keeps.put hq).trans (marks_keep rs _ _ hp)
      · cases hp
    · cases hp
theorem callV_keeps (env : Env) : ∀ n, CallKeeps (callV env n)
  | 0 => fun _ _ _ => trivial
  | n + 1 => fun f as h => by
    have ih := callV_keeps env n
    simp only [callV]
    split
    · split
      · simp only [enter]
        refine T.Each_bind (code_keeps ih n none _ _) fun p hp => ?_
        obtain ⟨e, s⟩ := p
        have key : ∀ rs, T.Each (fun (p : Value × Heap) => Keeps h p.2) (match shutMarks s.defers s.h with
          | some h' => .ofOpt ((answer rs s.tmps h').map fun v => (v, h'))
          | none => .fail) := by
          intro rs
          split
          · rename_i h' hs
            refine T.Each_ofOpt fun a ha => ?_
            simp only [Option.map_eq_some_iff] at ha
            obtain ⟨v, _, rfl⟩ := ha
            exact Keeps.trans hp (marks_keep _ _ _ hs)
          · trivial
        cases e with
        | normal => exact key _
        | exit j => trivial
        | ret => exact key _
      · trivial
    · simp only [round]
      split
      · split
        · refine T.Each_bind (code_keeps ih n _ _ _) fun p hp => ?_
          obtain ⟨e, s1⟩ := p
          cases e with
          | exit j => trivial
          | ret => trivial
          | normal =>
            simp only
            split
            · split
              · split
                · rename_i h2 hq
                  refine T.Each_bind (code_keeps ih n _ _ _) fun p3 hp3 => ?_
                  obtain ⟨e3, s3⟩ := p3
                  simp only
                  split
                  · split
                    · rename_i hq4; exact Keeps.trans hp ((Keeps.put hq).trans (Keeps.trans hp3 (Keeps.put hq4)))
                    · trivial
                  · trivial
                · trivial
              · trivial
            · trivial
        · trivial
      · trivial
    · trivial
end Go.Ideal
namespace Go.Ideal
open Go Go.RowKit
abbrev W (r : Option Nat) : Fence := { fn := fun _ => True, depth := none, alive := false, round := r }
def HB (h : Heap) : Prop := ∀ k, h.next ≤ k → look h.mem k = none
structure Here (P : Program) (N M : Nat) (ι : Ren) (h : Heap) (w : World) : Prop where
  sim : Sim P N M ι h w
  gi : GI P ι
  hb : HB h
theorem Here.step {P : Program} {N M : Nat} {ι ι' : Ren} {h h' : Heap} {w w' : World} (H : Here P N M ι h w) (r : Res P N M ι h w ι' h' w') (k : Keeps h h') : Here P N M ι' h' w' :=
  ⟨r.sim, GI.step r H.gi, k.bound H.hb⟩
def Ends (P : Program) (N M : Nat) (ι : Ren) (h : Heap) (w : World) (Q : Value × Heap → Prop) : Ending → World → Prop
  | .returned v', w' => ∃ v ι' h', Q (v, h') ∧ VR ι' v v' ∧ Res P N M ι h w ι' h' w'
  | _, _ => False
def Enters (P : Program) (g : FuncId) : Prop := ∀ (as : Array Value) (w : World), (callFunc g as).run P w = .ok (.enter g as) w
structure CallOK (P : Program) (call : Caller) : Prop where
  keeps : CallKeeps call
  kind : ∀ (f : Value) (as : List Value) (h : Heap) (Q : Value × Heap → Prop), (call f as h).All Q → (∃ g fs cs, f = .func (.func g) fs cs) ∨ ∃ l fs cs, f = .func (.yield l) fs cs
  func : ∀ {N M : Nat} {ι : Ren} {h : Heap} {w : World} {Q : Value × Heap → Prop} {g : FuncId} {fs fs' cs cs' as' : Array Value} {as : List Value}, Here P N M ι h w → VRs ι fs.toList fs'.toList → VRs ι cs.toList cs'.toList → VRs ι as as'.toList →
    (call (.func (.func g) fs cs) as h).All Q → (∀ p, Q p → p.2.next ≤ M) → Enters P g ∧ CallsIn (W none) 0 P g (fs' ++ as' ++ cs') w (Ends P N M ι h w Q)
  yield : ∀ {N M : Nat} {ι : Ren} {h : Heap} {w : World} {Q : Value × Heap → Prop} {l l' : Nat} {fs fs' cs as' : Array Value} {as : List Value}, Here P N M ι h w → MR ι l l' → VRs ι fs.toList fs'.toList → VRs ι as as'.toList →
    (call (.func (.yield l) fs cs) as h).All Q → (∀ p, Q p → p.2.next ≤ M) → ∃ R, w.heap[l']? = some (.loop R) ∧ (fs' ++ as').size = R.params.size ∧
      RoundIn (W none) 0 P l' R.fn ((R.params.zip (fs' ++ as')).foldl (fun tmps (t, a) => tmps.setIfInBounds t a) R.tmps) R.assign R.body w (Ends P N M ι h w Q)
section
variable {P : Program}
theorem bin_not_call {op : BinOp} {t : TypeId} {x y f : Opd} {as : List Opd} : binC P op t x y ≠ .call f as := by
  unfold binC
  intro e
  split at e
  all_goals
    repeat' first
      | (cases e; done)
      | split at e
theorem conv_not_call {s d : TypeId} {x f : Opd} {as : List Opd} : convC P s d x ≠ .call f as := by
  unfold convC
  intro e
  split at e
  all_goals
    repeat' first
      | (cases e; done)
      | split at e
theorem slice_not_call {t : TypeId} {x f : Opd} {lo hi mx : Option Opd} {as : List Opd} : sliceC P t x lo hi mx ≠ .call f as := by
  unfold sliceC
  intro e
  split at e
  all_goals
    repeat' first
      | (cases e; done)
      | split at e
theorem builtin_not_call {b : Builtin} {ts : Array TypeId} {xs : List Opd} {f : Opd} {as : List Opd} : builtinC P b ts xs ≠ .call f as := by
  unfold builtinC
  intro e
  split at e
  all_goals
    repeat' first
      | (cases e; done)
      | split at e
theorem call_inv {o : Op} {f : Opd} {as : List Opd} (h : opC P o = .call f as) : ∃ f0 as0 ts, o = .call { callee := .value f0, args := as0, argTypes := ts } ∧ f = .of f0 ∧ as = as0.toList.map .of ∧ okOpd P f0 = true ∧ as0.toList.all (okOpd P) = true := by
  unfold opC at h
  split at h
  · cases h
  rename_i hops
  simp only [Bool.not_eq_true', Bool.not_eq_false] at hops
  split at h
  all_goals
    first
      | (cases h; done)
      | exact absurd h bin_not_call
      | exact absurd h conv_not_call
      | exact absurd h slice_not_call
      | exact absurd h builtin_not_call
      | skip
  all_goals
    first
      | (split at h <;> first | (cases h; done) | (split at h <;> first | (cases h; done) | (split at h <;> cases h; done)); done)
      | skip
  rename_i f0 as0 ts
  cases h
  simp only [Op.operands, Call.operands, Array.toList_append, List.all_append, Bool.and_eq_true] at hops
  exact ⟨f0, as0, ts, rfl, rfl, rfl, by simpa using hops.1, hops.2⟩
theorem defer_bad {c : Call} : opC P (.defer c) = .bad := by
  unfold opC
  split <;> rfl
variable {N M : Nat} {ι : Ren} {h : Heap} {w : World} {Q : Value × Heap → Prop} {tm : List Value} {a : Act} {call : Caller} {r : Option Nat}
theorem oper_at (hc : CallOK P call) (H : Here P N M ι h w) {a1 : Act} (t : VRs ι tm a1.tmps.toList) (hQ : ∀ p, Q p → p.2.next ≤ M) {o : Oper} (hcon : execOp a.eval o = execOp a1.eval o) (hr : ((opC P o.op).exec call tm h).All Q) {K : Act → World → Prop} {Qx : Exit → Act → World → Prop}
    (hK : ∀ v v' ι' h' w', Q (v, h') → VR ι' v v' → Res P N M ι h w ι' h' w' → K (a.put o.dst v') w') : o.wpIn (W r) 0 P a w K Qx := by
  refine ⟨fun _ _ => trivial, ?_⟩
  have hnd : ∀ c, o.op ≠ .defer c := fun c e => by
    rw [e, defer_bad] at hr
    exact hr.elim
  rw [Oper.semAt_eq _ _ _ hnd, hcon]
  rcases exec_eq call tm h (opC P o.op) with ⟨f, as, he⟩ | he
  · obtain ⟨f0, as0, ts, ho, rfl, rfl, of, oa⟩ := call_inv he
    rw [he] at hr
    have hf := opd_rel H.gi t of
    have ha := opds_rel (a := a1) H.gi t oa
    have ha' : VRs ι ((as0.toList.map Opd.of).map (Opd.eval tm)) (as0.map a1.eval).toList := by simpa using ha
    simp only [IOp.exec] at hr
    simp only [execOp, ho, resolve]
    rcases hc.kind _ _ _ _ hr with ⟨g, fs, cs, hg⟩ | ⟨l, fs, cs, hg⟩
    · rw [hg] at hr hf
      generalize hfv : a1.eval f0 = fv at *
      cases hf with
      | func _ h1 h2 =>
        obtain ⟨e1, e2⟩ := hc.func H h1 h2 ha' hr hQ
        simp only [Deferred.ofValue, Sem.run_bind, Sem.run_pure, Result.andThen_ok, invoke]
        rw [e1]
        refine ⟨fun e => by simp at e, CallsIn.mono e2 fun e w' he => ?_⟩
        cases e with
        | returned v' => obtain ⟨v, ι', h', q, hv, hR⟩ := he; exact hK _ _ _ _ _ q hv hR
        | panicked c => exact he.elim
        | outgrown => exact he.elim
    · rw [hg] at hr hf
      generalize hfv : a1.eval f0 = fv at *
      cases hf with
      | yield hm h1 h2 =>
        obtain ⟨R, e1, e2, e3⟩ := hc.yield H hm h1 ha' hr hQ
        simp only [Deferred.ofValue, Sem.run_bind, Sem.run_pure, Result.andThen_ok, invoke]
        rw [run_yield e1 e2]
        refine ⟨fun e => by simp at e, RoundIn.mono e3 fun e w' he => ?_⟩
        cases e with
        | returned v' => obtain ⟨v, ι', h', q, hv, hR⟩ := he; exact hK _ _ _ _ _ q hv hR
        | panicked c => exact he.elim
        | outgrown => exact he.elim
  · rw [he] at hr
    obtain ⟨v, v', ι', h', w', e, q, hv, hR⟩ := prim_good (a := a1) H.sim H.gi t hQ hr
    rcases e with e | ⟨e, rfl⟩ <;> rw [e]
    · exact hK _ _ _ _ _ q hv hR
    · exact hK _ _ _ _ _ q hv hR
theorem oper_sound (hc : CallOK P call) (H : Here P N M ι h w) (t : VRs ι tm a.tmps.toList) (hQ : ∀ p, Q p → p.2.next ≤ M) {o : Oper} (hr : ((opC P o.op).exec call tm h).All Q) {K : Act → World → Prop} {Qx : Exit → Act → World → Prop}
    (hK : ∀ v v' ι' h' w', Q (v, h') → VR ι' v v' → Res P N M ι h w ι' h' w' → K (a.put o.dst v') w') : o.wpIn (W r) 0 P a w K Qx := oper_at hc H t hQ rfl hr hK
theorem put_rel {o : Oper} {v v' : Value} (t : VRs ι tm a.tmps.toList) (hv : VR ι v v') : VRs ι (putDst tm o.dst v) (a.put o.dst v').tmps.toList := by
  cases hd : o.dst with
  | none => simpa [putDst, Act.put, hd] using t
  | some d => simpa [putDst, Act.put, hd] using t.set d hv
theorem put_defers (a : Act) (d : Option Tmp) (v : Value) : (a.put d v).defers = a.defers := by cases d <;> rfl
theorem wants_rel {ops : Array Oper} {anc : List Nat} {bar : Bool} {o : Oper} (t : VRs ι tm a.tmps.toList) (hg : guardC ops o.guard ≠ none) : wants tm (operC P ops anc bar o).guard = Region.wanted o (yielded ops a.tmps) := by
  unfold operC
  cases hgd : o.guard with
  | none => simp [guardC, wants, Region.wanted, hgd]
  | some p =>
    obtain ⟨j, b⟩ := p
    rw [hgd] at hg
    simp only [guardC] at hg ⊢
    cases hj : (ops[j]?).bind (·.dst) with
    | none => rw [hj] at hg; exact absurd rfl hg
    | some d =>
      simp only [wants, Region.wanted, hgd, yielded, hj, Option.bind_some]
      cases ht : tm[d]? with
      | none =>
        have : a.tmps[d]? = none := by
          rw [← Array.getElem?_toList, List.getElem?_eq_none_iff, ← t.length, ← List.getElem?_eq_none_iff]; exact ht
        simp [this]
      | some v =>
        obtain ⟨v', h1, h2⟩ := t.get d v ht
        have h1' : a.tmps[d]? = some v' := by simpa using h1
        rw [h1']
        cases h2 <;> simp
theorem ops_sound (hc : CallOK P call) {ops : Array Oper} {Q : List Value × Heap → Prop} {Qx : Exit → Act → World → Prop} (hQ : ∀ p, Q p → p.2.next ≤ M) {ι0 : Ren} {h0 : Heap} {w0 : World} {ds : List Deferred}
    (hend : ∀ ι' a' w' tm' h', Q (tm', h') → VRs ι' tm' a'.tmps.toList → Res P N M ι0 h0 w0 ι' h' w' → a'.defers = ds → Qx .normal a' w') :
    ∀ (n k : Nat) {ι : Ren} {h : Heap} {w : World} {tm : List Value} {a : Act}, k + n = ops.size → Here P N M ι h w → Res P N M ι0 h0 w0 ι h w → VRs ι tm a.tmps.toList → a.defers = ds →
      (execOps call ((ops.toList.drop k).map (operC P ops [] true)) tm h).All Q → wpOpsIn (W r) 0 P ops Qx (List.range' k n) a w
  | 0, k, ι, h, w, tm, a, hk, H, R, t, hd, hr => by
    have : ops.toList.drop k = [] := by rw [List.drop_eq_nil_iff, Array.length_toList]; omega
    rw [this] at hr
    exact hend _ _ _ _ _ hr t R hd
  | n + 1, k, ι, h, w, tm, a, hk, H, R, t, hd, hr => by
    have hlt : k < ops.size := by omega
    have hop : ops[k]? = some ops[k] := by simp [hlt]
    have hdrop : ops.toList.drop k = ops[k] :: ops.toList.drop (k + 1) := by
      rw [List.drop_eq_getElem_cons (by simpa using hlt)]; simp
    rw [hdrop] at hr
    simp only [List.map_cons, execOps] at hr
    simp only [List.range'_succ, wpOpsIn, hop]
    generalize ops[k] = o at *
    by_cases hg : guardC ops o.guard = none
    · exfalso
      have : (operC P ops [] true o) = { dst := o.dst, op := .bad, guard := none, anc := [], bar := true } := by simp [operC, hg]
      rw [this] at hr
      exact hr.elim
    · rw [wants_rel t hg] at hr
      have hdst : (operC P ops [] true o).dst = o.dst := by unfold operC; split <;> rfl
      split at hr
      · rename_i hw
        rw [if_pos hw]
        have hop2 : (operC P ops [] true o).op = opC P o.op := by
          unfold operC
          split
          · rfl
          · rename_i e; exact absurd e hg
        have h1 := T.All_and (T.All_bind hr) (exec_keeps hc.keeps tm h _)
        rw [hop2] at h1
        have hnx : ∀ p : Value × Heap, ((execOps call ((ops.toList.drop (k + 1)).map (operC P ops [] true)) (putDst tm (operC P ops [] true o).dst p.1) p.2).All Q ∧ Keeps h p.2) → p.2.next ≤ M := by
          rintro p ⟨hp1, hp2⟩
          obtain ⟨q, q1, q2⟩ := T.All_some (T.All_and hp1 (execOps_keeps hc.keeps _ _ _))
          exact Nat.le_trans q2.next (hQ q q1)
        refine oper_sound hc H t (Q := fun p => (execOps call ((ops.toList.drop (k + 1)).map (operC P ops [] true)) (putDst tm (operC P ops [] true o).dst p.1) p.2).All Q ∧ Keeps h p.2) hnx h1 ?_
        · rintro v v' ι' h' w' ⟨hp1, hp2⟩ hv hR
          rw [hdst] at hp1
          exact ops_sound hc hQ hend n (k + 1) (by omega) (H.step hR hp2) (R.trans hR) (put_rel (t.mono hR.le) hv) ((put_defers _ _ _).trans hd) hp1
      · rename_i hw
        rw [if_neg hw]
        rw [hdst] at hr
        exact ⟨fun _ _ => trivial, ops_sound hc hQ hend n (k + 1) (by omega) H R (put_rel t (VR.undefV _)) ((put_defers _ _ _).trans hd) hr⟩
end
end Go.Ideal
namespace Go.Ideal
open Go Go.RowKit
inductive Kind | quiet | bar | free
structure Tr where
  tm : List Value
  h : Heap
  fr : List (Nat × Nat × Nat)
  v : Value
  k : Kind
def Step (call : Caller) (as plan : List (List Nat)) (o : IOper) (i : Nat) (x y : Tr) : Prop :=
  y.tm = putDst x.tm o.dst x.v ∧
  match x.k with
  | .quiet => y.h = x.h ∧ y.fr = x.fr ∧ ((wants x.tm o.guard = false ∧ x.v = undefV) ∨ (wants x.tm o.guard = true ∧ o.op.isPure = true ∧ ∃ q, o.op.run x.tm x.h = .ret (x.v, q)))
  | .bar => wants x.tm o.guard = true ∧ o.op.isPure = false ∧ o.bar = true ∧ o.op.exec call x.tm x.h = .ret (x.v, y.h) ∧ y.fr = []
  | .free => wants x.tm o.guard = true ∧ o.op.isPure = false ∧ ∃ h2, o.op.exec call x.tm (seenBy as plan i x.fr x.h) = .ret (x.v, h2) ∧ y.h = { h2 with floor := x.h.floor, may := x.h.may, hid := x.h.hid } ∧ y.fr = (if x.h.next < h2.next then (i, x.h.next, h2.next) :: x.fr else x.fr)
theorem trace_of (call : Caller) (as plan : List (List Nat)) : ∀ (r : List IOper) (i : Nat) (fr : List (Nat × Nat × Nat)) (tm : List Value) (h : Heap) (p : List Value × Heap), execDrawn call as plan r i fr tm h = .ok p →
    ∃ F : Nat → Tr, (F i).tm = tm ∧ (F i).h = h ∧ (F i).fr = fr ∧ (F (i + r.length)).tm = p.1 ∧ (F (i + r.length)).h = p.2 ∧ ∀ k o, r[k]? = some o → Step call as plan o (i + k) (F (i + k)) (F (i + k + 1))
  | [], i, fr, tm, h, p, hp => by
    simp only [execDrawn, Except.ok.injEq] at hp
    subst hp
    exact ⟨fun _ => ⟨tm, h, fr, undefV, .quiet⟩, rfl, rfl, rfl, rfl, rfl, fun k o e => by simp at e⟩
  | o :: r, i, fr, tm, h, p, hp => by
    have build : ∀ (k : Kind) (v : Value) (fr' : List (Nat × Nat × Nat)) (tm' : List Value) (h' : Heap), execDrawn call as plan r (i + 1) fr' tm' h' = .ok p → (∀ x y : Tr, x = ⟨tm, h, fr, v, k⟩ → y.tm = tm' → y.h = h' → y.fr = fr' → Step call as plan o i x y) →
        ∃ F : Nat → Tr, (F i).tm = tm ∧ (F i).h = h ∧ (F i).fr = fr ∧ (F (i + (o :: r).length)).tm = p.1 ∧ (F (i + (o :: r).length)).h = p.2 ∧ ∀ k o', (o :: r)[k]? = some o' → Step call as plan o' (i + k) (F (i + k)) (F (i + k + 1)) := by
      intro k v fr' tm' h' hx hstep
      obtain ⟨F, f1, f2, f3, f4, f5, f6⟩ := trace_of call as plan r (i + 1) fr' tm' h' p hx
      refine ⟨fun n => if n = i then ⟨tm, h, fr, v, k⟩ else F n, by simp, by simp, by simp, ?_, ?_, ?_⟩
      · simp only [List.length_cons]; rw [if_neg (by omega), show i + (r.length + 1) = i + 1 + r.length by omega]; exact f4
      · simp only [List.length_cons]; rw [if_neg (by omega), show i + (r.length + 1) = i + 1 + r.length by omega]; exact f5
      · intro j o' hj
        cases j with
        | zero =>
          simp only [List.getElem?_cons_zero, Option.some.injEq] at hj
          subst hj
          simp only [Nat.add_zero, if_true]
          rw [if_neg (by omega)]
          exact hstep _ _ rfl f1 f2 f3
        | succ j =>
          simp only [List.getElem?_cons_succ] at hj
          have := f6 j o' hj
          have e1 : (fun n => if n = i then (⟨tm, h, fr, v, k⟩ : Tr) else F n) (i + (j + 1)) = F (i + 1 + j) := by simp only [if_neg (show ¬ i + (j + 1) = i by omega)]; congr 1; omega
          have e2 : (fun n => if n = i then (⟨tm, h, fr, v, k⟩ : Tr) else F n) (i + (j + 1) + 1) = F (i + 1 + j + 1) := by simp only [if_neg (show ¬ i + (j + 1) + 1 = i by omega)]; congr 1; omega
          rw [e1, e2]
          rw [show i + (j + 1) = i + 1 + j by omega]
          exact this
    simp only [execDrawn] at hp
    split at hp
    · rename_i hw
      split at hp
      · rename_i hpure
        split at hp
        · rename_i q hq
          refine build .quiet q.1 _ _ _ hp fun x y hx h1 h2 h3 => ?_
          subst hx
          exact ⟨h1, h2, h3, .inr ⟨hw, hpure, q.2, T.out_eq hq⟩⟩
        · cases hp
      · rename_i hpure
        split at hp
        · rename_i hbar
          split at hp
          · rename_i q hq
            refine build .bar q.1 _ _ _ hp fun x y hx h1 h2 h3 => ?_
            subst hx
            refine ⟨h1, hw, by simpa using hpure, hbar, ?_, h3⟩
            rw [h2]; exact T.out_eq hq
          · cases hp
        · split at hp
          · rename_i q hq
            refine build .free q.1 _ _ _ hp fun x y hx h1 h2 h3 => ?_
            subst hx
            exact ⟨h1, hw, by simpa using hpure, q.2, T.out_eq hq, h2, h3⟩
          · cases hp
    · rename_i hw
      refine build .quiet undefV _ _ _ hp fun x y hx h1 h2 h3 => ?_
      subst hx
      exact ⟨h1, h2, h3, .inl ⟨by simpa using hw, rfl⟩⟩
theorem map_eval {tm tm' : List Value} : ∀ {xs : List Opd}, (∀ x ∈ xs, x.eval tm = x.eval tm') → xs.map (Opd.eval tm) = xs.map (Opd.eval tm')
  | [], _ => rfl
  | x :: xs, h => by rw [List.map_cons, List.map_cons, h x (by simp), map_eval fun y hy => h y (by simp [hy])]
theorem omap_eval {tm tm' : List Value} {x : Option Opd} (h : ∀ y ∈ x.toList, y.eval tm = y.eval tm') : x.map (Opd.eval tm) = x.map (Opd.eval tm') := by
  cases x with
  | none => rfl
  | some y => simp only [Option.map_some]; rw [h y (by simp)]
theorem exec_congr (call : Caller) {tm tm' : List Value} (h : Heap) (op : IOp) (hx : ∀ x ∈ op.opds, x.eval tm = x.eval tm') : op.exec call tm h = op.exec call tm' h := by
  cases op
  case build zero ps =>
    simp only [IOp.exec, IOp.run, IOp.opds] at *
    have : (ps.map fun p => (p.1, p.2.1, p.2.2.eval tm)) = ps.map fun p => (p.1, p.2.1, p.2.2.eval tm') := List.map_congr_left fun p hp => by
      rw [hx p.2.2 (List.mem_map.2 ⟨p, hp, rfl⟩)]
    rw [this]
  case buildSlice z n zero ps =>
    simp only [IOp.exec, IOp.run, IOp.opds] at *
    have : (ps.map fun p => (p.1 * z, z, p.2.eval tm)) = ps.map fun p => (p.1 * z, z, p.2.eval tm') := List.map_congr_left fun p hp => by
      rw [hx p.2 (List.mem_map.2 ⟨p, hp, rfl⟩)]
    rw [this]
  case func f fs cs =>
    simp only [IOp.exec, IOp.run, IOp.opds] at *
    rw [map_eval fun x hxx => hx x (by simp [hxx]), map_eval (xs := cs) fun x hxx => hx x (by simp [hxx])]
  case call f as =>
    simp only [IOp.exec, IOp.opds] at *
    rw [map_eval fun x hxx => hx x (by simp [hxx]), hx f (by simp)]
  case minmax b as =>
    simp only [IOp.exec, IOp.run, IOp.opds] at *
    rw [map_eval hx]
  case sliceStr x lo hi =>
    simp only [IOp.exec, IOp.run, IOp.opds] at *
    rw [hx x (by simp), omap_eval fun y hy => hx y (by simp at hy; simp [hy]), omap_eval (x := hi) fun y hy => hx y (by simp at hy; simp [hy])]
  case slice z x lo hi mx =>
    simp only [IOp.exec, IOp.run, IOp.opds] at *
    rw [hx x (by simp), omap_eval fun y hy => hx y (by simp at hy; simp [hy]), omap_eval (x := hi) fun y hy => hx y (by simp at hy; simp [hy]), omap_eval (x := mx) fun y hy => hx y (by simp at hy; simp [hy])]
  case sliceArr n z x lo hi mx =>
    simp only [IOp.exec, IOp.run, IOp.opds] at *
    rw [hx x (by simp), omap_eval fun y hy => hx y (by simp at hy; simp [hy]), omap_eval (x := hi) fun y hy => hx y (by simp at hy; simp [hy]), omap_eval (x := mx) fun y hy => hx y (by simp at hy; simp [hy])]
  case pick c x y =>
    simp only [IOp.exec, IOp.run, IOp.opds] at *
    rw [hx c (by simp), hx x (by simp), hx y (by simp)]
  case mapUpdate b m k v =>
    simp only [IOp.exec, IOp.run, IOp.opds] at *
    rw [hx m (by simp), hx k (by simp), hx v (by simp)]
  case entryStore m k v =>
    simp only [IOp.exec, IOp.run, IOp.opds] at *
    rw [hx m (by simp), hx k (by simp), hx v (by simp)]
  case makeMap => rfl
  case bad => rfl
  all_goals
    simp only [IOp.exec, IOp.run, IOp.opds, List.mem_cons, List.not_mem_nil, or_false, forall_eq_or_imp, forall_eq] at *
    first
      | rw [hx.1, hx.2]
      | rw [hx]
theorem ofOpt_any {α : Type} {h h' q : Heap} {v : Value} {f : α → Value} {o : Option α} (hr : T.ofOpt (o.map fun x => (f x, h)) = .ret (v, q)) : T.ofOpt (o.map fun x => (f x, h')) = .ret (v, h') ∧ q = h := by
  cases o with
  | none => cases hr
  | some a => cases hr; exact ⟨rfl, rfl⟩
theorem pure_any {tm : List Value} {h h' : Heap} {op : IOp} {v : Value} {q : Heap} (hp : op.isPure = true) (hr : op.run tm h = .ret (v, q)) : op.run tm h' = .ret (v, h') ∧ q = h := by
  cases op <;> first
    | (simp [IOp.isPure] at hp; done)
    | skip
  all_goals
    simp only [IOp.run] at hr ⊢
    repeat' first
      | (cases hr; done)
      | (cases hr; exact ⟨rfl, rfl⟩)
      | split at hr
  all_goals
    first
      | exact ofOpt_any hr
      | (cases hr; refine ⟨?_, rfl⟩; simp [*]; done)
end Go.Ideal
namespace Go.Ideal
open Go Go.RowKit
structure Run (P : Program) (call : Caller) (ops : Array Oper) (plan : List (List Nat)) (F : Nat → Tr) : Prop where
  ok : drawnOk ops.toList (drawnC P ops) = true
  good : CallOK P call
  step : ∀ k o, (drawnC P ops)[k]? = some o → Step call ((drawnC P ops).map (·.anc)) plan o k (F k) (F (k + 1))
  fr0 : (F 0).fr = []
  hb : HB (F 0).h
section
variable {P : Program} {call : Caller} {ops : Array Oper} {plan : List (List Nat)} {F : Nat → Tr}
theorem drawn_get {k : Nat} (hk : k < ops.size) : ∃ anc bar, (drawnC P ops)[k]? = some (operC P ops anc bar ops[k]) := by
  refine ⟨(ancs ops.toList []).getD k [], barOf P ops.toList (ancs ops.toList []) k, ?_⟩
  simp [drawnC, List.getElem?_zipIdx, hk]
theorem drawn_length : (drawnC P ops).length = ops.size := by simp [drawnC]
theorem Run.at_ (R : Run P call ops plan F) {k : Nat} (hk : k < ops.size) : ∃ anc bar, (drawnC P ops)[k]? = some (operC P ops anc bar ops[k]) ∧ Step call ((drawnC P ops).map (·.anc)) plan (operC P ops anc bar ops[k]) k (F k) (F (k + 1)) := by
  obtain ⟨anc, bar, h⟩ := drawn_get (P := P) hk
  exact ⟨anc, bar, h, R.step k _ h⟩
def eye (P : Program) (ops : Array Oper) (plan : List (List Nat)) (F : Nat → Tr) (k : Nat) : Heap := seenBy ((drawnC P ops).map (·.anc)) plan k (F k).fr (F k).h
theorem Run.keep1 (R : Run P call ops plan F) {k : Nat} (hk : k < ops.size) : Keeps (F k).h (F (k + 1)).h := by
  obtain ⟨anc, bar, _, h2, h3⟩ := R.at_ hk
  cases hkk : (F k).k <;> rw [hkk] at h3
  · rw [h3.1]; exact .refl _
  · have := exec_keeps R.good.keeps (F k).tm (F k).h (operC P ops anc bar ops[k]).op
    rw [h3.2.2.2.1] at this
    exact this
  · obtain ⟨_, _, g2, e1, e2, _⟩ := h3
    have := exec_keeps R.good.keeps (F k).tm (eye P ops plan F k) (operC P ops anc bar ops[k]).op
    unfold eye at this
    rw [e1] at this
    rw [e2]
    exact Keeps.lift this
theorem Run.keep (R : Run P call ops plan F) : ∀ {j i : Nat}, i ≤ j → j ≤ ops.size → Keeps (F i).h (F j).h
  | 0, i, h, _ => by have : i = 0 := by omega
                     subst this; exact .refl _
  | j + 1, i, h, hj => by
    rcases Nat.lt_or_ge i (j + 1) with h1 | h1
    · exact (R.keep (Nat.le_of_lt_succ h1) (by omega)).trans (R.keep1 (by omega))
    · have : i = j + 1 := by omega
      subst this; exact .refl _
theorem Run.le (R : Run P call ops plan F) {i j : Nat} (h : i ≤ j) (hj : j ≤ ops.size) : (F i).h.next ≤ (F j).h.next := (R.keep h hj).next
theorem Run.hbAt (R : Run P call ops plan F) {j : Nat} (hj : j ≤ ops.size) : HB (F j).h := (R.keep (Nat.zero_le j) hj).bound R.hb
def mayAt (plan : List (List Nat)) (F : Nat → Tr) (k : Nat) : List Nat := (plan.getD k []).filter fun x => decide ((F 0).h.floor ≤ x) || (F 0).h.may.contains x
def Touch (P : Program) (ops : Array Oper) (plan : List (List Nat)) (F : Nat → Tr) (k x : Nat) : Prop :=
  (F k).k = .free ∧ ((x < (F k).h.next ∧ x ∈ mayAt plan F k ∧ hides (eye P ops plan F k).hid x = false) ∨ ((F k).h.next ≤ x ∧ x < (F (k + 1)).h.next))
theorem Run.ro (R : Run P call ops plan F) {j : Nat} (hj : j ≤ ops.size) : (F j).h.ro = (F 0).h.ro := (R.keep (Nat.zero_le j) hj).ro
theorem Run.hid (R : Run P call ops plan F) {j : Nat} (hj : j ≤ ops.size) : (F j).h.hid = (F 0).h.hid := (R.keep (Nat.zero_le j) hj).hid
theorem Run.may (R : Run P call ops plan F) {j : Nat} (hj : j ≤ ops.size) : (F j).h.may = (F 0).h.may := (R.keep (Nat.zero_le j) hj).may
theorem Run.floor (R : Run P call ops plan F) {j : Nat} (hj : j ≤ ops.size) : (F j).h.floor = (F 0).h.floor := (R.keep (Nat.zero_le j) hj).floor
theorem Run.same1 (R : Run P call ops plan F) {k : Nat} (hk : k < ops.size) (hb : (F k).k ≠ .bar) {x : Nat} (hx : x < (F k).h.next) (ht : ¬ Touch P ops plan F k x) : look (F (k + 1)).h.mem x = look (F k).h.mem x := by
  obtain ⟨anc, bar, _, h2, h3⟩ := R.at_ hk
  cases hkk : (F k).k <;> rw [hkk] at h3
  · rw [h3.1]
  · exact absurd hkk hb
  · obtain ⟨_, _, g2, e1, e2, _⟩ := h3
    have hkp := exec_keeps R.good.keeps (F k).tm (eye P ops plan F k) (operC P ops anc bar ops[k]).op
    unfold eye at hkp
    rw [e1] at hkp
    rw [e2]
    cases hh : hides (eye P ops plan F k).hid x with
    | true => exact Keeps.hidden hkp x hh hx
    | false =>
      refine Keeps.low hkp x hx (fun hm => ht ⟨hkk, .inl ⟨hx, ?_, hh⟩⟩) hx
      simp only [seenBy, R.floor (Nat.le_of_lt hk), R.may (Nat.le_of_lt hk)] at hm
      exact hm
theorem Run.same (R : Run P call ops plan F) : ∀ {j i : Nat}, i ≤ j → j ≤ ops.size → (∀ k, i ≤ k → k < j → (F k).k ≠ .bar) → ∀ {x : Nat}, x < (F i).h.next → (∀ k, i ≤ k → k < j → ¬ Touch P ops plan F k x) → look (F j).h.mem x = look (F i).h.mem x
  | 0, i, h, _, _, x, _, _ => by have : i = 0 := by omega
                                 subst this; rfl
  | j + 1, i, h, hj, hb, x, hx, ht => by
    rcases Nat.lt_or_ge i (j + 1) with h1 | h1
    · rw [R.same1 (by omega) (hb j (by omega) (by omega)) (Nat.lt_of_lt_of_le hx (R.le (Nat.le_of_lt_succ h1) (by omega))) (ht j (by omega) (by omega))]
      exact R.same (Nat.le_of_lt_succ h1) (by omega) (fun k h2 h3 => hb k h2 (by omega)) hx fun k h2 h3 => ht k h2 (by omega)
    · have : i = j + 1 := by omega
      subst this; rfl
theorem tile : ∀ {d i x : Nat}, (F i).h.next ≤ x → x < (F (i + d)).h.next → ∃ k, i ≤ k ∧ k < i + d ∧ (F k).h.next ≤ x ∧ x < (F (k + 1)).h.next
  | 0, i, x, h1, h2 => by simp only [Nat.add_zero] at h2; omega
  | d + 1, i, x, h1, h2 => by
    rcases Nat.lt_or_ge x (F (i + d)).h.next with h | h
    · obtain ⟨k, a, b, c, e⟩ := tile (d := d) h1 h; exact ⟨k, a, by omega, c, e⟩
    · exact ⟨i + d, by omega, by omega, h, h2⟩
theorem Run.apart (R : Run P call ops plan F) {i k x : Nat} (hi : i < ops.size) (hk : k < ops.size) (h1 : (F i).h.next ≤ x) (h2 : x < (F (i + 1)).h.next) (h3 : (F k).h.next ≤ x) (h4 : x < (F (k + 1)).h.next) : i = k := by
  rcases Nat.lt_trichotomy i k with h | h | h
  · have := R.le (i := i + 1) (j := k) h (by omega); omega
  · exact h
  · have := R.le (i := k + 1) (j := i) h (by omega); omega
theorem Run.frs (R : Run P call ops plan F) {c : Nat} (hc : (F c).fr = []) : ∀ {j : Nat}, c ≤ j → j ≤ ops.size → (∀ k, c ≤ k → k < j → (F k).k ≠ .bar) →
    ∀ p, p ∈ (F j).fr ↔ ∃ i, c ≤ i ∧ i < j ∧ (F i).h.next < (F (i + 1)).h.next ∧ p = (i, (F i).h.next, (F (i + 1)).h.next)
  | 0, h, _, _, p => by
    have : c = 0 := by omega
    subst this
    rw [hc]
    simp
  | j + 1, h, hj, hb, p => by
    rcases Nat.lt_or_ge c (j + 1) with h1 | h1
    · have ih := R.frs hc (j := j) (by omega) (by omega) (fun k h2 h3 => hb k h2 (by omega)) p
      obtain ⟨anc, bar, _, h2, h3⟩ := R.at_ (k := j) (by omega)
      have hnb := hb j (by omega) (by omega)
      have old : ∀ (e : (F (j + 1)).fr = (F j).fr), ¬ (F j).h.next < (F (j + 1)).h.next → (p ∈ (F (j + 1)).fr ↔ ∃ i, c ≤ i ∧ i < j + 1 ∧ (F i).h.next < (F (i + 1)).h.next ∧ p = (i, (F i).h.next, (F (i + 1)).h.next)) := by
        intro e hn
        rw [e, ih]
        constructor
        · rintro ⟨i, a, b, d, f⟩; exact ⟨i, a, by omega, d, f⟩
        · rintro ⟨i, a, b, d, f⟩
          refine ⟨i, a, ?_, d, f⟩
          rcases Nat.lt_or_ge i j with g | g
          · exact g
          · have : i = j := by omega
            subst this; exact absurd d hn
      cases hkk : (F j).k <;> rw [hkk] at h3
      · exact old h3.2.1 (by rw [h3.1]; omega)
      · exact absurd hkk hnb
      · obtain ⟨_, _, g2, e1, e2, e3⟩ := h3
        have hg : g2.next = (F (j + 1)).h.next := by rw [e2]
        rw [hg] at e3
        split at e3
        · rename_i hlt
          rw [e3, List.mem_cons, ih]
          constructor
          · rintro (f | ⟨i, a, b, d, f⟩)
            · exact ⟨j, by omega, by omega, hlt, f⟩
            · exact ⟨i, a, by omega, d, f⟩
          · rintro ⟨i, a, b, d, f⟩
            rcases Nat.lt_or_ge i j with g | g
            · exact .inr ⟨i, a, g, d, f⟩
            · have : i = j := by omega
              subst this; exact .inl f
        · rename_i hlt; exact old e3 hlt
    · have : c = j + 1 := by omega
      subst this
      rw [hc]
      simp
      intro i a b
      omega
theorem hides_append (l l' : List (Nat × Nat)) (k : Nat) : hides (l ++ l') k = (hides l k || hides l' k) := by simp [hides]
theorem hides_iff {l : List (Nat × Nat)} {k : Nat} : hides l k = true ↔ ∃ p ∈ l, p.1 ≤ k ∧ k < p.2 := by simp [hides]
theorem get_odd {h : Heap} {b : Nat} (hb : b % 2 = 1) : h.get b = (h.ro (b / 2)).map fun p => .cells p.1 p.2 true := by simp [Heap.get, hb]
theorem get_even {h : Heap} {b : Nat} (hb : b % 2 = 0) : h.get b = if hides h.hid (b / 2) then none else look h.mem (b / 2) := by
  unfold Heap.get; rw [if_neg (by omega)]; rfl
theorem Run.quiet_empty (R : Run P call ops plan F) {k : Nat} (hk : k < ops.size) (h : (F k).h.next < (F (k + 1)).h.next) : (F k).k ≠ .quiet := by
  intro e
  obtain ⟨anc, bar, _, h2, h3⟩ := R.at_ hk
  rw [e] at h3
  rw [h3.1] at h
  omega
theorem as_getD (k : Nat) : ((drawnC P ops).map (·.anc)).getD k [] = ancAt (drawnC P ops) k := by
  unfold ancAt
  rw [List.getD_eq_getElem?_getD, List.getElem?_map]
  cases (drawnC P ops)[k]? <;> rfl
theorem unord_iff {i k : Nat} : unord ((drawnC P ops).map (·.anc)) i k = true ↔ i ≠ k ∧ k ∉ ancAt (drawnC P ops) i ∧ i ∉ ancAt (drawnC P ops) k := by
  unfold unord
  rw [as_getD, as_getD]
  simp [and_assoc]
theorem eye_hides {j x : Nat} : hides (eye P ops plan F j).hid x = true ↔ (∃ p ∈ (F j).fr, p.1 ∉ ancAt (drawnC P ops) j ∧ p.2.1 ≤ x ∧ x < p.2.2) ∨ (∃ k, unord ((drawnC P ops).map (·.anc)) j k = true ∧ x ∈ plan.getD k [] ∧ x < (F j).h.next) ∨ hides (F j).h.hid x = true := by
  simp only [eye, seenBy, hides_append, Bool.or_eq_true, or_assoc]
  refine or_congr ?_ (or_congr ?_ Iff.rfl)
  · rw [hides_iff]
    constructor
    · rintro ⟨p, hp, p1, p2⟩
      obtain ⟨q, hq, rfl⟩ := List.mem_map.1 hp
      simp only [List.mem_filter, Bool.not_eq_true'] at hq
      rw [as_getD] at hq
      exact ⟨q, hq.1, by simpa using hq.2, p1, p2⟩
    · rintro ⟨q, q1, q2, q3, q4⟩
      refine ⟨q.2, List.mem_map.2 ⟨q, ?_, rfl⟩, q3, q4⟩
      simp only [List.mem_filter, Bool.not_eq_true']
      rw [as_getD]
      exact ⟨q1, by simpa using q2⟩
  · rw [hides_iff]
    constructor
    · rintro ⟨p, hp, p1, p2⟩
      simp only [List.mem_flatMap, List.mem_range] at hp
      obtain ⟨k, hk, hp⟩ := hp
      split at hp
      · rename_i hu
        simp only [List.mem_map, List.mem_filter, decide_eq_true_eq] at hp
        obtain ⟨y, ⟨y1, y2⟩, rfl⟩ := hp
        have : x = y := by simp only at p1 p2; omega
        subst this
        exact ⟨k, hu, y1, y2⟩
      · cases hp
    · rintro ⟨k, hu, h1, h2⟩
      refine ⟨(x, x + 1), ?_, Nat.le_refl _, Nat.lt_succ_self _⟩
      simp only [List.mem_flatMap, List.mem_range]
      have hk : k < plan.length := by
        rcases Nat.lt_or_ge k plan.length with h | h
        · exact h
        · rw [List.getD_eq_getElem?_getD, List.getElem?_eq_none h] at h1; cases h1
      refine ⟨k, hk, ?_⟩
      rw [if_pos hu]
      simp only [List.mem_map, List.mem_filter, decide_eq_true_eq]
      exact ⟨x, ⟨h1, h2⟩, rfl⟩
theorem Run.touch_fixed (R : Run P call ops plan F) {c m i k x : Nat} (frc : (F c).fr = []) (nob : ∀ k, c ≤ k → k < m → (F k).k ≠ .bar) (hm : m ≤ ops.size) (hi : c ≤ i ∧ i < m) (hk : c ≤ k ∧ k < m) (hne : i ≠ k) (ti : Touch P ops plan F i x) (tk : Touch P ops plan F k x) :
    i ∈ ancAt (drawnC P ops) k ∨ k ∈ ancAt (drawnC P ops) i := by
  refine Classical.byContradiction fun hno => ?_
  have hno1 : i ∉ ancAt (drawnC P ops) k := fun h => hno (.inl h)
  have hno2 : k ∉ ancAt (drawnC P ops) i := fun h => hno (.inr h)
  have fresh : ∀ {a b : Nat}, c ≤ a ∧ a < m → c ≤ b ∧ b < m → a ∉ ancAt (drawnC P ops) b → ((F a).h.next ≤ x ∧ x < (F (a + 1)).h.next) → x < (F b).h.next → hides (eye P ops plan F b).hid x = true := by
    intro a b ha hb hab h1 h2
    have hlt : a < b := Nat.lt_of_not_le fun h => by have := R.le (i := b) (j := a) h (by omega); omega
    refine eye_hides.2 (.inl ⟨(a, (F a).h.next, (F (a + 1)).h.next), ?_, hab, h1.1, h1.2⟩)
    rw [R.frs frc hb.1 (by omega) fun k k1 k2 => nob k k1 (by omega)]
    exact ⟨a, ha.1, hlt, by omega, rfl⟩
  obtain ⟨_, ti⟩ := ti
  obtain ⟨_, tk⟩ := tk
  rcases ti with ⟨a1, a2, a3⟩ | ti
  · rcases tk with ⟨b1, b2, b3⟩ | tk
    · have : hides (eye P ops plan F k).hid x = true := eye_hides.2 (.inr (.inl ⟨i, unord_iff.2 ⟨Ne.symm hne, hno1, hno2⟩, (List.mem_filter.1 a2).1, b1⟩))
      rw [b3] at this; cases this
    · rw [fresh hk hi hno2 tk a1] at a3; cases a3
  · rcases tk with ⟨b1, b2, b3⟩ | tk
    · rw [fresh hi hk hno1 ti b1] at b3; cases b3
    · exact hne (R.apart (by omega) (by omega) ti.1 ti.2 tk.1 tk.2)
theorem Run.seen_fixed (R : Run P call ops plan F) {c m i j x : Nat} (frc : (F c).fr = []) (nob : ∀ k, c ≤ k → k < m → (F k).k ≠ .bar) (hm : m ≤ ops.size) (hi : c ≤ i ∧ i < m) (hj : c ≤ j ∧ j < m) (hne : i ≠ j) (ti : Touch P ops plan F i x) (hx : x < (F j).h.next) (hv : hides (eye P ops plan F j).hid x = false) :
    i ∈ ancAt (drawnC P ops) j ∨ j ∈ ancAt (drawnC P ops) i := by
  refine Classical.byContradiction fun hno => ?_
  have hno1 : i ∉ ancAt (drawnC P ops) j := fun h => hno (.inl h)
  have hno2 : j ∉ ancAt (drawnC P ops) i := fun h => hno (.inr h)
  obtain ⟨_, ti⟩ := ti
  have : hides (eye P ops plan F j).hid x = true := by
    rcases ti with ⟨a1, a2, a3⟩ | ti
    · exact eye_hides.2 (.inr (.inl ⟨i, unord_iff.2 ⟨Ne.symm hne, hno1, hno2⟩, (List.mem_filter.1 a2).1, hx⟩))
    · have hlt : i < j := Nat.lt_of_not_le fun h => by have := R.le (i := j) (j := i) h (by omega); omega
      refine eye_hides.2 (.inl ⟨(i, (F i).h.next, (F (i + 1)).h.next), ?_, hno1, ti.1, ti.2⟩)
      rw [R.frs frc hj.1 (by omega) fun k k1 k2 => nob k k1 (by omega)]
      exact ⟨i, hi.1, hlt, by omega, rfl⟩
  rw [hv] at this; cases this
end
end Go.Ideal
namespace Go.Ideal
open Go Go.RowKit
section
variable {P : Program} {call : Caller} {ops : Array Oper} {plan : List (List Nat)} {F : Nat → Tr}
theorem Run.okAt (R : Run P call ops plan F) {i : Nat} (hi : i < ops.size) :
    (∀ d ∈ dirAt ops.toList i, d < i) ∧
    (∀ j ∈ ancAt (drawnC P ops) i, j < i ∧ (∀ k ∈ ancAt (drawnC P ops) j, k ∈ ancAt (drawnC P ops) i) ∧ (j ∈ dirAt ops.toList i ∨ ∃ d ∈ dirAt ops.toList i, j ∈ ancAt (drawnC P ops) d)) ∧
    ∀ j, j < ops.size → i ≠ j → j ∈ ancAt (drawnC P ops) i ∨ i ∈ ancAt (drawnC P ops) j ∨
      ((∀ d, dstAt (drawnC P ops) i = some d → d ∉ namesAt ops.toList (drawnC P ops) j) ∧ (barAt (drawnC P ops) i = true → pureAt (drawnC P ops) j = true)) := by
  have h := R.ok
  simp only [drawnOk, List.all_eq_true, List.mem_range, Array.length_toList, Bool.and_eq_true] at h
  obtain ⟨⟨h1, h2⟩, h3⟩ := h i hi
  refine ⟨fun d hd => by simpa using h1 d hd, fun j hj => ?_, fun j hj hne => ?_⟩
  · obtain ⟨⟨a, b⟩, c⟩ := h2 j hj
    refine ⟨by simpa using a, fun k hk => by simpa using b k hk, ?_⟩
    simp only [Bool.or_eq_true, List.contains_iff_mem, List.any_eq_true] at c
    exact c
  · have := h3 j hj
    simp only [Bool.or_eq_true, beq_iff_eq, List.contains_iff_mem, Bool.and_eq_true, Bool.not_eq_true'] at this
    rcases this with ((e | e) | e) | ⟨e1, e2⟩
    · exact absurd e hne
    · exact .inl e
    · exact .inr (.inl e)
    · refine .inr (.inr ⟨fun d hd => ?_, fun hb => ?_⟩)
      · rw [hd] at e1; simpa using e1
      · rcases e2 with e | e
        · rw [hb] at e; cases e
        · exact e
theorem anc_out {i : Nat} (hi : ops.size ≤ i) : ancAt (drawnC P ops) i = [] := by
  unfold ancAt
  have : (drawnC P ops)[i]? = none := by rw [List.getElem?_eq_none_iff, drawn_length]; exact hi
  rw [this]
theorem Run.anc_lt (R : Run P call ops plan F) {i j : Nat} (h : j ∈ ancAt (drawnC P ops) i) : j < i := by
  rcases Nat.lt_or_ge i ops.size with hi | hi
  · exact ((R.okAt hi).2.1 j h).1
  · rw [anc_out hi] at h; cases h
theorem Run.dstAt (R : Run P call ops plan F) {k : Nat} (hk : k < ops.size) : dstAt (drawnC P ops) k = ops[k].dst := by
  obtain ⟨anc, bar, h1, _⟩ := R.at_ hk
  simp only [Ideal.dstAt, h1, Option.bind_some]
  unfold operC; split <;> rfl
theorem dst_lt {k t : Nat} (h : Ideal.dstAt (drawnC P ops) k = some t) : k < ops.size := by
  rcases Nat.lt_or_ge k ops.size with hk | hk
  · exact hk
  · have : (drawnC P ops)[k]? = none := by rw [List.getElem?_eq_none_iff, drawn_length]; exact hk
    simp [Ideal.dstAt, this] at h
theorem Run.tm_step (R : Run P call ops plan F) {k : Nat} (hk : k < ops.size) : (F (k + 1)).tm = putDst (F k).tm (Ideal.dstAt (drawnC P ops) k) (F k).v := by
  obtain ⟨anc, bar, h1, h2, _⟩ := R.at_ hk
  rw [h2]
  simp only [Ideal.dstAt, h1, Option.bind_some]
theorem putDst_len {tm : List Value} {d : Option Nat} {v : Value} : (putDst tm d v).length = tm.length := by cases d <;> simp [putDst]
theorem putDst_get {tm : List Value} {d : Option Nat} {v : Value} {t : Nat} (h : d ≠ some t) : (putDst tm d v)[t]? = tm[t]? := by
  cases d with
  | none => rfl
  | some d => simp only [putDst]; rw [List.getElem?_set_ne]; intro e; subst e; exact h rfl
theorem Run.tm_len (R : Run P call ops plan F) : ∀ {j : Nat}, j ≤ ops.size → (F j).tm.length = (F 0).tm.length
  | 0, _ => rfl
  | j + 1, h => by rw [R.tm_step h, putDst_len]; exact R.tm_len (by omega)
theorem Run.tm_keep (R : Run P call ops plan F) {t : Nat} : ∀ {j i : Nat}, i ≤ j → j ≤ ops.size → (∀ k, i ≤ k → k < j → Ideal.dstAt (drawnC P ops) k ≠ some t) → (F j).tm[t]? = (F i).tm[t]?
  | 0, i, h, _, _ => by have : i = 0 := by omega
                        subst this; rfl
  | j + 1, i, h, hj, hd => by
    rcases Nat.lt_or_ge i (j + 1) with h1 | h1
    · rw [R.tm_step hj, putDst_get (hd j (by omega) (by omega))]
      exact R.tm_keep (by omega) (by omega) fun k a b => hd k a (by omega)
    · have : i = j + 1 := by omega
      subst this; rfl
theorem Run.tm_some (R : Run P call ops plan F) {t i j : Nat} (hij : i < j) (hj : j ≤ ops.size) (hd : Ideal.dstAt (drawnC P ops) i = some t) (hmax : ∀ k, i < k → k < j → Ideal.dstAt (drawnC P ops) k ≠ some t) (ht : t < (F 0).tm.length) : (F j).tm[t]? = some (F i).v := by
  rw [R.tm_keep (i := i + 1) hij hj fun k a b => hmax k a b, R.tm_step (by omega), hd]
  have := R.tm_len (j := i) (by omega)
  simp [putDst, this, ht]
def blank (ns : List Nat) (l : List Value) : List Value := l.zipIdx.map fun p => if ns.contains p.2 then p.1 else undefV
theorem blank_get {ns : List Nat} {l : List Value} {t : Nat} : (blank ns l)[t]? = l[t]?.map fun v => if ns.contains t then v else undefV := by
  simp [blank, List.getElem?_zipIdx, Function.comp_def]
theorem blank_in {ns : List Nat} {l : List Value} {t : Nat} (h : t ∈ ns) : (blank ns l)[t]? = l[t]? := by
  rw [blank_get]; simp [h]
theorem blank_len {ns : List Nat} {l : List Value} : (blank ns l).length = l.length := by simp [blank]
theorem blank_getD {ns : List Nat} {l : List Value} {t : Nat} (h : t ∈ ns) : (blank ns l).getD t undefV = l.getD t undefV := by
  simp only [List.getD_eq_getElem?_getD, blank_in h]
structure Part (P : Program) (N : Nat) (ι0 : Ren) (h0 : Heap) (w0 : World) (nxt : Nat) (ι : Ren) (w : World) : Prop where
  le : ι0.le ι
  own : ∀ b L, b % 2 = 0 → ι b = .live L → N ≤ L.b ∧ L.b < w.heap.size
  ro : ∀ b L, b % 2 = 1 → ι b = .live L → L.b < N
  inj : ∀ b c L K, b % 2 = 0 → c % 2 = 0 → b ≠ c → ι b = .live L → ι c = .live K → L.b ≠ K.b
  size : N ≤ w.heap.size
  same : ∀ b, (∀ k, h0.next ≤ k → k < nxt → b ≠ 2 * k) → ι b = ι0 b ∨ (h0.can b ∧ ι b = .dead ∧ ∃ L, ι0 b = .live L)
  frame : ∀ k, k < w0.heap.size → (∀ b L, h0.can b → ι0 b = .live L → L.b ≠ k) → w.heap[k]? = w0.heap[k]?
  fresh : ∀ k L, h0.next ≤ k → k < nxt → ι (2 * k) = .live L → w0.heap.size ≤ L.b ∨ ∃ b K, h0.can b ∧ ι0 b = .live K ∧ K.b = L.b
  grow : w0.heap.size ≤ w.heap.size
  os : w.os = w0.os
  tape : w.tape = w0.tape
  output : w.output = w0.output
theorem Res.part {N M : Nat} {ι0 ι : Ren} {h0 h : Heap} {w0 w : World} (r : Res P N M ι0 h0 w0 ι h w) : Part P N ι0 h0 w0 h.next ι w :=
  ⟨r.le, r.sim.own, r.sim.ro, r.sim.inj, r.sim.size, r.same, r.frame, r.fresh, r.grow, r.os, r.tape, r.output⟩
theorem Part.more {N : Nat} {ι0 ι : Ren} {h0 : Heap} {w0 w : World} {n n' : Nat} (p : Part P N ι0 h0 w0 n ι w) (h : n ≤ n') (hu : ∀ k, n ≤ k → k < n' → ι (2 * k) = .unborn) : Part P N ι0 h0 w0 n' ι w :=
  ⟨p.le, p.own, p.ro, p.inj, p.size, fun b hb => p.same b fun k k1 k2 => hb k k1 (Nat.lt_of_lt_of_le k2 h), p.frame, fun k L k1 k2 hl => (Nat.lt_or_ge k n).elim (fun e => p.fresh k L k1 e hl) (fun e => by rw [hu k e k2] at hl; cases hl), p.grow, p.os, p.tape, p.output⟩
theorem Part.res {N M : Nat} {ι0 ι : Ren} {h0 h : Heap} {w0 w : World} (p : Part P N ι0 h0 w0 h.next ι w) (hlive : ∀ b o, h.get b = some o → ∃ L, ι b = .live L ∧ OR P ι b o L w) (hun : ∀ k, h.next ≤ k → k < M → ι (2 * k) = .unborn) (hh : ∀ q ∈ h.hid, q.2 ≤ h.next)
    (hn : h0.next ≤ h.next) (hf : h.floor = h0.floor) (hm : h.may = h0.may) (hs : ∀ b, (h.get b).isSome = true → (∀ k, h0.next ≤ k → k < h.next → b ≠ 2 * k) → (h0.get b).isSome = true) : Res P N M ι0 h0 w0 ι h w :=
  ⟨⟨hlive, hun, p.own, p.ro, p.inj, p.size, hh⟩, p.le, hn, hf, hm, hs, p.same, p.frame, p.fresh, p.grow, p.os, p.tape, p.output⟩
def LastAt (P : Program) (ops : Array Oper) (plan : List (List Nat)) (F : Nat → Tr) (L : Nat → Bool) (c m x i : Nat) : Prop :=
  c ≤ i ∧ i < m ∧ L i = true ∧ Touch P ops plan F i x ∧ ∀ k, c ≤ k → k < m → L k = true → Touch P ops plan F k x → k ≤ i
def NoneAt (P : Program) (ops : Array Oper) (plan : List (List Nat)) (F : Nat → Tr) (L : Nat → Bool) (c m x : Nat) : Prop :=
  ∀ k, c ≤ k → k < m → L k = true → ¬ Touch P ops plan F k x
structure Inv (P : Program) (N M : Nat) (ops : Array Oper) (plan : List (List Nat)) (F : Nat → Tr) (ι0 : Ren) (w0 : World) (ds : List Deferred) (L : Nat → Bool) (c m : Nat) (ι : Ren) (a : Act) (w : World) : Prop where
  cm : c ≤ m
  mn : m ≤ ops.size
  nob : ∀ k, c ≤ k → k < m → (F k).k ≠ .bar
  last : m = ops.size ∨ (F m).k = .bar
  frc : (F c).fr = []
  low : ∀ k, k < c → (F k).k ≠ .quiet → L k = true
  high : ∀ k, m ≤ k → k < ops.size → (F k).k ≠ .quiet → L k = false
  down : ∀ i, L i = true → ∀ j ∈ ancAt (drawnC P ops) i, L j = true
  inn : ∀ i, L i = true → i < ops.size
  len : a.tmps.size = (F 0).tm.length
  tmp : ∀ t v', a.tmps[t]? = some v' → (∃ i, L i = true ∧ dstAt (drawnC P ops) i = some t ∧ (∀ k, L k = true → dstAt (drawnC P ops) k = some t → k ≤ i) ∧ VR ι (F i).v v') ∨
    ((∀ i, L i = true → dstAt (drawnC P ops) i ≠ some t) ∧ ∃ v, (F 0).tm[t]? = some v ∧ VR ι v v')
  part : Part P N ι0 (F 0).h w0 (F m).h.next ι w
  mem1 : ∀ x i o, hides (F 0).h.hid x = false → LastAt P ops plan F L c m x i → look (F (i + 1)).h.mem x = some o → ∃ K, ι (2 * x) = .live K ∧ OR P ι (2 * x) o K w
  mem0 : ∀ x o, hides (F 0).h.hid x = false → NoneAt P ops plan F L c m x → x < (F c).h.next → look (F c).h.mem x = some o → ∃ K, ι (2 * x) = .live K ∧ OR P ι (2 * x) o K w
  odd : ∀ b o, b % 2 = 1 → (F 0).h.get b = some o → ∃ K, ι b = .live K ∧ OR P ι b o K w
  unb : ∀ j, c ≤ j → j < m → L j = false → ∀ k, (F j).h.next ≤ k → k < (F (j + 1)).h.next → ι (2 * k) = .unborn
  top : ∀ k, (F m).h.next ≤ k → k < M → ι (2 * k) = .unborn
  dfr : a.defers = ds
variable {N M : Nat} {ι0 : Ren} {w0 : World} {ds : List Deferred} {L : Nat → Bool} {c m : Nat} {ι : Ren} {a : Act} {w : World}
theorem Run.fixedAt (R : Run P call ops plan F) {i j t : Nat} (hi : i < ops.size) (hj : j < ops.size) (hne : i ≠ j) (hd : Ideal.dstAt (drawnC P ops) i = some t) (ht : t ∈ namesAt ops.toList (drawnC P ops) j) : i ∈ ancAt (drawnC P ops) j ∨ j ∈ ancAt (drawnC P ops) i := by
  rcases (R.okAt hi).2.2 j hj hne with e | e | ⟨e, _⟩
  · exact .inr e
  · exact .inl e
  · exact absurd ht (e t hd)
theorem Inv.name (R : Run P call ops plan F) (I : Inv P N M ops plan F ι0 w0 ds L c m ι a w) {j t : Nat} (hj : j < ops.size) (hL : L j = false) (hdown : ∀ i ∈ ancAt (drawnC P ops) j, L i = true) (ht : t ∈ namesAt ops.toList (drawnC P ops) j) {v' : Value} (hv : a.tmps[t]? = some v') :
    ∃ v, (F j).tm[t]? = some v ∧ VR ι v v' := by
  have htl : t < (F 0).tm.length := by rw [← I.len]; exact (Array.getElem?_eq_some_iff.1 hv).1
  rcases I.tmp t v' hv with ⟨i, h1, h2, h3, h4⟩ | ⟨h1, v, h2, h3⟩
  · have hin := I.inn i h1
    have hne : i ≠ j := fun e => by rw [e, hL] at h1; cases h1
    have hia : i ∈ ancAt (drawnC P ops) j := by
      rcases R.fixedAt hin hj hne h2 ht with e | e
      · exact e
      · have := I.down i h1 j e; rw [hL] at this; cases this
    refine ⟨(F i).v, R.tm_some (R.anc_lt hia) (Nat.le_of_lt hj) h2 (fun k hk1 hk2 hk3 => ?_) htl, h4⟩
    rcases R.fixedAt (i := k) (by omega) hj (by omega) hk3 ht with e | e
    · have := h3 k (hdown k e) hk3; omega
    · have := R.anc_lt e; omega
  · refine ⟨v, ?_, h3⟩
    rw [R.tm_keep (Nat.zero_le j) (Nat.le_of_lt hj) fun k _ hk2 hk3 => ?_]
    · exact h2
    · rcases R.fixedAt (i := k) (by omega) hj (by omega) hk3 ht with e | e
      · exact h1 k (hdown k e) hk3
      · have := R.anc_lt e; omega
theorem Inv.tmps (R : Run P call ops plan F) (I : Inv P N M ops plan F ι0 w0 ds L c m ι a w) {j : Nat} (hj : j < ops.size) (hL : L j = false) (hself : ∀ t, Ideal.dstAt (drawnC P ops) j = some t → t ∈ namesAt ops.toList (drawnC P ops) j) {ι1 : Ren} (hle : ι.le ι1) {v' : Value} (hv : VR ι1 (F j).v v') :
    (a.put ops[j].dst v').tmps.size = (F 0).tm.length ∧
    ∀ t u', (a.put ops[j].dst v').tmps[t]? = some u' → (∃ i, (decide (i = j) || L i) = true ∧ Ideal.dstAt (drawnC P ops) i = some t ∧ (∀ k, (decide (k = j) || L k) = true → Ideal.dstAt (drawnC P ops) k = some t → k ≤ i) ∧ VR ι1 (F i).v u') ∨
      ((∀ i, (decide (i = j) || L i) = true → Ideal.dstAt (drawnC P ops) i ≠ some t) ∧ ∃ v, (F 0).tm[t]? = some v ∧ VR ι1 v u') := by
  have hdj := R.dstAt hj
  have old : ∀ t u', a.tmps[t]? = some u' → ops[j].dst ≠ some t → (∃ i, (decide (i = j) || L i) = true ∧ Ideal.dstAt (drawnC P ops) i = some t ∧ (∀ k, (decide (k = j) || L k) = true → Ideal.dstAt (drawnC P ops) k = some t → k ≤ i) ∧ VR ι1 (F i).v u') ∨
      ((∀ i, (decide (i = j) || L i) = true → Ideal.dstAt (drawnC P ops) i ≠ some t) ∧ ∃ v, (F 0).tm[t]? = some v ∧ VR ι1 v u') := by
    intro t u' hu hne
    have hno : ∀ k, (decide (k = j) || L k) = true → Ideal.dstAt (drawnC P ops) k = some t → L k = true := fun k hk hd => by
      simp only [Bool.or_eq_true, decide_eq_true_eq] at hk
      rcases hk with e | e
      · subst e; exact absurd (hdj.symm.trans hd) hne
      · exact e
    rcases I.tmp t u' hu with ⟨i, h1, h2, h3, h4⟩ | ⟨h1, v, h2, h3⟩
    · exact .inl ⟨i, by simp [h1], h2, fun k hk hd => h3 k (hno k hk hd) hd, h4.mono hle⟩
    · exact .inr ⟨fun i hi hd => h1 i (hno i hi hd) hd, v, h2, h3.mono hle⟩
  cases hd : ops[j].dst with
  | none =>
    simp only [Act.put]
    exact ⟨I.len, fun t u' hu => old t u' hu (by rw [hd]; simp)⟩
  | some d =>
    simp only [Act.put]
    refine ⟨by simp [I.len], fun t u' hu => ?_⟩
    by_cases htd : t = d
    · subst htd
      have hlt : t < a.tmps.size := by have := (Array.getElem?_eq_some_iff.1 hu).1; simpa using this
      simp only [Array.getElem?_setIfInBounds_self, hlt, if_true, Option.some.injEq] at hu
      subst hu
      refine .inl ⟨j, by simp, by rw [hdj, hd], fun k hk hkd => ?_, hv⟩
      simp only [Bool.or_eq_true, decide_eq_true_eq] at hk
      rcases hk with e | e
      · omega
      · have hne : k ≠ j := fun e2 => by rw [e2, hL] at e; cases e
        rcases R.fixedAt (dst_lt hkd) hj hne hkd (hself t (by rw [hdj, hd])) with e2 | e2
        · exact Nat.le_of_lt (R.anc_lt e2)
        · have := I.down k e j e2; rw [hL] at this; cases this
    · rw [Array.getElem?_setIfInBounds_ne (Ne.symm htd)] at hu
      exact old t u' hu (by rw [hd]; intro e; cases e; exact htd rfl)
end
end Go.Ideal
namespace Go.Ideal
open Go
structure Le (a b : Heap) : Prop where
  next : a.next = b.next
  mem : a.mem = b.mem
  ro : a.ro = b.ro
  can : ∀ k, (a.floor ≤ k ∨ k ∈ a.may) → (b.floor ≤ k ∨ k ∈ b.may)
  hid : ∀ k, hides b.hid k = true → hides a.hid k = true
section
variable {a b : Heap}
theorem Le.own (L : Le a b) {k : Nat} {o : IObj} (h : a.own k = some o) : b.own k = some o := by
  unfold Heap.own at *
  split at h
  · cases h
  · rename_i hn
    have : ¬ hides b.hid k = true := fun e => hn (L.hid k e)
    rw [if_neg this, ← L.mem]
    exact h
theorem Le.get (L : Le a b) {x : Nat} {o : IObj} (h : a.get x = some o) : b.get x = some o := by
  unfold Heap.get at *
  split at h
  · rename_i e
    rw [if_pos e, ← L.ro]; exact h
  · rename_i e
    rw [if_neg e]; exact L.own h
theorem Le.upd (L : Le a b) (l : List (Nat × Option IObj)) : Le { a with mem := l } { b with mem := l } := ⟨L.next, rfl, L.ro, L.can, L.hid⟩
theorem Le.put (L : Le a b) {x : Nat} {o : Option IObj} {a' : Heap} (h : a.put x o = some a') : ∃ b', b.put x o = some b' ∧ Le a' b' := by
  unfold Heap.put at *
  split at h
  · rename_i c
    cases h
    refine ⟨{ b with mem := Ideal.upd b.mem (x / 2) o }, ?_, ?_⟩
    · rw [if_pos]
      refine ⟨c.1, L.can _ c.2.1, ?_⟩
      have := c.2.2
      cases e : a.own (x / 2) with
      | none => rw [e] at this; cases this
      | some q => rw [L.own e]; rfl
    · rw [L.mem]
      exact L.upd _
  · cases h
theorem Le.alloc (L : Le a b) (o : IObj) : Le (a.alloc o) (b.alloc o) := ⟨by show a.next + 1 = b.next + 1; rw [L.next], by show _ :: a.mem = _ :: b.mem; rw [L.mem, L.next], L.ro, L.can, L.hid⟩
theorem Le.read (L : Le a b) {p : Addr} {n : Nat} {cs : List Value} (h : a.read p n = some cs) : b.read p n = some cs := by
  unfold Heap.read at *
  split at h
  · rename_i e
    rw [L.get e]; exact h
  · cases h
theorem Le.write (L : Le a b) {p : Addr} {vs : List Value} {a' : Heap} (h : a.write p vs = some a') : ∃ b', b.write p vs = some b' ∧ Le a' b' := by
  unfold Heap.write at *
  split at h
  · rename_i e
    rw [L.get e]
    simp only
    split at h
    · rename_i c
      rw [if_pos c]
      exact L.put h
    · cases h
  · cases h
theorem Le.firstN (L : Le a b) {z n : Nat} {v : Value} {cs : List Value} (h : firstN a z n v = some cs) : firstN b z n v = some cs := by
  unfold Ideal.firstN at *
  split at h
  · split at h
    · rename_i e; rw [if_pos e]; exact h
    · rename_i e; rw [if_neg e]; exact L.read h
  · exact h
  · exact h
  · cases h
theorem Le.getMap (L : Le a b) {v : Value} {r : List Ent × Nat × Option Nat} (h : getMap a v = some r) : getMap b v = some r := by
  unfold Ideal.getMap at *
  split at h
  · exact h
  · split at h
    · rename_i e
      rw [L.get e]; exact h
    · cases h
  · cases h
theorem Le.imap (L : Le a b) {agg : Option (List CK)} {m k : Value} {r : List Ent × Nat × Option Nat × Option (Nat × Value)} (h : imap a agg m k = some r) : imap b agg m k = some r := by
  unfold Ideal.imap at *
  split at h
  · rename_i e
    rw [if_pos e]
    split at h
    · rename_i e2
      rw [L.getMap e2]; exact h
    · cases h
  · cases h
theorem Le.isCells (L : Le a b) {x : Nat} (h : isCells a x = true) : isCells b x = true ∧ a.get x = b.get x := by
  unfold Ideal.isCells at h
  split at h
  · rename_i e
    have := L.get e
    exact ⟨by unfold Ideal.isCells; rw [this], by rw [e, this]⟩
  · cases h
theorem Le.append (L : Le a b) {z bytes : Nat} {s x : Value} {v : Value} {a' : Heap} (h : iappend a z bytes s x = some (v, a')) : ∃ b', iappend b z bytes s x = some (v, b') ∧ Le a' b' := by
  unfold iappend at *
  split at h
  · rename_i base len cap n hs
    simp only [hs]
    split at h
    · rename_i hn
      rw [if_pos hn]
      split at h
      · cases h; exact ⟨b, rfl, L⟩
      · cases h; exact ⟨b, rfl, L⟩
      · cases h
    · rename_i hn
      rw [if_neg hn]
      split at h
      · cases h
      · rename_i new hnew
        rw [L.firstN hnew]
        simp only
        split at h
        · rename_i hc
          rw [if_pos hc]
          split at h
          · split at h
            · rename_i hw
              cases h
              obtain ⟨b', e, l⟩ := L.write hw
              rw [e]
              exact ⟨b', rfl, l⟩
            · cases h
          · cases h
        · rename_i hc
          rw [if_neg hc]
          split at h
          · rename_i hr
            rw [if_pos hr]
            split at h
            · cases h
            · rename_i old hold
              rw [L.firstN hold]
              simp only
              split at h
              · cases h
                exact ⟨_, by rw [L.next], L.alloc _⟩
              · rename_i ad
                split at h
                · cases h
                · rename_i hsp
                  have hic : Ideal.isCells a ad.block = true := by
                    simp only [Bool.or_eq_true, Bool.not_eq_true', not_or, Bool.not_eq_false] at hsp
                    exact hsp.2
                  obtain ⟨q1, q2⟩ := L.isCells hic
                  have hre : reaches b z ad cap = reaches a z ad cap := by unfold reaches; rw [q2]
                  rw [hre]
                  have hsp2 : (!spotOk z ad || !Ideal.isCells b ad.block) ≠ true := by
                    rw [q1]; rw [hic] at hsp; exact hsp
                  rw [if_neg hsp2]
                  split at h
                  · rename_i hr2
                    rw [if_pos hr2]
                    split at h
                    · cases h
                    · rename_i ho
                      rw [if_neg ho]
                      split at h
                      · rename_i hp
                        cases h
                        obtain ⟨b', e, l⟩ := L.put hp
                        rw [e]
                        exact ⟨_, by rw [l.next], l.alloc _⟩
                      · cases h
                  · rename_i hr2
                    rw [if_neg hr2]
                    cases h
                    exact ⟨_, by rw [L.next], L.alloc _⟩
          · cases h
  · cases h
theorem Le.copy (L : Le a b) {z : Nat} {d s : Value} {v : Value} {a' : Heap} (h : icopy a z d s = some (v, a')) : ∃ b', icopy b z d s = some (v, b') ∧ Le a' b' := by
  unfold icopy at *
  split at h
  · rename_i base dlen cap slen hs
    simp only [hs]
    simp only at h
    split at h
    · rename_i hn
      rw [if_pos hn]
      split at h
      · cases h; exact ⟨b, rfl, L⟩
      · cases h; exact ⟨b, rfl, L⟩
      · cases h
    · rename_i hn
      rw [if_neg hn]
      split at h
      · rename_i e1
        rw [L.firstN e1]
        simp only
        split at h
        · rename_i hw
          cases h
          obtain ⟨b', e, l⟩ := L.write hw
          rw [e]
          exact ⟨b', rfl, l⟩
        · cases h
      · cases h
  · cases h
end
end Go.Ideal
namespace Go.Ideal
open Go
section
variable {a b : Heap}
theorem Le.ofMap {α : Type} {f : α → Value} {o : Option α} {v : Value} {a' : Heap} (L : Le a b) (h : T.ofOpt (o.map fun x => (f x, a)) = .ret (v, a')) : ∃ b', T.ofOpt (o.map fun x => (f x, b)) = .ret (v, b') ∧ Le a' b' := by
  cases o with
  | none => cases h
  | some x => cases h; exact ⟨b, rfl, L⟩
theorem Le.step (L : Le a b) {r m since c : Nat} {seen : List Nat} {x : Option (Option Ent)} {v : Value} {a' : Heap} (h : stepOf a r m since seen c x = .ret (v, a')) : ∃ b', stepOf b r m since seen c x = .ret (v, b') ∧ Le a' b' := by
  unfold stepOf at *
  split at h
  · split at h
    · rename_i hp
      cases h
      obtain ⟨b', e, l⟩ := L.put hp
      exact ⟨b', by simp only [e], l⟩
    · cases h
  · cases h; exact ⟨b, rfl, L⟩
  · cases h
theorem Le.nextOf (L : Le a b) {r m since c : Nat} {seen : List Nat} {old new : List Ent} {v : Value} {a' : Heap} (h : nextOf a r m since seen c old new = .ret (v, a')) : ∃ b', nextOf b r m since seen c old new = .ret (v, b') ∧ Le a' b' := by
  unfold Ideal.nextOf at *
  split at h
  · rename_i e
    rw [if_pos e]
    exact L.step h
  · cases h
theorem Le.run (L : Le a b) (tm : List Value) (op : IOp) {v : Value} {a' : Heap} (h : op.run tm a = .ret (v, a')) : ∃ b', op.run tm b = .ret (v, b') ∧ Le a' b' := by
  cases op <;> simp only [IOp.run] at h ⊢
  case append =>
    cases e : iappend a _ _ _ _ with
    | none => rw [e] at h; cases h
    | some p =>
      rw [e] at h; cases h
      obtain ⟨b', e2, l⟩ := L.append e
      exact ⟨b', by rw [e2]; rfl, l⟩
  case copy =>
    cases e : icopy a _ _ _ with
    | none => rw [e] at h; cases h
    | some p =>
      rw [e] at h; cases h
      obtain ⟨b', e2, l⟩ := L.copy e
      exact ⟨b', by rw [e2]; rfl, l⟩
  case bin => exact L.ofMap h
  case un => exact L.ofMap h
  case eqAgg => exact L.ofMap h
  case minmax isMax args =>
    revert h
    generalize args.map (Opd.eval tm) = xs
    intro h
    rcases xs with _ | ⟨x, r⟩
    · cases h
    · cases x <;> first | (cases h; done) | exact L.ofMap h
  case entryMap =>
    split at h
    · rename_i e0
      split at h
      · rename_i e1
        have r1 := L.get e1
        split at h
        · rename_i e3 e2
          have r2 := L.get e2
          split at h
          · rename_i hc
            split at h
            · rename_i e4
              cases h
              exact ⟨b, by simp only [r1, e3, r2, hc, if_true, e4], L⟩
            · cases h
          · cases h
        · cases h
      · cases h
    · cases h
  case nextMap =>
    split at h
    · rename_i e0
      split at h
      · rename_i e1
        have r1 := L.get e1
        cases h; exact ⟨b, by simp only [e0, r1], L⟩
      · rename_i e1
        have r1 := L.get e1
        split at h
        · rename_i e2
          have r2 := L.get e2
          simp only [e0, r1, r2]
          split at h
          · cases h
          · rename_i e3
            rw [if_neg e3]
            exact L.nextOf h
        · cases h
      · cases h
    · cases h
  all_goals
    repeat' (first | (cases h; done) | split at h)
  all_goals
    first
      | (cases h; exact ⟨b, rfl, L⟩)
      | (cases h; refine ⟨b, ?_, L⟩; simp only [*, if_true, if_false, ite_true, ite_false, and_self, not_false_eq_true, not_true_eq_false, Bool.false_eq_true, reduceIte]; done)
      | (cases h; refine ⟨b.alloc _, ?_, L.alloc _⟩; simp only [*, if_true, if_false, ite_true, ite_false, and_self, not_false_eq_true, not_true_eq_false, Bool.false_eq_true, reduceIte, L.next]; done)
      | (have r1 := L.read (by assumption); cases h; refine ⟨b, ?_, L⟩; simp only [*, if_true, if_false, ite_true, ite_false, and_self, not_false_eq_true, not_true_eq_false, Bool.false_eq_true, reduceIte]; done)
      | (have r1 := L.imap (by assumption); cases h; refine ⟨b, ?_, L⟩; simp only [*, if_true, if_false, ite_true, ite_false, and_self, not_false_eq_true, not_true_eq_false, Bool.false_eq_true, reduceIte]; done)
      | (have r1 := L.getMap (by assumption); cases h; refine ⟨b, ?_, L⟩; simp only [*, if_true, if_false, ite_true, ite_false, and_self, not_false_eq_true, not_true_eq_false, Bool.false_eq_true, reduceIte]; done)
      | (have r1 := L.get (by assumption); cases h; refine ⟨b, ?_, L⟩; simp only [*, if_true, if_false, ite_true, ite_false, and_self, not_false_eq_true, not_true_eq_false, Bool.false_eq_true, reduceIte]; done)
      | (have r1 := L.get (by assumption); cases h; refine ⟨b.alloc _, ?_, L.alloc _⟩; simp only [*, if_true, if_false, ite_true, ite_false, and_self, not_false_eq_true, not_true_eq_false, Bool.false_eq_true, reduceIte, L.next]; done)
      | (obtain ⟨b', e, l⟩ := L.write (by assumption); cases h; refine ⟨b', ?_, l⟩; simp only [*, if_true, if_false, ite_true, ite_false, and_self, not_false_eq_true, not_true_eq_false, Bool.false_eq_true, reduceIte]; done)
      | (have r1 := L.imap (by assumption); obtain ⟨b', e, l⟩ := L.put (by assumption); cases h; refine ⟨b', ?_, l⟩; simp only [*, if_true, if_false, ite_true, ite_false, and_self, not_false_eq_true, not_true_eq_false, Bool.false_eq_true, reduceIte]; done)
      | (have r1 := L.getMap (by assumption); obtain ⟨b', e, l⟩ := L.put (by assumption); cases h; refine ⟨b', ?_, l⟩; simp only [*, if_true, if_false, ite_true, ite_false, and_self, not_false_eq_true, not_true_eq_false, Bool.false_eq_true, reduceIte]; done)
      | (have r1 := L.get (by assumption); obtain ⟨b', e, l⟩ := L.put (by assumption); cases h; refine ⟨b', ?_, l⟩; simp only [*, if_true, if_false, ite_true, ite_false, and_self, not_false_eq_true, not_true_eq_false, Bool.false_eq_true, reduceIte]; done)
      | skip
end
end Go.Ideal
namespace Go.Ideal
open Go
def CallLe (call : Caller) : Prop := ∀ f as (a b : Heap) v a', Le a b → b.floor ≤ b.next → call f as a = .ret (v, a') → ∃ b', call f as b = .ret (v, b') ∧ Le a' b'
theorem T.ret_bind {α β : Type} {x : T α} {f : α → T β} {q : β} (h : x.bind f = .ret q) : ∃ p, x = .ret p ∧ f p = .ret q := by
  cases x with
  | ret p => exact ⟨p, rfl, h⟩
  | fail => cases h
  | ask n k => cases h
section
variable {call : Caller} {a b : Heap}
theorem exec_le (hc : CallLe call) (L : Le a b) (hf : b.floor ≤ b.next) (tm : List Value) (op : IOp) {v : Value} {a' : Heap} (h : op.exec call tm a = .ret (v, a')) : ∃ b', op.exec call tm b = .ret (v, b') ∧ Le a' b' := by
  rcases exec_eq call tm a op with ⟨f, as, rfl⟩ | e
  · exact hc _ _ _ _ _ _ L hf h
  · rw [e] at h
    obtain ⟨b', e2, l⟩ := L.run tm op h
    refine ⟨b', ?_, l⟩
    rcases exec_eq call tm b op with ⟨f, as, rfl⟩ | e3
    · cases h
    · rw [e3]; exact e2
theorem keeps_ret (hk : CallKeeps call) {tm : List Value} {op : IOp} {v : Value} {b' : Heap} (h : op.exec call tm b = .ret (v, b')) : Keeps b b' := by
  have := exec_keeps hk tm b op
  rw [h] at this
  exact this
theorem Keeps.fl {h h' : Heap} (k : Keeps h h') (hf : h.floor ≤ h.next) : h'.floor ≤ h'.next := by rw [k.floor]; exact Nat.le_trans hf k.next
theorem seen_le (as plan : List (List Nat)) (i : Nat) (fr : List (Nat × Nat × Nat)) (L : Le a b) (hf : b.floor ≤ b.next) : Le (seenBy as plan i fr a) (seenBy as plan i fr b) := by
  refine ⟨L.next, L.mem, L.ro, fun k hk => ?_, fun k hk => ?_⟩
  · rcases hk with hk | hk
    · exact Or.inl (by show b.next ≤ k; rw [← L.next]; exact hk)
    · refine Or.inr ?_
      simp only [seenBy, List.mem_filter, Bool.or_eq_true, decide_eq_true_eq, List.contains_iff_mem] at hk ⊢
      exact ⟨hk.1, L.can k hk.2⟩
  · simp only [seenBy, hides, List.any_append, Bool.or_eq_true, L.next] at hk ⊢
    rcases hk with hk | hk
    · exact Or.inl hk
    · exact Or.inr (L.hid k hk)
theorem seen_self (as plan : List (List Nat)) (i : Nat) (fr : List (Nat × Nat × Nat)) (hf : b.floor ≤ b.next) : Le (seenBy as plan i fr b) b := by
  refine ⟨rfl, rfl, rfl, fun k hk => ?_, fun k hk => ?_⟩
  · rcases hk with hk | hk
    · exact Or.inl (Nat.le_trans hf hk)
    · simp only [seenBy, List.mem_filter, Bool.or_eq_true, decide_eq_true_eq, List.contains_iff_mem] at hk
      exact hk.2
  · simp only [seenBy, hides, List.any_append, Bool.or_eq_true]
    exact Or.inr hk
theorem back_le {a' b' : Heap} (L : Le a b) (l : Le a' b') : Le { a' with floor := a.floor, may := a.may, hid := a.hid } { b' with floor := b.floor, may := b.may, hid := b.hid } := ⟨l.next, l.mem, l.ro, L.can, L.hid⟩
theorem drawn_le (hc : CallLe call) (hk : CallKeeps call) (as plan : List (List Nat)) : ∀ (ops : List IOper) (i : Nat) (fr : List (Nat × Nat × Nat)) (tm : List Value) (a b : Heap) (tm' : List Value) (a' : Heap), Le a b → b.floor ≤ b.next → execDrawn call as plan ops i fr tm a = .ok (tm', a') → ∃ b', execDrawn call as plan ops i fr tm b = .ok (tm', b') ∧ Le a' b'
  | [], _, _, _, a, b, tm', a', L, _, h => by
    simp only [execDrawn, Except.ok.injEq, Prod.mk.injEq] at h
    obtain ⟨rfl, rfl⟩ := h
    exact ⟨b, rfl, L⟩
  | o :: r, i, fr, tm, a, b, tm', a', L, hf, h => by
    simp only [execDrawn] at h ⊢
    split at h
    · rename_i hw
      rw [if_pos hw]
      split at h
      · rename_i hp
        rw [if_pos hp]
        split at h
        · rename_i p he
          have he' := T.out_eq he
          obtain ⟨v, a1⟩ := p
          obtain ⟨b1, e2, _⟩ := L.run tm o.op he'
          rw [e2]
          exact drawn_le hc hk as plan r _ _ _ a b _ _ L hf h
        · cases h
      · rename_i hp
        rw [if_neg hp]
        split at h
        · rename_i hb
          rw [if_pos hb]
          split at h
          · rename_i p he
            have he' := T.out_eq he
            obtain ⟨v, a1⟩ := p
            obtain ⟨b1, e2, l⟩ := exec_le hc L hf tm o.op he'
            rw [e2]
            exact drawn_le hc hk as plan r _ _ _ a1 b1 _ _ l ((keeps_ret hk e2).fl hf) h
          · cases h
        · rename_i hb
          rw [if_neg hb]
          split at h
          · rename_i p he
            have he' := T.out_eq he
            obtain ⟨v, a1⟩ := p
            obtain ⟨b1, e2, l⟩ := exec_le hc (seen_le as plan i fr L hf) (Nat.le_refl _) tm o.op he'
            rw [e2]
            have kp := (keeps_ret hk e2).next
            have h' : execDrawn call as plan r (i + 1) (if a.next < a1.next then (i, a.next, a1.next) :: fr else fr) (putDst tm o.dst v) { a1 with floor := a.floor, may := a.may, hid := a.hid } = .ok (tm', a') := h
            have e3 : (if a.next < a1.next then (i, a.next, a1.next) :: fr else fr) = (if b.next < b1.next then (i, b.next, b1.next) :: fr else fr) := by rw [L.next, l.next]
            rw [e3] at h'
            exact drawn_le hc hk as plan r _ _ _ _ { b1 with floor := b.floor, may := b.may, hid := b.hid } _ _ (back_le L l) (Nat.le_trans hf kp) h'
          · cases h
    · rename_i hw
      rw [if_neg hw]
      exact drawn_le hc hk as plan r _ _ _ a b _ _ L hf h
theorem same_heap {x y : Heap} (l : Le x y) (f : x.floor = y.floor) (m : x.may = y.may) (hd : x.hid = y.hid) : x = y := by
  obtain ⟨a, b, c, d, e, g⟩ := x
  obtain ⟨a', b', c', d', e', g'⟩ := y
  have h1 := l.next
  have h2 := l.mem
  have h3 := l.ro
  simp only at h1 h2 h3 f m hd
  rw [h1, h2, h3, f, m, hd]
theorem pure_same (tm : List Value) (op : IOp) (hp : op.isPure = true) {v : Value} {b' : Heap} (h : op.run tm b = .ret (v, b')) : b' = b := (pure_any (h' := b) hp h).2
theorem drawn_plain (hc : CallLe call) (hk : CallKeeps call) (as plan : List (List Nat)) : ∀ (ops : List IOper) (i : Nat) (fr : List (Nat × Nat × Nat)) (tm : List Value) (b : Heap) (p : List Value × Heap), b.floor ≤ b.next → execDrawn call as plan ops i fr tm b = .ok p → execOps call ops tm b = .ret p
  | [], _, _, _, b, p, _, h => by
    simp only [execDrawn, Except.ok.injEq] at h
    rw [h.symm]; rfl
  | o :: r, i, fr, tm, b, p, hf, h => by
    simp only [execDrawn] at h
    simp only [execOps]
    split at h
    · rename_i hw
      rw [if_pos hw]
      split at h
      · rename_i hp
        split at h
        · rename_i q he
          have he' := T.out_eq he
          obtain ⟨v, b1⟩ := q
          have e1 := pure_same tm o.op hp he'
          subst e1
          have e2 : o.op.exec call tm b1 = .ret (v, b1) := by
            rcases exec_eq call tm b1 o.op with ⟨f, as, e⟩ | e
            · rw [e] at hp; cases hp
            · rw [e]; exact he'
          rw [e2]
          exact drawn_plain hc hk as plan r _ _ _ b1 _ hf h
        · cases h
      · split at h
        · split at h
          · rename_i q he
            have he' := T.out_eq he
            obtain ⟨v, b1⟩ := q
            rw [he']
            exact drawn_plain hc hk as plan r _ _ _ b1 _ ((keeps_ret hk he').fl hf) h
          · cases h
        · split at h
          · rename_i q he
            have he' := T.out_eq he
            obtain ⟨v, b1⟩ := q
            obtain ⟨b2, e2, l⟩ := exec_le hc (seen_self as plan i fr hf) hf tm o.op he'
            have kp := keeps_ret hk e2
            have e3 : ({ b1 with floor := b.floor, may := b.may, hid := b.hid } : Heap) = b2 := same_heap ⟨l.next, l.mem, l.ro, fun k h => by rw [kp.floor, kp.may]; exact h, fun k h => by rw [kp.hid] at h; exact h⟩ kp.floor.symm kp.may.symm kp.hid.symm
            rw [e2]
            rw [e3] at h
            exact drawn_plain hc hk as plan r _ _ _ b2 _ (kp.fl hf) h
          · cases h
    · rename_i hw
      rw [if_neg hw]
      exact drawn_plain hc hk as plan r _ _ _ b _ hf h
def StLe (x y : St) : Prop := x.tmps = y.tmps ∧ x.defers = y.defers ∧ Le x.h y.h
def CodeLe (f : St → T (IExit × St)) : Prop := ∀ (x y : St) e x', StLe x y → y.h.floor ≤ y.h.next → f x = .ret (e, x') → ∃ y', f y = .ret (e, y') ∧ StLe x' y' ∧ Keeps y.h y'.h ∧ Keeps x.h x'.h
theorem execOps_le (hc : CallLe call) (hk : CallKeeps call) : ∀ (ops : List IOper) (tm : List Value) (a b : Heap) tm' a', Le a b → b.floor ≤ b.next → execOps call ops tm a = .ret (tm', a') → ∃ b', execOps call ops tm b = .ret (tm', b') ∧ Le a' b'
  | [], tm, a, b, tm', a', L, _, h => by
    simp only [execOps, T.ret.injEq, Prod.mk.injEq] at h
    obtain ⟨rfl, rfl⟩ := h
    exact ⟨b, rfl, L⟩
  | o :: r, tm, a, b, tm', a', L, hf, h => by
    simp only [execOps] at h ⊢
    split at h
    · rename_i hw
      rw [if_pos hw]
      obtain ⟨⟨v, a1⟩, h1, h2⟩ := T.ret_bind h
      obtain ⟨b1, e2, l⟩ := exec_le hc L hf tm o.op h1
      rw [e2]
      exact execOps_le hc hk r _ a1 b1 _ _ l ((keeps_ret hk e2).fl hf) h2
    · rename_i hw
      rw [if_neg hw]
      exact execOps_le hc hk r _ a b _ _ L hf h
theorem drawnRun_le (hc : CallLe call) (hk : CallKeeps call) {ops : List IOper} {tm tm' : List Value} {a b a' : Heap} (L : Le a b) (hf : b.floor ≤ b.next) (h : drawnRun call ops tm a = some (tm', a')) : ∃ b', drawnRun call ops tm b = some (tm', b') ∧ Le a' b' := by
  obtain ⟨plan, hp⟩ := drawnRun_some h
  obtain ⟨b1, e1, l1⟩ := drawn_le hc hk _ plan ops _ _ _ a b _ _ L hf hp
  obtain ⟨p', hp'⟩ := drawnRun_ok e1
  obtain ⟨plan2, e2⟩ := drawnRun_some hp'
  have q1 := drawn_plain hc hk _ plan ops _ _ _ b _ hf e1
  have q2 := drawn_plain hc hk _ plan2 ops _ _ _ b _ hf e2
  rw [q1] at q2
  cases q2
  exact ⟨b1, hp', l1⟩
theorem iter_le {f : St → T (IExit × St)} (hf : CodeLe f) : ∀ n, CodeLe (iter f n)
  | 0 => fun x y e x' _ _ h => by cases h
  | n + 1 => fun x y e x' L hl h => by
    simp only [iter] at h ⊢
    obtain ⟨⟨e1, x1⟩, h1, h2⟩ := T.ret_bind h
    obtain ⟨y1, k1, k2, k3, k4⟩ := hf x y e1 x1 L hl h1
    rw [k1]
    cases e1 with
    | normal =>
      obtain ⟨y2, m1, m2, m3, m4⟩ := iter_le hf n x1 y1 e x' k2 (k3.fl hl) h2
      exact ⟨y2, m1, m2, k3.trans m3, k4.trans m4⟩
    | exit j => cases h2; exact ⟨y1, rfl, k2, k3, k4⟩
    | ret => cases h2; exact ⟨y1, rfl, k2, k3, k4⟩
theorem keeps_of (hk : CallKeeps call) {fuel : Nat} {ar : Option Nat} {c : ICode} {y y' : St} {e : IExit} (h : exec call fuel ar c y = .ret (e, y')) : Keeps y.h y'.h := by
  have := code_keeps hk fuel ar c y
  rw [h] at this
  exact this
theorem code_le (hc : CallLe call) (hk : CallKeeps call) (fuel : Nat) (ar : Option Nat) : ∀ (c : ICode) (x y : St) e x', StLe x y → y.h.floor ≤ y.h.next → exec call fuel ar c x = .ret (e, x') → ∃ y', exec call fuel ar c y = .ret (e, y') ∧ StLe x' y'
  | .skip, x, y, e, x', L, hf, h => by
    simp only [exec] at h ⊢; cases h; exact ⟨y, rfl, L⟩
  | .region ops, x, y, e, x', L, hf, h => by
    simp only [exec] at h ⊢
    obtain ⟨⟨tm', a'⟩, h1, h2⟩ := T.ret_bind h
    obtain ⟨b', e2, l⟩ := execOps_le hc hk ops x.tmps x.h y.h _ _ L.2.2 hf h1
    rw [← L.1, e2]
    cases h2
    exact ⟨_, rfl, rfl, L.2.1, l⟩
  | .drawn ops, x, y, e, x', L, hf, h => by
    simp only [exec] at h ⊢
    split at h
    · rename_i p hp
      obtain ⟨tm', a'⟩ := p
      obtain ⟨b', e2, l⟩ := drawnRun_le hc hk L.2.2 hf hp
      rw [← L.1, e2]
      cases h
      exact ⟨_, rfl, rfl, L.2.1, l⟩
    · cases h
  | .seq c d, x, y, e, x', L, hf, h => by
    simp only [exec] at h ⊢
    obtain ⟨⟨e1, x1⟩, h1, h2⟩ := T.ret_bind h
    obtain ⟨y1, k1, k2⟩ := code_le hc hk fuel ar c x y e1 x1 L hf h1
    rw [k1]
    cases e1 with
    | normal => exact code_le hc hk fuel ar d x1 y1 e x' k2 ((keeps_of hk k1).fl hf) h2
    | exit j => cases h2; exact ⟨y1, rfl, k2⟩
    | ret => cases h2; exact ⟨y1, rfl, k2⟩
  | .cond c t u, x, y, e, x', L, hf, h => by
    simp only [exec] at h ⊢
    rw [← L.1]
    generalize c.eval x.tmps = cv at h ⊢
    split at h
    · exact code_le hc hk fuel ar t x y e x' L hf h
    · exact code_le hc hk fuel ar u x y e x' L hf h
    · cases h
  | .block id c, x, y, e, x', L, hf, h => by
    simp only [exec] at h ⊢
    obtain ⟨⟨e1, x1⟩, h1, h2⟩ := T.ret_bind h
    obtain ⟨y1, k1, k2⟩ := code_le hc hk fuel ar c x y e1 x1 L hf h1
    rw [k1]
    cases e1 <;> (cases h2; exact ⟨y1, rfl, k2⟩)
  | .loop c, x, y, e, x', L, hf, h => by
    simp only [exec] at h ⊢
    obtain ⟨y', h1, h2, _, _⟩ := iter_le (f := exec call fuel ar c) (fun x y e x' L hf h => by
      obtain ⟨y', k1, k2⟩ := code_le hc hk fuel ar c x y e x' L hf h
      exact ⟨y', k1, k2, keeps_of hk k1, keeps_of hk h⟩) fuel x y e x' L hf h
    exact ⟨y', h1, h2⟩
  | .rangeFunc f ps asg body, x, y, e, x', L, hf, h => by
    have run : ∀ (a b : Heap) (d : Nat) (marks : List Nat), Le a b → b.floor ≤ b.next → (match f.eval x.tmps with
      | .func (.func g) first cap =>
        (call (.func (.func g) first cap) [.func (.yield (2 * a.next)) #[] #[]] (a.alloc (.loop { state := .ready, pending := .normal, tmps := x.tmps, params := ps, assign := asg, body := body, defers := d }))).bind fun p =>
          match p.2.get (2 * a.next) with
          | some (.loop lp) => if lp.state = .busy then .fail else
            match p.2.put (2 * a.next) (some (.loop { lp with state := .exhausted })) with
            | some h' => .ret (lp.pending, { tmps := x.tmps, defers := marks ++ x.defers, h := h' })
            | none => .fail
          | _ => .fail
      | _ => .fail) = T.ret (e, x') → ∃ y', (match f.eval x.tmps with
      | .func (.func g) first cap =>
        (call (.func (.func g) first cap) [.func (.yield (2 * b.next)) #[] #[]] (b.alloc (.loop { state := .ready, pending := .normal, tmps := x.tmps, params := ps, assign := asg, body := body, defers := d }))).bind fun p =>
          match p.2.get (2 * b.next) with
          | some (.loop lp) => if lp.state = .busy then .fail else
            match p.2.put (2 * b.next) (some (.loop { lp with state := .exhausted })) with
            | some h' => .ret (lp.pending, { tmps := x.tmps, defers := marks ++ x.defers, h := h' })
            | none => .fail
          | _ => .fail
      | _ => .fail) = T.ret (e, y') ∧ StLe x' y' := by
      intro a b d marks L1 hf1 h1
      generalize f.eval x.tmps = fv at h1 ⊢
      split at h1
      · obtain ⟨⟨v, a1⟩, h2, h3⟩ := T.ret_bind h1
        obtain ⟨b1, e2, l⟩ := hc _ _ _ _ _ _ (L1.alloc _) (Nat.le_succ_of_le hf1) h2
        simp only [← L1.next, e2, T.bind]
        simp only at h3
        split at h3
        · rename_i lp hg
          rw [l.get hg]
          simp only
          split at h3
          · cases h3
          · rename_i hb
            rw [if_neg hb]
            split at h3
            · rename_i a2 hp
              obtain ⟨b2, e3, l2⟩ := l.put hp
              rw [e3]
              cases h3
              exact ⟨_, rfl, rfl, rfl, l2⟩
            · cases h3
        · cases h3
      · cases h1
    simp only [exec] at h ⊢
    cases ar with
    | none =>
      simp only at h ⊢
      rw [← L.1, ← L.2.1, ← L.2.2.next]
      have := run (x.h.alloc (.deferred true)) (y.h.alloc (.deferred true)) (2 * x.h.next) [2 * x.h.next] (L.2.2.alloc _) (Nat.le_succ_of_le hf) h
      exact this
    | some l =>
      simp only at h ⊢
      split at h
      · rename_i lp hg
        rw [L.2.2.get hg]
        simp only
        rw [← L.1, ← L.2.1]
        exact run x.h y.h lp.defers [] L.2.2 hf h
      · cases h
  | .exit id, x, y, e, x', L, hf, h => by
    simp only [exec] at h ⊢; cases h; exact ⟨y, rfl, L⟩
  | .ret, x, y, e, x', L, hf, h => by
    simp only [exec] at h ⊢; cases h; exact ⟨y, rfl, L⟩
  | .bad, x, y, e, x', L, hf, h => by
    simp only [exec] at h; cases h
theorem marks_le : ∀ (rs : List Nat) (a b : Heap) {a' : Heap}, Le a b → shutMarks rs a = some a' → ∃ b', shutMarks rs b = some b' ∧ Le a' b'
  | [], a, b, a', L, h => by simp only [shutMarks, Option.some.injEq] at h; subst h; exact ⟨b, rfl, L⟩
  | r :: rs, a, b, a', L, h => by
    simp only [shutMarks] at h ⊢
    split at h
    · rename_i hg
      rw [L.get hg]
      simp only
      split at h
      · rename_i hp
        obtain ⟨b1, e1, l⟩ := L.put hp
        rw [e1]
        exact marks_le rs _ b1 l h
      · cases h
    · cases h
theorem val_le (L : Le a b) {tm : List Value} {r : IResult} {v : Value} (h : r.val tm a = some v) : r.val tm b = some v := by
  cases r with
  | tmp t => exact h
  | cell t n =>
    simp only [IResult.val] at h ⊢
    generalize tm.getD t undefV = tv at h ⊢
    split at h
    · split at h
      · split at h
        · rename_i hr; rw [L.read hr]; exact h
        · cases h
      · cases hr : Heap.read a _ _ with
        | none => rw [hr] at h; cases h
        | some cs => rw [hr] at h; rw [L.read hr]; exact h
    · cases h
theorem vals_le (L : Le a b) {tm : List Value} : ∀ {rs : List IResult} {vs : List Value}, rs.mapM (IResult.val tm a) = some vs → rs.mapM (IResult.val tm b) = some vs
  | [], vs, h => h
  | r :: rs, vs, h => by
    rw [List.mapM_cons] at h ⊢
    cases h1 : r.val tm a with
    | none => rw [h1] at h; cases h
    | some v =>
      rw [h1] at h
      rw [val_le L h1]
      cases h2 : rs.mapM (IResult.val tm a) with
      | none => simp only [h2] at h; cases h
      | some ws =>
        simp only [h2] at h
        have := vals_le L h2
        simp only [this]
        exact h
theorem answer_le (L : Le a b) {tm : List Value} {rs : List IResult} {v : Value} (h : answer rs tm a = some v) : answer rs tm b = some v := by
  unfold answer at h ⊢
  cases h1 : rs.mapM (IResult.val tm a) with
  | none => rw [h1] at h; cases h
  | some vs => rw [h1] at h; rw [vals_le L h1]; exact h
theorem callV_le (env : Env) : ∀ n, CallLe (callV env n)
  | 0 => fun f as a b v a' _ _ h => by cases h
  | n + 1 => fun f as a b v a' L hf h => by
    have hc := callV_le env n
    have hk := callV_keeps env n
    simp only [callV] at h ⊢
    split at h
    · split at h
      · rename_i F hF
        simp only [enter] at h ⊢
        obtain ⟨⟨e1, x1⟩, h1, h2⟩ := T.ret_bind h
        obtain ⟨y1, k1, k2⟩ := code_le hc hk n none F.body { tmps := _, defers := [], h := a } { tmps := _, defers := [], h := b } e1 x1 ⟨rfl, rfl, L⟩ hf h1
        have key : (match shutMarks x1.defers x1.h with
          | some h' => T.ofOpt ((answer F.results x1.tmps h').map fun v => (v, h'))
          | none => .fail) = T.ret (v, a') → ∃ b', (match shutMarks y1.defers y1.h with
          | some h' => T.ofOpt ((answer F.results y1.tmps h').map fun v => (v, h'))
          | none => .fail) = T.ret (v, b') ∧ Le a' b' := by
          intro h3
          rw [← k2.1, ← k2.2.1]
          split at h3
          · rename_i a2 hs
            obtain ⟨b2, e2, l⟩ := marks_le _ _ _ k2.2.2 hs
            rw [e2]
            cases h4 : answer F.results x1.tmps a2 with
            | none => rw [h4] at h3; cases h3
            | some w =>
              rw [h4] at h3
              cases h3
              simp only [answer_le l h4]
              exact ⟨b2, rfl, l⟩
          · cases h3
        rw [k1]
        cases e1 with
        | normal => exact key h2
        | exit j => cases h2
        | ret => exact key h2
      · cases h
    · simp only [round] at h ⊢
      split at h
      · rename_i lp hg
        rw [L.get hg]
        simp only
        split at h
        · rename_i hlen
          rw [if_pos hlen]
          obtain ⟨⟨e1, x1⟩, h1, h2⟩ := T.ret_bind h
          obtain ⟨y1, k1, k2⟩ := code_le hc hk n _ lp.assign { tmps := _, defers := [], h := a } { tmps := _, defers := [], h := b } e1 x1 ⟨rfl, rfl, L⟩ hf h1
          have f1 := (keeps_of hk k1).fl hf
          rw [k1]
          cases e1 with
          | exit j => cases h2
          | ret => cases h2
          | normal =>
            simp only [T.bind] at h2 ⊢
            split at h2
            · rename_i lp1 hg1
              rw [k2.2.2.get hg1]
              simp only
              split at h2
              · rename_i hst
                rw [if_pos hst]
                split at h2
                · rename_i a2 hp
                  obtain ⟨b2, e2, l2⟩ := k2.2.2.put hp
                  rw [e2]
                  simp only
                  obtain ⟨⟨e3, x3⟩, h3, h4⟩ := T.ret_bind h2
                  obtain ⟨y3, k3, k4⟩ := code_le hc hk n _ lp.body { x1 with h := a2 } { y1 with h := b2 } e3 x3 ⟨k2.1, k2.2.1, l2⟩ ((Keeps.put e2).fl f1) h3
                  rw [k3]
                  simp only [T.bind] at h4 ⊢
                  split at h4
                  · rename_i lp3 hg3
                    rw [k4.2.2.get hg3]
                    simp only
                    split at h4
                    · rename_i a4 hp4
                      obtain ⟨b4, e4, l4⟩ := k4.2.2.put hp4
                      simp only [e4]
                      cases h4
                      exact ⟨b4, rfl, l4⟩
                    · cases h4
                  · cases h4
                · cases h2
              · cases h2
            · cases h2
        · cases h
      · cases h
    · cases h
end
end Go.Ideal
