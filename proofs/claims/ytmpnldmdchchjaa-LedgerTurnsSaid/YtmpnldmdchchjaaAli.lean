/-
  The chapter's examples; what stays of a ledger.
-/
import Derived.Test.YtmpnldmdchchjaaFk
import Derived.Test.YtmpnldmdchchjaaNew
namespace Go.Proofs.Ytmpnldmdchchjaa
open Go Go.Ideal Go.ChangeShapes Go.RowKit
set_option maxHeartbeats 0
set_option linter.unusedSimpArgs false
set_option linter.unusedVariables false
set_option maxRecDepth 100000
/-- The chapter's examples, in a memory in which nothing was laid yet. -/
noncomputable def aliveX (ro : Nat → Option (List Value × Nat)) : T (Value × Heap) := callV env 4999 (.func (.func 9) #[] #[]) [] (fresh ro)
noncomputable def aliveP (x : T (Value × Heap)) : Option (Value × Nat × List (Nat × Nat) × (Nat → Option (List Value × Nat))) := match x with
  | .ret p => some (p.1, p.2.floor, p.2.hid, p.2.ro)
  | _ => none
theorem alive_eq (ro) : aliveP (aliveX ro) = some (.bool true, 0, [], ro) := by kernel_rfl
attribute [local irreducible] callV T.All T.Is run
theorem alive_h (ro) : (callV env 4999 (.func (.func 9) #[] #[]) [] (fresh ro)).Is fun p => p.1 = .bool true ∧ Has ro p.2 [] := by
  have hA := alive_eq ro
  show (aliveX ro).Is _
  generalize aliveX ro = x at hA ⊢
  cases x with
  | fail => cases hA
  | ask n k => cases hA
  | ret p =>
    obtain ⟨v, h⟩ := p
    simp only [aliveP, Option.some.injEq, Prod.mk.injEq] at hA
    obtain ⟨h1, h2, h3, h4⟩ := hA
    exact Is_in ⟨h1, Has.zero ⟨by rw [h2]; omega, fun p hp => by rw [h3] at hp; cases hp⟩ h4⟩

theorem Ls.Same.refl (S : Ls) : S.Same S := ⟨rfl, rfl, rfl⟩
theorem Ls.Same.trans {S T U : Ls} (h : S.Same T) (k : T.Same U) : S.Same U := ⟨k.1.trans h.1, k.2.1.trans h.2.1, k.2.2.trans h.2.2⟩
theorem Wf.told {S : Ls} (w : Wf S) (t : List (Int × Int)) : Wf { S with told := t } := ⟨⟨w.z.r1, w.z.r2, w.z.h1, w.z.h2, w.z.c1, w.z.c2⟩, w.g, w.q, w.w8⟩
theorem rel_wf {S S' : Ls} {r c g e : Int} {o' : Ou} (w : Wf S) (h : RelIs S r c g e S' o') : Wf S' ∧ S.Same S' := by
  rcases h with ⟨_, _, rfl, _⟩ | ⟨_, _, _, h⟩ | ⟨_, _, _, rfl, _⟩
  · exact ⟨w, Ls.Same.refl _⟩
  · exact free_wf w h
  · exact ⟨w, Ls.Same.refl _⟩
theorem stat_wf {S S' : Ls} {r e : Int} {L : List En} {o' : Ou} (w : Wf S) (h : StatIs S r L e S' o') : Wf S' ∧ S.Same S' := by
  rcases h with ⟨_, _, rfl, _⟩ | ⟨_, _, W0, Sk, h1, h2, rfl⟩
  · exact ⟨w, Ls.Same.refl _⟩
  · obtain ⟨w1, s1, _⟩ := stto_wf (gn_wf w h1) h2
    exact ⟨w1.told _, s1⟩
theorem wait_wf {S : Ls} {c : Int} {w : It} {qs' : List (Int × Nat)} {a : Bool} {er : Int} {l' : List It} (f : Wf S) (hq : ∀ x, lk qs' x = none → lk S.qs x = none ∧ x ≠ c) (hp : PutIs (S.W c) w a er l') : Wf { S with qs := qs', W := updW S.W c l' } := by
  refine ⟨⟨f.z.r1, f.z.r2, f.z.h1, f.z.h2, f.z.c1, f.z.c2⟩, f.g, fun x hx => ?_, fun x => ?_⟩
  · obtain ⟨h1, h2⟩ := hq x hx
    show updW S.W c l' x = []
    unfold updW
    rw [if_neg h2]
    exact f.q x h1
  · show (updW S.W c l' x).length ≤ 8
    unfold updW
    split
    · exact putis_len (f.w8 c) hp
    · exact f.w8 x
theorem req_wf {S S' : Ls} {w : It} {c e : Int} {o' : Ou} (f : Wf S) (h : ReqIs S w c e S' o') : Wf S' ∧ S.Same S' := by
  rcases h with ⟨_, _, rfl, _⟩ | ⟨_, _, _, rfl, _⟩ | ⟨_, _, _, ⟨_, rfl, _⟩ | ⟨_, d, rfl, _⟩ | ⟨_, _, qs', a, er, l', h1, h2, rfl, _⟩⟩
  · exact ⟨f, Ls.Same.refl _⟩
  · exact ⟨f, Ls.Same.refl _⟩
  · exact ⟨f, Ls.Same.refl _⟩
  · unfold Ls.grant
    split
    · exact ⟨f, Ls.Same.refl _⟩
    · have := f.g c
      exact ⟨f.set c ⟨w.r, (S.E c).g + 1⟩ (by show 0 ≤ (S.E c).g + 1 ∧ (S.E c).g + 1 ≤ 4294967295; omega), rfl, rfl, rfl⟩
  · exact ⟨wait_wf f h1 h2, rfl, rfl, rfl⟩
end Go.Proofs.Ytmpnldmdchchjaa
