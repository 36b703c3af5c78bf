import Derived.Test.YtmpnldmdchchjaaFk
import Derived.Test.YtmpnldmdchchjaaNew
namespace Go.Proofs.Ytmpnldmdchchjaa
open Go Go.Ideal Go.ChangeShapes Go.RowKit
set_option maxHeartbeats 0
set_option linter.unusedSimpArgs false
set_option linter.unusedVariables false
set_option maxRecDepth 100000
attribute [local irreducible] callV T.All T.Is run
theorem Ls.Same.refl (S : Ls) : S.Same S := ⟨rfl, rfl, rfl⟩
theorem Ls.Same.trans {S T U : Ls} (h : S.Same T) (k : T.Same U) : S.Same U := ⟨k.1.trans h.1, k.2.1.trans h.2.1, k.2.2.trans h.2.2⟩
theorem Wf.told {S : Ls} (w : Wf S) (t : List (Int × Int)) : Wf { S with told := t } := ⟨⟨w.z.r1, w.z.r2, w.z.h1, w.z.h2, w.z.c1, w.z.c2⟩, w.g, w.q, w.w8⟩
theorem wait_wf {S : Ls} {c : Int} {w : It} {qs' : List (Int × Nat)} {a : Bool} {er : Int} {l' : List It} (f : Wf S) (hq : ∀ x, lk qs' x = none → lk S.qs x = none ∧ x ≠ c) (hp : PutIs (S.W c) w a er l') : Wf { S with qs := qs', W := updW S.W c l' } := by
  refine ⟨⟨f.z.r1, f.z.r2, f.z.h1, f.z.h2, f.z.c1, f.z.c2⟩, f.g, fun x hx => ?_, fun x => ?_⟩
  · obtain ⟨h1, h2⟩ := hq x hx
    show updW S.W c l' x = []
    unfold updW
    rw [if_neg h2]
    exact f.q x h1
  · show (updW S.W c l' x).length ≤ 8
    unfold updW
    split
    · exact putis_len (f.w8 c) hp
    · exact f.w8 x
theorem req_wf {S S' : Ls} {w : It} {c e : Int} {o' : Ou} (f : Wf S) (h : ReqIs S w c e S' o') : Wf S' ∧ S.Same S' := by
  rcases h with ⟨_, _, rfl, _⟩ | ⟨_, _, _, rfl, _⟩ | ⟨_, _, _, ⟨_, rfl, _⟩ | ⟨_, d, rfl, _⟩ | ⟨_, _, qs', a, er, l', h1, h2, rfl, _⟩⟩
  · exact ⟨f, Ls.Same.refl _⟩
  · exact ⟨f, Ls.Same.refl _⟩
  · exact ⟨f, Ls.Same.refl _⟩
  · unfold Ls.grant
    split
    · exact ⟨f, Ls.Same.refl _⟩
    · have := f.g c
      exact ⟨f.set c ⟨w.r, (S.E c).g + 1⟩ (by show 0 ≤ (S.E c).g + 1 ∧ (S.E c).g + 1 ≤ 4294967295; omega), rfl, rfl, rfl⟩
  · exact ⟨wait_wf f h1 h2, rfl, rfl, rfl⟩
end Go.Proofs.Ytmpnldmdchchjaa
