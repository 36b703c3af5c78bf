/-
  The law PileNames holds: the call answers true, whatever the machine chooses, and nothing that was there before it is changed; no condition.
-/
import Derived.Test.YtafaefeekilclaaFh
import Derived.Test.YtafaefeekilclaaIr
import Derived.Test.YtafaefeekilclaaRows
namespace Go.Proofs.Ytafaefeekilclaa
open Go Go.Ideal Go.ChangeShapes Go.RowKit
theorem own : ownKnob Try.prog.godebug = none := by kernel_rfl
theorem mixed : Try.prog.follows .mixedOrders = true := by kernel_rfl
theorem laid_out : laidOutB Try.prog = true := by kernel_rfl
theorem pileNames_run (ro) : (run env 2000 6 [] (fresh ro)).yes = true := by kernel_rfl
theorem pileNames_lifted (os : Os) (started : os.Started) (H : Type) (enc : TypeId × Value → H) :
    ReturnsInHanded {} Try.checked os 6 .any (Rows.pileNamesSpec.pre6 enc Try.prog Try.f6 [] false) (Rows.pileNamesSpec.post enc Try.prog Try.f6 false true false false) :=
  closed_lifted (C := Try.checked) (n := 2000) own started (by kernel_rfl) Try.func6 (ChangeSpec.witness6 false ⟨#[], #[], []⟩ 8 (by kernel_rfl) (by kernel_rfl) (by kernel_rfl) (by kernel_rfl)) mixed env_ok laid_out Try.params6 (by rfl) Try.underlying4 rfl rfl pileNames_run
theorem pileNames_holds : Rows.PileNamesSaid :=
  OpenClaim.holds_of_wide 6 Try.f6 rfl rfl rfl rfl rfl rfl rfl ⟨rfl, rfl, rfl, rfl, rfl⟩ rfl rfl rfl rfl rfl (by kernel_rfl) Try.func6 (by kernel_rfl)
    (of_decide_eq_true (by kernel_rfl)) (by unfold Func.isWrapper; rw [if_neg (of_decide_eq_false (by kernel_rfl))]; exact ⟨rfl, rfl⟩)
    (fun os started H enc _ => by rw [OpenClaim.pre_of_none rfl]; exact pileNames_lifted os started H enc)
end Go.Proofs.Ytafaefeekilclaa
