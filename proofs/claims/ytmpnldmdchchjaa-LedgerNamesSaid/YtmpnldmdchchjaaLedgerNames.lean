/-
  The law LedgerNames holds: the call answers true, whatever the machine chooses, and nothing that was there before it is changed; no condition.
-/
import Derived.Test.YtmpnldmdchchjaaFh
import Derived.Test.YtmpnldmdchchjaaIr
import Derived.Test.YtmpnldmdchchjaaRows
namespace Go.Proofs.Ytmpnldmdchchjaa
open Go Go.Ideal Go.ChangeShapes Go.RowKit
theorem own : ownKnob Try.prog.godebug = none := by kernel_rfl
theorem mixed : Try.prog.follows .mixedOrders = true := by kernel_rfl
theorem laid_out : laidOutB Try.prog = true := by kernel_rfl
theorem ledgerNames_run (ro) : (run env 3000 8 [] (fresh ro)).yes = true := by kernel_rfl
theorem ledgerNames_lifted (os : Os) (started : os.Started) (H : Type) (enc : TypeId × Value → H) :
    ReturnsInHanded {} Try.checked os 8 .any (Rows.ledgerNamesSpec.pre6 enc Try.prog Try.f8 [] false) (Rows.ledgerNamesSpec.post enc Try.prog Try.f8 false true false false) :=
  closed_lifted (C := Try.checked) (n := 3000) own started (by kernel_rfl) Try.func8 (ChangeSpec.witness6 false ⟨#[], #[], []⟩ 8 (by kernel_rfl) (by kernel_rfl) (by kernel_rfl) (by kernel_rfl)) mixed env_ok laid_out Try.params8 (by rfl) Try.underlying4 rfl rfl ledgerNames_run
theorem ledgerNames_holds : Rows.LedgerNamesSaid :=
  OpenClaim.holds_of_wide 8 Try.f8 rfl rfl rfl rfl rfl rfl rfl ⟨rfl, rfl, rfl, rfl, rfl⟩ rfl rfl rfl rfl rfl (by kernel_rfl) Try.func8 (by kernel_rfl)
    (of_decide_eq_true (by kernel_rfl)) (by unfold Func.isWrapper; rw [if_neg (of_decide_eq_false (by kernel_rfl))]; exact ⟨rfl, rfl⟩)
    (fun os started H enc _ => by rw [OpenClaim.pre_of_none rfl]; exact ledgerNames_lifted os started H enc)
end Go.Proofs.Ytmpnldmdchchjaa
