/-
  The law AlarmNames holds: the call answers true, whatever the machine chooses, and nothing that was there before it is changed; no condition.
-/
import Derived.Test.YtdifjoelfnagmaaFh
import Derived.Test.YtdifjoelfnagmaaIr
import Derived.Test.YtdifjoelfnagmaaRows
namespace Go.Proofs.Ytdifjoelfnagmaa
open Go Go.Ideal Go.ChangeShapes Go.RowKit
theorem own : ownKnob Try.prog.godebug = none := by kernel_rfl
theorem mixed : Try.prog.follows .mixedOrders = true := by kernel_rfl
theorem laid_out : laidOutB Try.prog = true := by kernel_rfl
theorem names_run (ro) : (run env 1000 7 [] (fresh ro)).yes = true := by kernel_rfl
theorem names_lifted (os : Os) (started : os.Started) (H : Type) (enc : TypeId × Value → H) :
    ReturnsInHanded {} Try.checked os 7 .any (Rows.alarmNamesSpec.pre6 enc Try.prog Try.f7 [] false) (Rows.alarmNamesSpec.post enc Try.prog Try.f7 false true false false) :=
  closed_lifted (C := Try.checked) (n := 1000) own started (by kernel_rfl) Try.func7 (ChangeSpec.witness6 false ⟨#[], #[], []⟩ 8 (by kernel_rfl) (by kernel_rfl) (by kernel_rfl) (by kernel_rfl)) mixed env_ok laid_out Try.params7 (by rfl) Try.underlying4 rfl rfl names_run
theorem alarmNames_holds : Rows.AlarmNamesSaid :=
  OpenClaim.holds_of_wide 7 Try.f7 rfl rfl rfl rfl rfl rfl rfl ⟨rfl, rfl, rfl, rfl, rfl⟩ rfl rfl rfl rfl rfl (by kernel_rfl) Try.func7 (by kernel_rfl)
    (of_decide_eq_true (by kernel_rfl)) (by unfold Func.isWrapper; rw [if_neg (of_decide_eq_false (by kernel_rfl))]; exact ⟨rfl, rfl⟩)
    (fun os started H enc _ => by rw [OpenClaim.pre_of_none rfl]; exact names_lifted os started H enc)
end Go.Proofs.Ytdifjoelfnagmaa
