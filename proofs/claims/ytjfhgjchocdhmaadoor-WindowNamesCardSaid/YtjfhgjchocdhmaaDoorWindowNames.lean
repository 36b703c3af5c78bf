/-
  The law WindowNames holds, on its card: the call answers true, whatever the machine chooses, and nothing that was there before it is changed; the listed package variables start as the program's text lays them.
-/
import Derived.Test.YtjfhgjchocdhmaaDoorFi
import Derived.Test.YtjfhgjchocdhmaaDoorIr
import Derived.Test.YtjfhgjchocdhmaaDoorRows
import Derived.Test.YtjfhgjchocdhmaaDoorTie
import Derived.Test.YtjfhgjchocdhmaaDoorCards
namespace Go.Proofs.YtjfhgjchocdhmaaDoor
open Go Go.Ideal Go.ChangeShapes Go.RowKit
/-- The cells of math/bits.deBruijn64tab. -/
def tab0 : List Value := [.int .u8 0, .int .u8 1, .int .u8 56, .int .u8 2, .int .u8 57, .int .u8 49, .int .u8 28, .int .u8 3, .int .u8 61, .int .u8 58, .int .u8 42, .int .u8 50, .int .u8 38, .int .u8 29, .int .u8 17, .int .u8 4, .int .u8 62, .int .u8 47, .int .u8 59, .int .u8 36, .int .u8 45, .int .u8 43, .int .u8 51, .int .u8 22, .int .u8 53, .int .u8 39, .int .u8 33, .int .u8 30, .int .u8 24, .int .u8 18, .int .u8 12, .int .u8 5, .int .u8 63, .int .u8 55, .int .u8 48, .int .u8 27, .int .u8 60, .int .u8 41, .int .u8 37, .int .u8 16, .int .u8 46, .int .u8 35, .int .u8 44, .int .u8 21, .int .u8 52, .int .u8 32, .int .u8 23, .int .u8 11, .int .u8 54, .int .u8 26, .int .u8 40, .int .u8 15, .int .u8 34, .int .u8 20, .int .u8 31, .int .u8 10, .int .u8 25, .int .u8 14, .int .u8 19, .int .u8 9, .int .u8 13, .int .u8 8, .int .u8 7, .int .u8 6]
def tabs : List (Nat × (List Value × Nat)) := [(0, (tab0, 1))]
theorem tab0_flat : ∃ t, (Tryd.prog.globals[0]?).map (·.type) = some t ∧ flatD Tryd.prog 6 t (Rows.laid_math_bits_deBruijn64tab : DataW Unit) = some tab0 := ⟨_, rfl, by kernel_rfl⟩
theorem tab0_ro {W : World} (h : laidMet Tryd.prog [("math/bits.deBruijn64tab", Rows.laid_math_bits_deBruijn64tab)] W) : roW W 0 = some (tab0, 1) := by
  obtain ⟨t, h1, h2⟩ := tab0_flat
  exact (laid_ro h (n := "math/bits.deBruijn64tab") (by simp) (by kernel_rfl) h1 h2 (by kernel_rfl)).trans (by kernel_rfl)
theorem tabs_ro (W : World) (h : laidMet Tryd.prog [("math/bits.deBruijn64tab", Rows.laid_math_bits_deBruijn64tab)] W) : ∀ p ∈ tabs, roW W p.1 = some p.2 := by
  intro p hp
  simp only [tabs, List.mem_cons, List.not_mem_nil, or_false] at hp
  rcases hp with rfl
  · exact tab0_ro h
theorem own : ownKnob Tryd.prog.godebug = none := by kernel_rfl
theorem mixed : Tryd.prog.follows .mixedOrders = true := by kernel_rfl
theorem laid_out : laidOutB Tryd.prog = true := by kernel_rfl
theorem windowNames_run (ro) : (run env 3000 7 [] (fresh (pin tabs ro))).yes = true := by kernel_rfl
theorem windowNames_lifted (os : Os) (started : os.Started) (H : Type) (enc : TypeId × Value → H) :
    ReturnsInHanded {} Tryd.checked os 7 .any (fun w args => (Rows.windowNamesSpec.pre enc Tryd.prog Tryd.f7 [] false w args ∧ laidMetH Tryd.prog [("math/bits.deBruijn64tab", Rows.laid_math_bits_deBruijn64tab)] w) ∧ sizedMet enc Tryd.prog Tryd.f7 (OpenSpec.ofChange Rows.windowNamesSpec) false w args) (Rows.windowNamesSpec.post enc Tryd.prog Tryd.f7 false true false false) :=
  door_lifted (C := Tryd.checked) (n := 3000) own started (by kernel_rfl) Tryd.func7
    (ChangeSpec.witness_shaped (enc := enc) (C := Tryd.checked) (os := os) (X := fun w _ => laidMetH Tryd.prog [("math/bits.deBruijn64tab", Rows.laid_math_bits_deBruijn64tab)] w) false (World.laidAll Tryd.prog os [("math/bits.deBruijn64tab", Rows.laid_math_bits_deBruijn64tab)]) #[] 8 (World.laidAll_os _ _ _)
      (World.shaped_of_ZipB (by kernel_rfl) (by kernel_rfl)) (by kernel_rfl) (by kernel_rfl) (by kernel_rfl)
      (by rw [MakeChecks.laidMetH_plain _ _ _ (by kernel_rfl)]; exact laidMet_laidAll _ (by kernel_rfl) (by kernel_rfl)))
    mixed env_ok laid_out Tryd.params7 (by rfl) Tryd.underlying4 rfl rfl (by kernel_rfl) tabs_ro windowNames_run
theorem windowNames_row : Rows.WindowNamesSaid :=
  OpenClaim.holds_of_wide 7 Tryd.f7 rfl rfl rfl rfl rfl rfl rfl ⟨rfl, rfl, rfl, rfl, rfl⟩ rfl rfl rfl rfl rfl (by kernel_rfl) Tryd.func7 (by kernel_rfl)
    (of_decide_eq_true (by kernel_rfl)) (by unfold Func.isWrapper; rw [if_neg (of_decide_eq_false (by kernel_rfl))]; exact ⟨rfl, rfl⟩)
    (fun os started H enc _ => windowNames_lifted os started H enc)
theorem windowNames_holds : Rows.WindowNamesCardSaid :=
  Claim7.holds_tied_plain_at .later [] [.data] true (true, "699fcfeb9417af52c48ba49db3e47415df8646147ca02a380a6db29fddecc92f") false windowNames_row (fun _ h => by cases h) (by kernel_rfl) (fun _ h => by cases h) windowNames_row_tie rfl ⟨rfl, rfl⟩ (by kernel_rfl) rfl
    (fun f fn hf hfn => by
      obtain rfl : f = 7 := Option.some.inj ((show Tryd.prog.funcNamed _ = some 7 by kernel_rfl).symm.trans hf) |>.symm
      obtain rfl : fn = Tryd.f7 := (Option.some.inj (Tryd.func7.symm.trans hfn)).symm
      exact ⟨by kernel_rfl, fun j t ht => by
        rw [Tryd.params7] at ht
        simp at ht⟩)
    (by kernel_rfl)
end Go.Proofs.YtjfhgjchocdhmaaDoor
