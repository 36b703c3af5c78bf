/-
  The law WireNames holds, on its card: the call answers true, whatever the machine chooses, and nothing that was there before it is changed; the listed package variables start as the program's text lays them.
-/
import Derived.Test.YtpodmgbnldmlcaaDoorFi
import Derived.Test.YtpodmgbnldmlcaaDoorIr
import Derived.Test.YtpodmgbnldmlcaaDoorRows
import Derived.Test.YtpodmgbnldmlcaaDoorTie
import Derived.Test.YtpodmgbnldmlcaaDoorCards
namespace Go.Proofs.YtpodmgbnldmlcaaDoor
open Go Go.Ideal Go.ChangeShapes Go.RowKit
/-- The cells of wagonway/wire.kinds. -/
def tab0 : List Value := [.string ⟨([114, 101, 113, 117, 101, 115, 116] : List UInt8).toArray⟩, .int .i64 1, .int .i64 3, .int .i64 4, .int .i64 0, .int .i64 0, .string ⟨([103, 114, 97, 110, 116] : List UInt8).toArray⟩, .int .i64 1, .int .i64 2, .int .i64 3, .int .i64 0, .int .i64 0, .string ⟨([114, 101, 108, 101, 97, 115, 101] : List UInt8).toArray⟩, .int .i64 1, .int .i64 2, .int .i64 0, .int .i64 0, .int .i64 0, .string ⟨([97, 99, 107] : List UInt8).toArray⟩, .int .i64 0, .int .i64 0, .int .i64 0, .int .i64 0, .int .i64 0, .string ⟨([100, 101, 110, 121] : List UInt8).toArray⟩, .int .i64 1, .int .i64 3, .int .i64 7, .int .i64 0, .int .i64 0, .string ⟨([112, 114, 111, 98, 101] : List UInt8).toArray⟩, .int .i64 1, .int .i64 6, .int .i64 7, .int .i64 4, .int .i64 5, .string ⟨([97, 98, 111, 114, 116] : List UInt8).toArray⟩, .int .i64 6, .int .i64 7, .int .i64 0, .int .i64 0, .int .i64 0, .string ⟨([105, 110, 104, 101, 114, 105, 116] : List UInt8).toArray⟩, .int .i64 1, .int .i64 4, .int .i64 0, .int .i64 0, .int .i64 0, .string ⟨([104, 101, 108, 108, 111] : List UInt8).toArray⟩, .int .i64 0, .int .i64 0, .int .i64 0, .int .i64 0, .int .i64 0, .string ⟨([114, 101, 99, 97, 108, 108] : List UInt8).toArray⟩, .int .i64 1, .int .i64 2, .int .i64 0, .int .i64 0, .int .i64 0, .string ⟨([115, 116, 97, 116, 117, 115] : List UInt8).toArray⟩, .int .i64 8, .int .i64 0, .int .i64 0, .int .i64 0, .int .i64 0]
def tabs : List (Nat × (List Value × Nat)) := [(0, (tab0, 1))]
theorem tab0_flat : ∃ t, (Tryd.prog.globals[0]?).map (·.type) = some t ∧ flatD Tryd.prog 6 t (Rows.laid_wagonway_wire_kinds : DataW Unit) = some tab0 := ⟨_, rfl, by kernel_rfl⟩
theorem tab0_ro {W : World} (h : laidMet Tryd.prog [("wagonway/wire.kinds", Rows.laid_wagonway_wire_kinds)] W) : roW W 0 = some (tab0, 1) := by
  obtain ⟨t, h1, h2⟩ := tab0_flat
  exact (laid_ro h (n := "wagonway/wire.kinds") (by simp) (by kernel_rfl) h1 h2 (by kernel_rfl)).trans (by kernel_rfl)
theorem tabs_ro (W : World) (h : laidMet Tryd.prog [("wagonway/wire.kinds", Rows.laid_wagonway_wire_kinds)] W) : ∀ p ∈ tabs, roW W p.1 = some p.2 := by
  intro p hp
  simp only [tabs, List.mem_cons, List.not_mem_nil, or_false] at hp
  rcases hp with rfl
  · exact tab0_ro h
theorem own : ownKnob Tryd.prog.godebug = none := by kernel_rfl
theorem mixed : Tryd.prog.follows .mixedOrders = true := by kernel_rfl
theorem laid_out : laidOutB Tryd.prog = true := by kernel_rfl
theorem wireNames_run (ro) : (run env 3000 8 [] (fresh (pin tabs ro))).yes = true := by kernel_rfl
theorem wireNames_lifted (os : Os) (started : os.Started) (H : Type) (enc : TypeId × Value → H) :
    ReturnsInHanded {} Tryd.checked os 8 .any (fun w args => (Rows.wireNamesSpec.pre enc Tryd.prog Tryd.f8 [] false w args ∧ laidMetH Tryd.prog [("wagonway/wire.kinds", Rows.laid_wagonway_wire_kinds)] w) ∧ sizedMet enc Tryd.prog Tryd.f8 (OpenSpec.ofChange Rows.wireNamesSpec) false w args) (Rows.wireNamesSpec.post enc Tryd.prog Tryd.f8 false true false false) :=
  door_lifted (C := Tryd.checked) (n := 3000) own started (by kernel_rfl) Tryd.func8
    (ChangeSpec.witness_shaped (enc := enc) (C := Tryd.checked) (os := os) (X := fun w _ => laidMetH Tryd.prog [("wagonway/wire.kinds", Rows.laid_wagonway_wire_kinds)] w) false (World.laidAll Tryd.prog os [("wagonway/wire.kinds", Rows.laid_wagonway_wire_kinds)]) #[] 8 (World.laidAll_os _ _ _)
      (World.shaped_of_ZipB (by kernel_rfl) (by kernel_rfl)) (by kernel_rfl) (by kernel_rfl) (by kernel_rfl)
      (by rw [MakeChecks.laidMetH_plain _ _ _ (by kernel_rfl)]; exact laidMet_laidAll _ (by kernel_rfl) (by kernel_rfl)))
    mixed env_ok laid_out Tryd.params8 (by rfl) Tryd.underlying4 rfl rfl (by kernel_rfl) tabs_ro wireNames_run
theorem wireNames_row : Rows.WireNamesSaid :=
  OpenClaim.holds_of_wide 8 Tryd.f8 rfl rfl rfl rfl rfl rfl rfl ⟨rfl, rfl, rfl, rfl, rfl⟩ rfl rfl rfl rfl rfl (by kernel_rfl) Tryd.func8 (by kernel_rfl)
    (of_decide_eq_true (by kernel_rfl)) (by unfold Func.isWrapper; rw [if_neg (of_decide_eq_false (by kernel_rfl))]; exact ⟨rfl, rfl⟩)
    (fun os started H enc _ => wireNames_lifted os started H enc)
theorem wireNames_holds : Rows.WireNamesCardSaid :=
  Claim7.holds_tied_plain_at .later [] [.data] true (true, "6504691fb4248637c7f3bd12986ab8356ba0a8da1b68853a139464c41493caf0") false wireNames_row (fun _ h => by cases h) (by kernel_rfl) (fun _ h => by cases h) wireNames_row_tie rfl ⟨rfl, rfl⟩ (by kernel_rfl) rfl
    (fun f fn hf hfn => by
      obtain rfl : f = 8 := Option.some.inj ((show Tryd.prog.funcNamed _ = some 8 by kernel_rfl).symm.trans hf) |>.symm
      obtain rfl : fn = Tryd.f8 := (Option.some.inj (Tryd.func8.symm.trans hfn)).symm
      exact ⟨by kernel_rfl, fun j t ht => by
        rw [Tryd.params8] at ht
        simp at ht⟩)
    (by kernel_rfl)
end Go.Proofs.YtpodmgbnldmlcaaDoor
