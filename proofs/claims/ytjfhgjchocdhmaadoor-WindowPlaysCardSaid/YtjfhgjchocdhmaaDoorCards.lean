/-
  DERIVED. GIVEN WITH THE SEED: THE CARDS: each row of YtjfhgjchocdhmaaDoorRows.lean that lists a variable, with what it lists TIED to the program's text (the seventh form; the later family's looks); each row that meets fmt, with fmt's text TOLD by the authors' own Lean function (tested against real Go, not proved from fmt's source: count such statements apart). THE CARD IS WHAT COUNTS. Prove the row's statement (the work); the ties are given (YtjfhgjchocdhmaaDoorTie.lean); close each card by the builder's one call (the guide's Derived/Test/ToyasCard.lean, 'card_holds'). Laid BY PROGRAM, IN A SANDBOX (cutbox-door.mjs). By AI agents, Wed Nov 11 2026. No macro, syntax, notation, axiom, sorry.
-/
import Derived.Test.YtjfhgjchocdhmaaDoorRows
import GoSem.ClaimSeven
namespace Go.Proofs.YtjfhgjchocdhmaaDoor
namespace Rows

/-- THE TIED CARD OF 'wagonwaylaw10.WindowOnce'. -/
def windowOnceCard : Claim7 := { stood := { row := windowOnceRow, standIns := [], harness := (true, "699fcfeb9417af52c48ba49db3e47415df8646147ca02a380a6db29fddecc92f"), looks := false }, kinds := [], alts := [], laidByText := true, laidKinds := [.data], laidTests := true, laidLooks := .later }
def WindowOnceCardSaid : Prop := Claim7.holds Tryd.pinned (.plain (OpenSpec.ofChange windowOnceSpec)) windowOnceCard

/-- THE TIED CARD OF 'wagonwaylaw10.WindowOrders'. -/
def windowOrdersCard : Claim7 := { stood := { row := windowOrdersRow, standIns := [], harness := (true, "699fcfeb9417af52c48ba49db3e47415df8646147ca02a380a6db29fddecc92f"), looks := false }, kinds := [], alts := [], laidByText := true, laidKinds := [.data], laidTests := true, laidLooks := .later }
def WindowOrdersCardSaid : Prop := Claim7.holds Tryd.pinned (.plain (OpenSpec.ofChange windowOrdersSpec)) windowOrdersCard

/-- THE TIED CARD OF 'wagonwaylaw10.WindowMisses'. -/
def windowMissesCard : Claim7 := { stood := { row := windowMissesRow, standIns := [], harness := (true, "699fcfeb9417af52c48ba49db3e47415df8646147ca02a380a6db29fddecc92f"), looks := false }, kinds := [], alts := [], laidByText := true, laidKinds := [.data], laidTests := true, laidLooks := .later }
def WindowMissesCardSaid : Prop := Claim7.holds Tryd.pinned (.plain (OpenSpec.ofChange windowMissesSpec)) windowMissesCard

/-- THE TIED CARD OF 'wagonwaylaw10.WindowPlays'. -/
def windowPlaysCard : Claim7 := { stood := { row := windowPlaysRow, standIns := [], harness := (true, "699fcfeb9417af52c48ba49db3e47415df8646147ca02a380a6db29fddecc92f"), looks := false }, kinds := [], alts := [], laidByText := true, laidKinds := [.data], laidTests := true, laidLooks := .later }
def WindowPlaysCardSaid : Prop := Claim7.holds Tryd.pinned (.plain (OpenSpec.ofChange windowPlaysSpec)) windowPlaysCard

/-- THE TIED CARD OF 'wagonwaylaw10.WindowNames'. -/
def windowNamesCard : Claim7 := { stood := { row := windowNamesRow, standIns := [], harness := (true, "699fcfeb9417af52c48ba49db3e47415df8646147ca02a380a6db29fddecc92f"), looks := false }, kinds := [], alts := [], laidByText := true, laidKinds := [.data], laidTests := true, laidLooks := .later }
def WindowNamesCardSaid : Prop := Claim7.holds Tryd.pinned (.plain (OpenSpec.ofChange windowNamesSpec)) windowNamesCard

/-- THE SECOND FORM's CARD OF 'wagonwaylaw10.WindowOnce'. -/
def windowOnceUptoCard : Claim7 := { stood := { row := windowOnceUptoRow, standIns := [], harness := (true, "699fcfeb9417af52c48ba49db3e47415df8646147ca02a380a6db29fddecc92f"), looks := false }, kinds := [], alts := [], laidByText := true, laidKinds := [.data], laidTests := true, laidLooks := .later }
def WindowOnceUptoCardSaid : Prop := Claim7.holds Tryd.pinned (.plain (OpenSpec.upto windowOnceSpec)) windowOnceUptoCard

/-- THE SECOND FORM's CARD OF 'wagonwaylaw10.WindowOrders'. -/
def windowOrdersUptoCard : Claim7 := { stood := { row := windowOrdersUptoRow, standIns := [], harness := (true, "699fcfeb9417af52c48ba49db3e47415df8646147ca02a380a6db29fddecc92f"), looks := false }, kinds := [], alts := [], laidByText := true, laidKinds := [.data], laidTests := true, laidLooks := .later }
def WindowOrdersUptoCardSaid : Prop := Claim7.holds Tryd.pinned (.plain (OpenSpec.upto windowOrdersSpec)) windowOrdersUptoCard

/-- THE SECOND FORM's CARD OF 'wagonwaylaw10.WindowMisses'. -/
def windowMissesUptoCard : Claim7 := { stood := { row := windowMissesUptoRow, standIns := [], harness := (true, "699fcfeb9417af52c48ba49db3e47415df8646147ca02a380a6db29fddecc92f"), looks := false }, kinds := [], alts := [], laidByText := true, laidKinds := [.data], laidTests := true, laidLooks := .later }
def WindowMissesUptoCardSaid : Prop := Claim7.holds Tryd.pinned (.plain (OpenSpec.upto windowMissesSpec)) windowMissesUptoCard

/-- THE SECOND FORM's CARD OF 'wagonwaylaw10.WindowPlays'. -/
def windowPlaysUptoCard : Claim7 := { stood := { row := windowPlaysUptoRow, standIns := [], harness := (true, "699fcfeb9417af52c48ba49db3e47415df8646147ca02a380a6db29fddecc92f"), looks := false }, kinds := [], alts := [], laidByText := true, laidKinds := [.data], laidTests := true, laidLooks := .later }
def WindowPlaysUptoCardSaid : Prop := Claim7.holds Tryd.pinned (.plain (OpenSpec.upto windowPlaysSpec)) windowPlaysUptoCard

/-- THE SECOND FORM's CARD OF 'wagonwaylaw10.WindowNames'. -/
def windowNamesUptoCard : Claim7 := { stood := { row := windowNamesUptoRow, standIns := [], harness := (true, "699fcfeb9417af52c48ba49db3e47415df8646147ca02a380a6db29fddecc92f"), looks := false }, kinds := [], alts := [], laidByText := true, laidKinds := [.data], laidTests := true, laidLooks := .later }
def WindowNamesUptoCardSaid : Prop := Claim7.holds Tryd.pinned (.plain (OpenSpec.upto windowNamesSpec)) windowNamesUptoCard
end Rows
end Go.Proofs.YtjfhgjchocdhmaaDoor
