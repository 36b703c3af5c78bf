/-
  NARROWER THAN 'FOR EVERY INPUT', by the rows' own cells (each row's printed sentence says how): WireWrites: laid · WireSizes: laid · WireReads: laid · WireBack: laid · WireSpoilt: laid · WireNames: laid.
  DERIVED. THE GIVEN ROWS OF THIS SEAT. 6 by the template 'for every input the law returns true; each argument reads behind the call as it read before'; 0 by the template 'total and deterministic' (their statements: YtpodmgbnldmlcaaDoorTotals.lean).
  GIVEN WITH THE SEED: the statements are not yours to turn. If you find one false, say at which input.
  Laid BY PROGRAM, IN A SANDBOX (cutbox-rows.mjs): the forced cells as the released guide's own fill.sh prints them over the translation 2c6744c61c4253fe… (all of the seat's roots in one cut). By AI agents, Wed Nov 11 2026. No macro, syntax, notation, axiom, sorry.
-/
import Derived.Test.YtpodmgbnldmlcaaDoorChecked
import GoSem.Claim
import GoSem.ClaimJoined
import GoSem.ClaimMapViews
import Derived.JoinedTies
import Derived.KernelRfl
namespace Go.Proofs.YtpodmgbnldmlcaaDoor
/- THE CELL 'sum', in the pinned program and in every row, IS THE sha256 OF THE DUMP (.gsa) THAT YtpodmgbnldmlcaaDoorProg.lean LOADS. Nothing in Lean hashes anything: it is a label: what it is worth is what the hold of that sum in a sandbox is worth. -/
noncomputable def Tryd.pinned : Pinned := { name := "ytpodmgbnldmlcaadoor", sum := "2c6744c61c4253fe6e9f28f303cae87486a550eecb1384f177e4b14ed3b2a8ce", checked := Tryd.checked }
namespace Rows
def none {H : Type} : Left H := { results := [], args := [] }

/- WHAT THE LISTED PACKAGE-LEVEL VARIABLES READ AS WHEN THE CALL BEGINS. Each datum BY PROGRAM (the guide's laid-datum.mjs) off the statement by which the dump's own 'gosem.cut.vars' lays the variable. In a bare row this is a premise. The card (YtpodmgbnldmlcaaDoorCards.lean) ties it to the program's text. -/
def laid_wagonway_wire_kinds {H : Type} : DataW H := .agg [.agg [.lit (.string [114, 101, 113, 117, 101, 115, 116]), .agg [.lit (.int .i64 1), .lit (.int .i64 3), .lit (.int .i64 4), .lit (.int .i64 0), .lit (.int .i64 0)]], .agg [.lit (.string [103, 114, 97, 110, 116]), .agg [.lit (.int .i64 1), .lit (.int .i64 2), .lit (.int .i64 3), .lit (.int .i64 0), .lit (.int .i64 0)]], .agg [.lit (.string [114, 101, 108, 101, 97, 115, 101]), .agg [.lit (.int .i64 1), .lit (.int .i64 2), .lit (.int .i64 0), .lit (.int .i64 0), .lit (.int .i64 0)]], .agg [.lit (.string [97, 99, 107]), .agg [.lit (.int .i64 0), .lit (.int .i64 0), .lit (.int .i64 0), .lit (.int .i64 0), .lit (.int .i64 0)]], .agg [.lit (.string [100, 101, 110, 121]), .agg [.lit (.int .i64 1), .lit (.int .i64 3), .lit (.int .i64 7), .lit (.int .i64 0), .lit (.int .i64 0)]], .agg [.lit (.string [112, 114, 111, 98, 101]), .agg [.lit (.int .i64 1), .lit (.int .i64 6), .lit (.int .i64 7), .lit (.int .i64 4), .lit (.int .i64 5)]], .agg [.lit (.string [97, 98, 111, 114, 116]), .agg [.lit (.int .i64 6), .lit (.int .i64 7), .lit (.int .i64 0), .lit (.int .i64 0), .lit (.int .i64 0)]], .agg [.lit (.string [105, 110, 104, 101, 114, 105, 116]), .agg [.lit (.int .i64 1), .lit (.int .i64 4), .lit (.int .i64 0), .lit (.int .i64 0), .lit (.int .i64 0)]], .agg [.lit (.string [104, 101, 108, 108, 111]), .agg [.lit (.int .i64 0), .lit (.int .i64 0), .lit (.int .i64 0), .lit (.int .i64 0), .lit (.int .i64 0)]], .agg [.lit (.string [114, 101, 99, 97, 108, 108]), .agg [.lit (.int .i64 1), .lit (.int .i64 2), .lit (.int .i64 0), .lit (.int .i64 0), .lit (.int .i64 0)]], .agg [.lit (.string [115, 116, 97, 116, 117, 115]), .agg [.lit (.int .i64 8), .lit (.int .i64 0), .lit (.int .i64 0), .lit (.int .i64 0), .lit (.int .i64 0)]]]

/-- 'wagonwaylaw07.WireWrites': WHATEVER THE INPUT: true; the input reads as it did. -/
def wireWritesSpec : ChangeSpec := { name := "wireWrites", fn := fun _ => fun
  | [d] => { results := [.lit (.bool true)], args := [d] }
  | _ => none }
def wireWritesRow : OpenClaim := { program := "ytpodmgbnldmlcaadoor", sum := "2c6744c61c4253fe6e9f28f303cae87486a550eecb1384f177e4b14ed3b2a8ce", func := "wagonway/wagonwaylaw07.WireWrites", spec := "wireWrites", unfollowed := true, recurses := true, named := ["wagonway/wire.kinds"], apart := false, laid := [("wagonway/wire.kinds", laid_wagonway_wire_kinds)] }
def WireWritesSaid : Prop := wireWritesRow.holds Tryd.pinned (OpenSpec.ofChange wireWritesSpec)

/-- ITS FALSE NEIGHBOUR: 'it returns false'. Refute it at one input. -/
def wireWritesWrong : ChangeSpec := { name := "wireWrites", fn := fun _ => fun
  | [d] => { results := [.lit (.bool false)], args := [d] }
  | _ => none }
def WireWritesWrongFalsely : Prop := wireWritesRow.holds Tryd.pinned (OpenSpec.ofChange wireWritesWrong)

/-- 'wagonwaylaw07.WireSizes': WHATEVER THE INPUT: true; the input reads as it did. -/
def wireSizesSpec : ChangeSpec := { name := "wireSizes", fn := fun _ => fun
  | [d1, d2, d3] => { results := [.lit (.bool true)], args := [d1, d2, d3] }
  | _ => none }
def wireSizesRow : OpenClaim := { program := "ytpodmgbnldmlcaadoor", sum := "2c6744c61c4253fe6e9f28f303cae87486a550eecb1384f177e4b14ed3b2a8ce", func := "wagonway/wagonwaylaw07.WireSizes", spec := "wireSizes", unfollowed := true, recurses := true, named := ["wagonway/wire.kinds"], apart := false, laid := [("wagonway/wire.kinds", laid_wagonway_wire_kinds)] }
def WireSizesSaid : Prop := wireSizesRow.holds Tryd.pinned (OpenSpec.ofChange wireSizesSpec)

/-- ITS FALSE NEIGHBOUR: 'it returns false'. Refute it at one input. -/
def wireSizesWrong : ChangeSpec := { name := "wireSizes", fn := fun _ => fun
  | [d1, d2, d3] => { results := [.lit (.bool false)], args := [d1, d2, d3] }
  | _ => none }
def WireSizesWrongFalsely : Prop := wireSizesRow.holds Tryd.pinned (OpenSpec.ofChange wireSizesWrong)

/-- 'wagonwaylaw07.WireReads': WHATEVER THE INPUT: true; the input reads as it did. -/
def wireReadsSpec : ChangeSpec := { name := "wireReads", fn := fun _ => fun
  | [d1, d2, d3, d4] => { results := [.lit (.bool true)], args := [d1, d2, d3, d4] }
  | _ => none }
def wireReadsRow : OpenClaim := { program := "ytpodmgbnldmlcaadoor", sum := "2c6744c61c4253fe6e9f28f303cae87486a550eecb1384f177e4b14ed3b2a8ce", func := "wagonway/wagonwaylaw07.WireReads", spec := "wireReads", unfollowed := true, recurses := true, named := ["wagonway/wire.kinds"], apart := false, laid := [("wagonway/wire.kinds", laid_wagonway_wire_kinds)] }
def WireReadsSaid : Prop := wireReadsRow.holds Tryd.pinned (OpenSpec.ofChange wireReadsSpec)

/-- ITS FALSE NEIGHBOUR: 'it returns false'. Refute it at one input. -/
def wireReadsWrong : ChangeSpec := { name := "wireReads", fn := fun _ => fun
  | [d1, d2, d3, d4] => { results := [.lit (.bool false)], args := [d1, d2, d3, d4] }
  | _ => none }
def WireReadsWrongFalsely : Prop := wireReadsRow.holds Tryd.pinned (OpenSpec.ofChange wireReadsWrong)

/-- 'wagonwaylaw07.WireBack': WHATEVER THE INPUT: true; the input reads as it did. -/
def wireBackSpec : ChangeSpec := { name := "wireBack", fn := fun _ => fun
  | [d1, d2] => { results := [.lit (.bool true)], args := [d1, d2] }
  | _ => none }
def wireBackRow : OpenClaim := { program := "ytpodmgbnldmlcaadoor", sum := "2c6744c61c4253fe6e9f28f303cae87486a550eecb1384f177e4b14ed3b2a8ce", func := "wagonway/wagonwaylaw07.WireBack", spec := "wireBack", unfollowed := true, recurses := true, named := ["wagonway/wire.kinds"], apart := false, laid := [("wagonway/wire.kinds", laid_wagonway_wire_kinds)] }
def WireBackSaid : Prop := wireBackRow.holds Tryd.pinned (OpenSpec.ofChange wireBackSpec)

/-- ITS FALSE NEIGHBOUR: 'it returns false'. Refute it at one input. -/
def wireBackWrong : ChangeSpec := { name := "wireBack", fn := fun _ => fun
  | [d1, d2] => { results := [.lit (.bool false)], args := [d1, d2] }
  | _ => none }
def WireBackWrongFalsely : Prop := wireBackRow.holds Tryd.pinned (OpenSpec.ofChange wireBackWrong)

/-- 'wagonwaylaw07.WireSpoilt': WHATEVER THE INPUT: true; the input reads as it did. -/
def wireSpoiltSpec : ChangeSpec := { name := "wireSpoilt", fn := fun _ => fun
  | [d1, d2, d3, d4] => { results := [.lit (.bool true)], args := [d1, d2, d3, d4] }
  | _ => none }
def wireSpoiltRow : OpenClaim := { program := "ytpodmgbnldmlcaadoor", sum := "2c6744c61c4253fe6e9f28f303cae87486a550eecb1384f177e4b14ed3b2a8ce", func := "wagonway/wagonwaylaw07.WireSpoilt", spec := "wireSpoilt", unfollowed := true, recurses := true, named := ["wagonway/wire.kinds"], apart := false, laid := [("wagonway/wire.kinds", laid_wagonway_wire_kinds)] }
def WireSpoiltSaid : Prop := wireSpoiltRow.holds Tryd.pinned (OpenSpec.ofChange wireSpoiltSpec)

/-- ITS FALSE NEIGHBOUR: 'it returns false'. Refute it at one input. -/
def wireSpoiltWrong : ChangeSpec := { name := "wireSpoilt", fn := fun _ => fun
  | [d1, d2, d3, d4] => { results := [.lit (.bool false)], args := [d1, d2, d3, d4] }
  | _ => none }
def WireSpoiltWrongFalsely : Prop := wireSpoiltRow.holds Tryd.pinned (OpenSpec.ofChange wireSpoiltWrong)

/-- 'wagonwaylaw07.WireNames': WHATEVER THE INPUT: true; the input reads as it did. -/
def wireNamesSpec : ChangeSpec := { name := "wireNames", fn := fun _ => fun
  | [] => { results := [.lit (.bool true)], args := [] }
  | _ => none }
def wireNamesRow : OpenClaim := { program := "ytpodmgbnldmlcaadoor", sum := "2c6744c61c4253fe6e9f28f303cae87486a550eecb1384f177e4b14ed3b2a8ce", func := "wagonway/wagonwaylaw07.WireNames", spec := "wireNames", unfollowed := true, recurses := true, named := ["wagonway/wire.kinds"], apart := false, laid := [("wagonway/wire.kinds", laid_wagonway_wire_kinds)] }
def WireNamesSaid : Prop := wireNamesRow.holds Tryd.pinned (OpenSpec.ofChange wireNamesSpec)

/-- ITS FALSE NEIGHBOUR: 'it returns false'. Refute it at one input. -/
def wireNamesWrong : ChangeSpec := { name := "wireNames", fn := fun _ => fun
  | [] => { results := [.lit (.bool false)], args := [] }
  | _ => none }
def WireNamesWrongFalsely : Prop := wireNamesRow.holds Tryd.pinned (OpenSpec.ofChange wireNamesWrong)

/- THE SECOND FORM. 'bulk': how many values and letters a reading holds, each counted each time it is reached (what is shared counts as often as it is met; a slice's spare places count too). A statement '..UptoSaid' is the law's where the arguments, and the package variables that the reading takes, are together of bulk at most 1048576: NARROWER than '..Said'. Prove '..Said' where nothing that the law and all that it calls make is longer than what came in: it says more and counts as full. Else prove '..UptoSaid'. A law counts once. -/
mutual
def uptoBulk {H : Type} : DataW H → Nat
  | .lit (.string bytes) => bytes.length + 1
  | .lit _ => 1
  | .nil => 1
  | .ptr d => uptoBulk d + 1
  | .slice elems spare => uptoBulkAll elems + uptoBulkAll spare + 1
  | .agg parts => uptoBulkAll parts + 1
  | .iface _ d => uptoBulk d + 1
  | .map entries => uptoBulkEntries entries + 1
  | .held _ => 1
def uptoBulkAll {H : Type} : List (DataW H) → Nat
  | [] => 0
  | d :: r => uptoBulk d + uptoBulkAll r
def uptoBulkEntries {H : Type} : List (Lit × DataW H) → Nat
  | [] => 0
  | x :: r => uptoBulkEntry x + uptoBulkEntries r
def uptoBulkEntry {H : Type} : Lit × DataW H → Nat
  | (.string bytes, d) => bytes.length + uptoBulk d + 1
  | (_, d) => uptoBulk d + 1
 end
def uptoSmall : (H : Type) → List (DataW H) → Bool := fun _ ds => decide (uptoBulkAll ds ≤ 1048576)
def OpenSpec.upto (s : _root_.Go.ChangeSpec) : _root_.Go.OpenSpec := { _root_.Go.OpenSpec.ofChange s with cond := some uptoSmall }

/-- 'wagonwaylaw07.WireWrites', WHERE WHAT IT READS IS OF BULK AT MOST 1048576: true; the input reads as it did. -/
def wireWritesUptoRow : OpenClaim := { program := "ytpodmgbnldmlcaadoor", sum := "2c6744c61c4253fe6e9f28f303cae87486a550eecb1384f177e4b14ed3b2a8ce", func := "wagonway/wagonwaylaw07.WireWrites", spec := "wireWrites", unfollowed := true, recurses := true, named := ["wagonway/wire.kinds"], apart := false, laid := [("wagonway/wire.kinds", laid_wagonway_wire_kinds)], narrowed := true }
def WireWritesUptoSaid : Prop := wireWritesUptoRow.holds Tryd.pinned (OpenSpec.upto wireWritesSpec)

/-- 'wagonwaylaw07.WireSizes', WHERE WHAT IT READS IS OF BULK AT MOST 1048576: true; the input reads as it did. -/
def wireSizesUptoRow : OpenClaim := { program := "ytpodmgbnldmlcaadoor", sum := "2c6744c61c4253fe6e9f28f303cae87486a550eecb1384f177e4b14ed3b2a8ce", func := "wagonway/wagonwaylaw07.WireSizes", spec := "wireSizes", unfollowed := true, recurses := true, named := ["wagonway/wire.kinds"], apart := false, laid := [("wagonway/wire.kinds", laid_wagonway_wire_kinds)], narrowed := true }
def WireSizesUptoSaid : Prop := wireSizesUptoRow.holds Tryd.pinned (OpenSpec.upto wireSizesSpec)

/-- 'wagonwaylaw07.WireReads', WHERE WHAT IT READS IS OF BULK AT MOST 1048576: true; the input reads as it did. -/
def wireReadsUptoRow : OpenClaim := { program := "ytpodmgbnldmlcaadoor", sum := "2c6744c61c4253fe6e9f28f303cae87486a550eecb1384f177e4b14ed3b2a8ce", func := "wagonway/wagonwaylaw07.WireReads", spec := "wireReads", unfollowed := true, recurses := true, named := ["wagonway/wire.kinds"], apart := false, laid := [("wagonway/wire.kinds", laid_wagonway_wire_kinds)], narrowed := true }
def WireReadsUptoSaid : Prop := wireReadsUptoRow.holds Tryd.pinned (OpenSpec.upto wireReadsSpec)

/-- 'wagonwaylaw07.WireBack', WHERE WHAT IT READS IS OF BULK AT MOST 1048576: true; the input reads as it did. -/
def wireBackUptoRow : OpenClaim := { program := "ytpodmgbnldmlcaadoor", sum := "2c6744c61c4253fe6e9f28f303cae87486a550eecb1384f177e4b14ed3b2a8ce", func := "wagonway/wagonwaylaw07.WireBack", spec := "wireBack", unfollowed := true, recurses := true, named := ["wagonway/wire.kinds"], apart := false, laid := [("wagonway/wire.kinds", laid_wagonway_wire_kinds)], narrowed := true }
def WireBackUptoSaid : Prop := wireBackUptoRow.holds Tryd.pinned (OpenSpec.upto wireBackSpec)

/-- 'wagonwaylaw07.WireSpoilt', WHERE WHAT IT READS IS OF BULK AT MOST 1048576: true; the input reads as it did. -/
def wireSpoiltUptoRow : OpenClaim := { program := "ytpodmgbnldmlcaadoor", sum := "2c6744c61c4253fe6e9f28f303cae87486a550eecb1384f177e4b14ed3b2a8ce", func := "wagonway/wagonwaylaw07.WireSpoilt", spec := "wireSpoilt", unfollowed := true, recurses := true, named := ["wagonway/wire.kinds"], apart := false, laid := [("wagonway/wire.kinds", laid_wagonway_wire_kinds)], narrowed := true }
def WireSpoiltUptoSaid : Prop := wireSpoiltUptoRow.holds Tryd.pinned (OpenSpec.upto wireSpoiltSpec)

/-- 'wagonwaylaw07.WireNames', WHERE WHAT IT READS IS OF BULK AT MOST 1048576: true; the input reads as it did. -/
def wireNamesUptoRow : OpenClaim := { program := "ytpodmgbnldmlcaadoor", sum := "2c6744c61c4253fe6e9f28f303cae87486a550eecb1384f177e4b14ed3b2a8ce", func := "wagonway/wagonwaylaw07.WireNames", spec := "wireNames", unfollowed := true, recurses := true, named := ["wagonway/wire.kinds"], apart := false, laid := [("wagonway/wire.kinds", laid_wagonway_wire_kinds)], narrowed := true }
def WireNamesUptoSaid : Prop := wireNamesUptoRow.holds Tryd.pinned (OpenSpec.upto wireNamesSpec)

end Rows
end Go.Proofs.YtpodmgbnldmlcaaDoor
