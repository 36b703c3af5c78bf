/-
  No cell of these rows narrows 'for every input' (looked for: loops, veiled, ifaces, maps, wideKeys, modest, calm, conditions, laid).
  DERIVED. THE GIVEN ROWS OF THIS SEAT. 5 by the template 'for every input the law returns true; each argument reads behind the call as it read before'; 0 by the template 'total and deterministic' (their statements: YtdifjoelfnagmaaTotals.lean).
  GIVEN WITH THE SEED: the statements are not yours to turn. If you find one false, say at which input.
  Laid BY PROGRAM, IN A SANDBOX (cutbox-rows.mjs): the forced cells as the released guide's own fill.sh prints them over the translation d08e97082214e234… (all of the seat's roots in one cut). By AI agents, Wed Nov 11 2026. No macro, syntax, notation, axiom, sorry.
-/
import Derived.Test.YtdifjoelfnagmaaChecked
import GoSem.Claim
import GoSem.ClaimJoined
import GoSem.ClaimMapViews
import Derived.JoinedTies
import Derived.KernelRfl
namespace Go.Proofs.Ytdifjoelfnagmaa
/- THE CELL 'sum', in the pinned program and in every row, IS THE sha256 OF THE DUMP (.gsa) THAT YtdifjoelfnagmaaProg.lean LOADS. Nothing in Lean hashes anything: it is a label: what it is worth is what the hold of that sum in a sandbox is worth. -/
noncomputable def Try.pinned : Pinned := { name := "ytdifjoelfnagmaa", sum := "d08e97082214e234640d1b283fe7e5518de4872c028e9d1f3f7e0123e1591b73", checked := Try.checked }
namespace Rows
def none {H : Type} : Left H := { results := [], args := [] }

/-- 'wagonwaylaw09.AlarmFirst': WHATEVER THE INPUT: true; the input reads as it did. -/
def alarmFirstSpec : ChangeSpec := { name := "alarmFirst", fn := fun _ => fun
  | [d] => { results := [.lit (.bool true)], args := [d] }
  | _ => none }
def alarmFirstRow : OpenClaim := { program := "ytdifjoelfnagmaa", sum := "d08e97082214e234640d1b283fe7e5518de4872c028e9d1f3f7e0123e1591b73", func := "wagonway/wagonwaylaw09.AlarmFirst", spec := "alarmFirst", apart := false }
def AlarmFirstSaid : Prop := alarmFirstRow.holds Try.pinned (OpenSpec.ofChange alarmFirstSpec)

/-- ITS FALSE NEIGHBOUR: 'it returns false'. Refute it at one input. -/
def alarmFirstWrong : ChangeSpec := { name := "alarmFirst", fn := fun _ => fun
  | [d] => { results := [.lit (.bool false)], args := [d] }
  | _ => none }
def AlarmFirstWrongFalsely : Prop := alarmFirstRow.holds Try.pinned (OpenSpec.ofChange alarmFirstWrong)

/-- 'wagonwaylaw09.AlarmChain': WHATEVER THE INPUT: true; the input reads as it did. -/
def alarmChainSpec : ChangeSpec := { name := "alarmChain", fn := fun _ => fun
  | [d1, d2, d3] => { results := [.lit (.bool true)], args := [d1, d2, d3] }
  | _ => none }
def alarmChainRow : OpenClaim := { program := "ytdifjoelfnagmaa", sum := "d08e97082214e234640d1b283fe7e5518de4872c028e9d1f3f7e0123e1591b73", func := "wagonway/wagonwaylaw09.AlarmChain", spec := "alarmChain", unfollowed := true, recurses := true, apart := false }
def AlarmChainSaid : Prop := alarmChainRow.holds Try.pinned (OpenSpec.ofChange alarmChainSpec)

/-- ITS FALSE NEIGHBOUR: 'it returns false'. Refute it at one input. -/
def alarmChainWrong : ChangeSpec := { name := "alarmChain", fn := fun _ => fun
  | [d1, d2, d3] => { results := [.lit (.bool false)], args := [d1, d2, d3] }
  | _ => none }
def AlarmChainWrongFalsely : Prop := alarmChainRow.holds Try.pinned (OpenSpec.ofChange alarmChainWrong)

/-- 'wagonwaylaw09.AlarmGrows': WHATEVER THE INPUT: true; the input reads as it did. -/
def alarmGrowsSpec : ChangeSpec := { name := "alarmGrows", fn := fun _ => fun
  | [d1, d2, d3] => { results := [.lit (.bool true)], args := [d1, d2, d3] }
  | _ => none }
def alarmGrowsRow : OpenClaim := { program := "ytdifjoelfnagmaa", sum := "d08e97082214e234640d1b283fe7e5518de4872c028e9d1f3f7e0123e1591b73", func := "wagonway/wagonwaylaw09.AlarmGrows", spec := "alarmGrows", unfollowed := true, recurses := true, apart := false }
def AlarmGrowsSaid : Prop := alarmGrowsRow.holds Try.pinned (OpenSpec.ofChange alarmGrowsSpec)

/-- ITS FALSE NEIGHBOUR: 'it returns false'. Refute it at one input. -/
def alarmGrowsWrong : ChangeSpec := { name := "alarmGrows", fn := fun _ => fun
  | [d1, d2, d3] => { results := [.lit (.bool false)], args := [d1, d2, d3] }
  | _ => none }
def AlarmGrowsWrongFalsely : Prop := alarmGrowsRow.holds Try.pinned (OpenSpec.ofChange alarmGrowsWrong)

/-- 'wagonwaylaw09.AlarmLater': WHATEVER THE INPUT: true; the input reads as it did. -/
def alarmLaterSpec : ChangeSpec := { name := "alarmLater", fn := fun _ => fun
  | [d1, d2, d3, d4] => { results := [.lit (.bool true)], args := [d1, d2, d3, d4] }
  | _ => none }
def alarmLaterRow : OpenClaim := { program := "ytdifjoelfnagmaa", sum := "d08e97082214e234640d1b283fe7e5518de4872c028e9d1f3f7e0123e1591b73", func := "wagonway/wagonwaylaw09.AlarmLater", spec := "alarmLater", unfollowed := true, recurses := true, apart := false }
def AlarmLaterSaid : Prop := alarmLaterRow.holds Try.pinned (OpenSpec.ofChange alarmLaterSpec)

/-- ITS FALSE NEIGHBOUR: 'it returns false'. Refute it at one input. -/
def alarmLaterWrong : ChangeSpec := { name := "alarmLater", fn := fun _ => fun
  | [d1, d2, d3, d4] => { results := [.lit (.bool false)], args := [d1, d2, d3, d4] }
  | _ => none }
def AlarmLaterWrongFalsely : Prop := alarmLaterRow.holds Try.pinned (OpenSpec.ofChange alarmLaterWrong)

/-- 'wagonwaylaw09.AlarmNames': WHATEVER THE INPUT: true; the input reads as it did. -/
def alarmNamesSpec : ChangeSpec := { name := "alarmNames", fn := fun _ => fun
  | [] => { results := [.lit (.bool true)], args := [] }
  | _ => none }
def alarmNamesRow : OpenClaim := { program := "ytdifjoelfnagmaa", sum := "d08e97082214e234640d1b283fe7e5518de4872c028e9d1f3f7e0123e1591b73", func := "wagonway/wagonwaylaw09.AlarmNames", spec := "alarmNames", unfollowed := true, recurses := true, apart := false }
def AlarmNamesSaid : Prop := alarmNamesRow.holds Try.pinned (OpenSpec.ofChange alarmNamesSpec)

/-- ITS FALSE NEIGHBOUR: 'it returns false'. Refute it at one input. -/
def alarmNamesWrong : ChangeSpec := { name := "alarmNames", fn := fun _ => fun
  | [] => { results := [.lit (.bool false)], args := [] }
  | _ => none }
def AlarmNamesWrongFalsely : Prop := alarmNamesRow.holds Try.pinned (OpenSpec.ofChange alarmNamesWrong)

/- THE SECOND FORM. 'bulk': how many values and letters a reading holds, each counted each time it is reached (what is shared counts as often as it is met; a slice's spare places count too). A statement '..UptoSaid' is the law's where the arguments, and the package variables that the reading takes, are together of bulk at most 1048576: NARROWER than '..Said'. Prove '..Said' where nothing that the law and all that it calls make is longer than what came in: it says more and counts as full. Else prove '..UptoSaid'. A law counts once. -/
mutual
def uptoBulk {H : Type} : DataW H → Nat
  | .lit (.string bytes) => bytes.length + 1
  | .lit _ => 1
  | .nil => 1
  | .ptr d => uptoBulk d + 1
  | .slice elems spare => uptoBulkAll elems + uptoBulkAll spare + 1
  | .agg parts => uptoBulkAll parts + 1
  | .iface _ d => uptoBulk d + 1
  | .map entries => uptoBulkEntries entries + 1
  | .held _ => 1
def uptoBulkAll {H : Type} : List (DataW H) → Nat
  | [] => 0
  | d :: r => uptoBulk d + uptoBulkAll r
def uptoBulkEntries {H : Type} : List (Lit × DataW H) → Nat
  | [] => 0
  | x :: r => uptoBulkEntry x + uptoBulkEntries r
def uptoBulkEntry {H : Type} : Lit × DataW H → Nat
  | (.string bytes, d) => bytes.length + uptoBulk d + 1
  | (_, d) => uptoBulk d + 1
 end
def uptoSmall : (H : Type) → List (DataW H) → Bool := fun _ ds => decide (uptoBulkAll ds ≤ 1048576)
def OpenSpec.upto (s : _root_.Go.ChangeSpec) : _root_.Go.OpenSpec := { _root_.Go.OpenSpec.ofChange s with cond := some uptoSmall }

/-- 'wagonwaylaw09.AlarmFirst', WHERE WHAT IT READS IS OF BULK AT MOST 1048576: true; the input reads as it did. -/
def alarmFirstUptoRow : OpenClaim := { program := "ytdifjoelfnagmaa", sum := "d08e97082214e234640d1b283fe7e5518de4872c028e9d1f3f7e0123e1591b73", func := "wagonway/wagonwaylaw09.AlarmFirst", spec := "alarmFirst", apart := false, narrowed := true }
def AlarmFirstUptoSaid : Prop := alarmFirstUptoRow.holds Try.pinned (OpenSpec.upto alarmFirstSpec)

/-- 'wagonwaylaw09.AlarmChain', WHERE WHAT IT READS IS OF BULK AT MOST 1048576: true; the input reads as it did. -/
def alarmChainUptoRow : OpenClaim := { program := "ytdifjoelfnagmaa", sum := "d08e97082214e234640d1b283fe7e5518de4872c028e9d1f3f7e0123e1591b73", func := "wagonway/wagonwaylaw09.AlarmChain", spec := "alarmChain", unfollowed := true, recurses := true, apart := false, narrowed := true }
def AlarmChainUptoSaid : Prop := alarmChainUptoRow.holds Try.pinned (OpenSpec.upto alarmChainSpec)

/-- 'wagonwaylaw09.AlarmGrows', WHERE WHAT IT READS IS OF BULK AT MOST 1048576: true; the input reads as it did. -/
def alarmGrowsUptoRow : OpenClaim := { program := "ytdifjoelfnagmaa", sum := "d08e97082214e234640d1b283fe7e5518de4872c028e9d1f3f7e0123e1591b73", func := "wagonway/wagonwaylaw09.AlarmGrows", spec := "alarmGrows", unfollowed := true, recurses := true, apart := false, narrowed := true }
def AlarmGrowsUptoSaid : Prop := alarmGrowsUptoRow.holds Try.pinned (OpenSpec.upto alarmGrowsSpec)

/-- 'wagonwaylaw09.AlarmLater', WHERE WHAT IT READS IS OF BULK AT MOST 1048576: true; the input reads as it did. -/
def alarmLaterUptoRow : OpenClaim := { program := "ytdifjoelfnagmaa", sum := "d08e97082214e234640d1b283fe7e5518de4872c028e9d1f3f7e0123e1591b73", func := "wagonway/wagonwaylaw09.AlarmLater", spec := "alarmLater", unfollowed := true, recurses := true, apart := false, narrowed := true }
def AlarmLaterUptoSaid : Prop := alarmLaterUptoRow.holds Try.pinned (OpenSpec.upto alarmLaterSpec)

/-- 'wagonwaylaw09.AlarmNames', WHERE WHAT IT READS IS OF BULK AT MOST 1048576: true; the input reads as it did. -/
def alarmNamesUptoRow : OpenClaim := { program := "ytdifjoelfnagmaa", sum := "d08e97082214e234640d1b283fe7e5518de4872c028e9d1f3f7e0123e1591b73", func := "wagonway/wagonwaylaw09.AlarmNames", spec := "alarmNames", unfollowed := true, recurses := true, apart := false, narrowed := true }
def AlarmNamesUptoSaid : Prop := alarmNamesUptoRow.holds Try.pinned (OpenSpec.upto alarmNamesSpec)

end Rows
end Go.Proofs.Ytdifjoelfnagmaa
