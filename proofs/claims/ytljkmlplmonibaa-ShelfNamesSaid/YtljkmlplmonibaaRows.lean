/-
  No cell of these rows narrows 'for every input' (looked for: loops, veiled, ifaces, maps, wideKeys, modest, calm, conditions, laid).
  DERIVED. THE GIVEN ROWS OF THIS SEAT. 6 by the template 'for every input the law returns true; each argument reads behind the call as it read before'; 0 by the template 'total and deterministic' (their statements: YtljkmlplmonibaaTotals.lean).
  GIVEN WITH THE SEED: the statements are not yours to turn. If you find one false, say at which input.
  Laid BY PROGRAM, IN A SANDBOX (cutbox-rows.mjs): the forced cells as the released guide's own fill.sh prints them over the translation f262b84ebb0554e4… (all of the seat's roots in one cut). By AI agents, Wed Nov 11 2026. No macro, syntax, notation, axiom, sorry.
-/
import Derived.Test.YtljkmlplmonibaaChecked
import GoSem.Claim
import GoSem.ClaimJoined
import GoSem.ClaimMapViews
import Derived.JoinedTies
import Derived.KernelRfl
namespace Go.Proofs.Ytljkmlplmonibaa
/- THE CELL 'sum', in the pinned program and in every row, IS THE sha256 OF THE DUMP (.gsa) THAT YtljkmlplmonibaaProg.lean LOADS. Nothing in Lean hashes anything: it is a label: what it is worth is what the hold of that sum in a sandbox is worth. -/
noncomputable def Try.pinned : Pinned := { name := "ytljkmlplmonibaa", sum := "f262b84ebb0554e492c2726ae178d7f8aebbd079e32601a4c4abede4e920bf03", checked := Try.checked }
namespace Rows
def none {H : Type} : Left H := { results := [], args := [] }

/-- 'wagonwaylaw13.ShelfReads': WHATEVER THE INPUT: true; the input reads as it did. -/
def shelfReadsSpec : ChangeSpec := { name := "shelfReads", fn := fun _ => fun
  | [d] => { results := [.lit (.bool true)], args := [d] }
  | _ => none }
def shelfReadsRow : OpenClaim := { program := "ytljkmlplmonibaa", sum := "f262b84ebb0554e492c2726ae178d7f8aebbd079e32601a4c4abede4e920bf03", func := "wagonway/wagonwaylaw13.ShelfReads", spec := "shelfReads", unfollowed := true, recurses := true, plainKeys := false, apart := false }
def ShelfReadsSaid : Prop := shelfReadsRow.holds Try.pinned (OpenSpec.ofChange shelfReadsSpec)

/-- ITS FALSE NEIGHBOUR: 'it returns false'. Refute it at one input. -/
def shelfReadsWrong : ChangeSpec := { name := "shelfReads", fn := fun _ => fun
  | [d] => { results := [.lit (.bool false)], args := [d] }
  | _ => none }
def ShelfReadsWrongFalsely : Prop := shelfReadsRow.holds Try.pinned (OpenSpec.ofChange shelfReadsWrong)

/-- 'wagonwaylaw13.ShelfCrash': WHATEVER THE INPUT: true; the input reads as it did. -/
def shelfCrashSpec : ChangeSpec := { name := "shelfCrash", fn := fun _ => fun
  | [d1, d2] => { results := [.lit (.bool true)], args := [d1, d2] }
  | _ => none }
def shelfCrashRow : OpenClaim := { program := "ytljkmlplmonibaa", sum := "f262b84ebb0554e492c2726ae178d7f8aebbd079e32601a4c4abede4e920bf03", func := "wagonway/wagonwaylaw13.ShelfCrash", spec := "shelfCrash", unfollowed := true, recurses := true, plainKeys := false, apart := false }
def ShelfCrashSaid : Prop := shelfCrashRow.holds Try.pinned (OpenSpec.ofChange shelfCrashSpec)

/-- ITS FALSE NEIGHBOUR: 'it returns false'. Refute it at one input. -/
def shelfCrashWrong : ChangeSpec := { name := "shelfCrash", fn := fun _ => fun
  | [d1, d2] => { results := [.lit (.bool false)], args := [d1, d2] }
  | _ => none }
def ShelfCrashWrongFalsely : Prop := shelfCrashRow.holds Try.pinned (OpenSpec.ofChange shelfCrashWrong)

/-- 'wagonwaylaw13.ShelfApart': WHATEVER THE INPUT: true; the input reads as it did. -/
def shelfApartSpec : ChangeSpec := { name := "shelfApart", fn := fun _ => fun
  | [d1, d2, d3] => { results := [.lit (.bool true)], args := [d1, d2, d3] }
  | _ => none }
def shelfApartRow : OpenClaim := { program := "ytljkmlplmonibaa", sum := "f262b84ebb0554e492c2726ae178d7f8aebbd079e32601a4c4abede4e920bf03", func := "wagonway/wagonwaylaw13.ShelfApart", spec := "shelfApart", unfollowed := true, recurses := true, plainKeys := false, apart := false }
def ShelfApartSaid : Prop := shelfApartRow.holds Try.pinned (OpenSpec.ofChange shelfApartSpec)

/-- ITS FALSE NEIGHBOUR: 'it returns false'. Refute it at one input. -/
def shelfApartWrong : ChangeSpec := { name := "shelfApart", fn := fun _ => fun
  | [d1, d2, d3] => { results := [.lit (.bool false)], args := [d1, d2, d3] }
  | _ => none }
def ShelfApartWrongFalsely : Prop := shelfApartRow.holds Try.pinned (OpenSpec.ofChange shelfApartWrong)

/-- 'wagonwaylaw13.ShelfWrites': WHATEVER THE INPUT: true; the input reads as it did. -/
def shelfWritesSpec : ChangeSpec := { name := "shelfWrites", fn := fun _ => fun
  | [d1, d2, d3, d4] => { results := [.lit (.bool true)], args := [d1, d2, d3, d4] }
  | _ => none }
def shelfWritesRow : OpenClaim := { program := "ytljkmlplmonibaa", sum := "f262b84ebb0554e492c2726ae178d7f8aebbd079e32601a4c4abede4e920bf03", func := "wagonway/wagonwaylaw13.ShelfWrites", spec := "shelfWrites", unfollowed := true, recurses := true, plainKeys := false, apart := false }
def ShelfWritesSaid : Prop := shelfWritesRow.holds Try.pinned (OpenSpec.ofChange shelfWritesSpec)

/-- ITS FALSE NEIGHBOUR: 'it returns false'. Refute it at one input. -/
def shelfWritesWrong : ChangeSpec := { name := "shelfWrites", fn := fun _ => fun
  | [d1, d2, d3, d4] => { results := [.lit (.bool false)], args := [d1, d2, d3, d4] }
  | _ => none }
def ShelfWritesWrongFalsely : Prop := shelfWritesRow.holds Try.pinned (OpenSpec.ofChange shelfWritesWrong)

/-- 'wagonwaylaw13.ShelfBack': WHATEVER THE INPUT: true; the input reads as it did. -/
def shelfBackSpec : ChangeSpec := { name := "shelfBack", fn := fun _ => fun
  | [d1, d2, d3] => { results := [.lit (.bool true)], args := [d1, d2, d3] }
  | _ => none }
def shelfBackRow : OpenClaim := { program := "ytljkmlplmonibaa", sum := "f262b84ebb0554e492c2726ae178d7f8aebbd079e32601a4c4abede4e920bf03", func := "wagonway/wagonwaylaw13.ShelfBack", spec := "shelfBack", unfollowed := true, recurses := true, plainKeys := false, apart := false }
def ShelfBackSaid : Prop := shelfBackRow.holds Try.pinned (OpenSpec.ofChange shelfBackSpec)

/-- ITS FALSE NEIGHBOUR: 'it returns false'. Refute it at one input. -/
def shelfBackWrong : ChangeSpec := { name := "shelfBack", fn := fun _ => fun
  | [d1, d2, d3] => { results := [.lit (.bool false)], args := [d1, d2, d3] }
  | _ => none }
def ShelfBackWrongFalsely : Prop := shelfBackRow.holds Try.pinned (OpenSpec.ofChange shelfBackWrong)

/-- 'wagonwaylaw13.ShelfNames': WHATEVER THE INPUT: true; the input reads as it did. -/
def shelfNamesSpec : ChangeSpec := { name := "shelfNames", fn := fun _ => fun
  | [] => { results := [.lit (.bool true)], args := [] }
  | _ => none }
def shelfNamesRow : OpenClaim := { program := "ytljkmlplmonibaa", sum := "f262b84ebb0554e492c2726ae178d7f8aebbd079e32601a4c4abede4e920bf03", func := "wagonway/wagonwaylaw13.ShelfNames", spec := "shelfNames", unfollowed := true, recurses := true, plainKeys := false, apart := false }
def ShelfNamesSaid : Prop := shelfNamesRow.holds Try.pinned (OpenSpec.ofChange shelfNamesSpec)

/-- ITS FALSE NEIGHBOUR: 'it returns false'. Refute it at one input. -/
def shelfNamesWrong : ChangeSpec := { name := "shelfNames", fn := fun _ => fun
  | [] => { results := [.lit (.bool false)], args := [] }
  | _ => none }
def ShelfNamesWrongFalsely : Prop := shelfNamesRow.holds Try.pinned (OpenSpec.ofChange shelfNamesWrong)

/- THE SECOND FORM. 'bulk': how many values and letters a reading holds, each counted each time it is reached (what is shared counts as often as it is met; a slice's spare places count too). A statement '..UptoSaid' is the law's where the arguments, and the package variables that the reading takes, are together of bulk at most 1048576: NARROWER than '..Said'. Prove '..Said' where nothing that the law and all that it calls make is longer than what came in: it says more and counts as full. Else prove '..UptoSaid'. A law counts once. -/
mutual
def uptoBulk {H : Type} : DataW H → Nat
  | .lit (.string bytes) => bytes.length + 1
  | .lit _ => 1
  | .nil => 1
  | .ptr d => uptoBulk d + 1
  | .slice elems spare => uptoBulkAll elems + uptoBulkAll spare + 1
  | .agg parts => uptoBulkAll parts + 1
  | .iface _ d => uptoBulk d + 1
  | .map entries => uptoBulkEntries entries + 1
  | .held _ => 1
def uptoBulkAll {H : Type} : List (DataW H) → Nat
  | [] => 0
  | d :: r => uptoBulk d + uptoBulkAll r
def uptoBulkEntries {H : Type} : List (Lit × DataW H) → Nat
  | [] => 0
  | x :: r => uptoBulkEntry x + uptoBulkEntries r
def uptoBulkEntry {H : Type} : Lit × DataW H → Nat
  | (.string bytes, d) => bytes.length + uptoBulk d + 1
  | (_, d) => uptoBulk d + 1
 end
def uptoSmall : (H : Type) → List (DataW H) → Bool := fun _ ds => decide (uptoBulkAll ds ≤ 1048576)
def OpenSpec.upto (s : _root_.Go.ChangeSpec) : _root_.Go.OpenSpec := { _root_.Go.OpenSpec.ofChange s with cond := some uptoSmall }

/-- 'wagonwaylaw13.ShelfReads', WHERE WHAT IT READS IS OF BULK AT MOST 1048576: true; the input reads as it did. -/
def shelfReadsUptoRow : OpenClaim := { program := "ytljkmlplmonibaa", sum := "f262b84ebb0554e492c2726ae178d7f8aebbd079e32601a4c4abede4e920bf03", func := "wagonway/wagonwaylaw13.ShelfReads", spec := "shelfReads", unfollowed := true, recurses := true, plainKeys := false, apart := false, narrowed := true }
def ShelfReadsUptoSaid : Prop := shelfReadsUptoRow.holds Try.pinned (OpenSpec.upto shelfReadsSpec)

/-- 'wagonwaylaw13.ShelfCrash', WHERE WHAT IT READS IS OF BULK AT MOST 1048576: true; the input reads as it did. -/
def shelfCrashUptoRow : OpenClaim := { program := "ytljkmlplmonibaa", sum := "f262b84ebb0554e492c2726ae178d7f8aebbd079e32601a4c4abede4e920bf03", func := "wagonway/wagonwaylaw13.ShelfCrash", spec := "shelfCrash", unfollowed := true, recurses := true, plainKeys := false, apart := false, narrowed := true }
def ShelfCrashUptoSaid : Prop := shelfCrashUptoRow.holds Try.pinned (OpenSpec.upto shelfCrashSpec)

/-- 'wagonwaylaw13.ShelfApart', WHERE WHAT IT READS IS OF BULK AT MOST 1048576: true; the input reads as it did. -/
def shelfApartUptoRow : OpenClaim := { program := "ytljkmlplmonibaa", sum := "f262b84ebb0554e492c2726ae178d7f8aebbd079e32601a4c4abede4e920bf03", func := "wagonway/wagonwaylaw13.ShelfApart", spec := "shelfApart", unfollowed := true, recurses := true, plainKeys := false, apart := false, narrowed := true }
def ShelfApartUptoSaid : Prop := shelfApartUptoRow.holds Try.pinned (OpenSpec.upto shelfApartSpec)

/-- 'wagonwaylaw13.ShelfWrites', WHERE WHAT IT READS IS OF BULK AT MOST 1048576: true; the input reads as it did. -/
def shelfWritesUptoRow : OpenClaim := { program := "ytljkmlplmonibaa", sum := "f262b84ebb0554e492c2726ae178d7f8aebbd079e32601a4c4abede4e920bf03", func := "wagonway/wagonwaylaw13.ShelfWrites", spec := "shelfWrites", unfollowed := true, recurses := true, plainKeys := false, apart := false, narrowed := true }
def ShelfWritesUptoSaid : Prop := shelfWritesUptoRow.holds Try.pinned (OpenSpec.upto shelfWritesSpec)

/-- 'wagonwaylaw13.ShelfBack', WHERE WHAT IT READS IS OF BULK AT MOST 1048576: true; the input reads as it did. -/
def shelfBackUptoRow : OpenClaim := { program := "ytljkmlplmonibaa", sum := "f262b84ebb0554e492c2726ae178d7f8aebbd079e32601a4c4abede4e920bf03", func := "wagonway/wagonwaylaw13.ShelfBack", spec := "shelfBack", unfollowed := true, recurses := true, plainKeys := false, apart := false, narrowed := true }
def ShelfBackUptoSaid : Prop := shelfBackUptoRow.holds Try.pinned (OpenSpec.upto shelfBackSpec)

/-- 'wagonwaylaw13.ShelfNames', WHERE WHAT IT READS IS OF BULK AT MOST 1048576: true; the input reads as it did. -/
def shelfNamesUptoRow : OpenClaim := { program := "ytljkmlplmonibaa", sum := "f262b84ebb0554e492c2726ae178d7f8aebbd079e32601a4c4abede4e920bf03", func := "wagonway/wagonwaylaw13.ShelfNames", spec := "shelfNames", unfollowed := true, recurses := true, plainKeys := false, apart := false, narrowed := true }
def ShelfNamesUptoSaid : Prop := shelfNamesUptoRow.holds Try.pinned (OpenSpec.upto shelfNamesSpec)

end Rows
end Go.Proofs.Ytljkmlplmonibaa
