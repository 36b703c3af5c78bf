/-
  No cell of these rows narrows 'for every input' (looked for: loops, veiled, ifaces, maps, wideKeys, modest, calm, conditions, laid).
  DERIVED. THE GIVEN ROWS OF THIS SEAT. 6 by the template 'for every input the law returns true; each argument reads behind the call as it read before'; 0 by the template 'total and deterministic' (their statements: YtlhocgeppgdopaaTotals.lean).
  GIVEN WITH THE SEED: the statements are not yours to turn. If you find one false, say at which input.
  Laid BY PROGRAM, IN A SANDBOX (cutbox-rows.mjs): the forced cells as the released guide's own fill.sh prints them over the translation f7fc84c7306fb959… (all of the seat's roots in one cut). By AI agents, Wed Nov 11 2026. No macro, syntax, notation, axiom, sorry.
-/
import Derived.Test.YtlhocgeppgdopaaChecked
import GoSem.Claim
import GoSem.ClaimJoined
import GoSem.ClaimMapViews
import Derived.JoinedTies
import Derived.KernelRfl
namespace Go.Proofs.Ytlhocgeppgdopaa
/- THE CELL 'sum', in the pinned program and in every row, IS THE sha256 OF THE DUMP (.gsa) THAT YtlhocgeppgdopaaProg.lean LOADS. Nothing in Lean hashes anything: it is a label: what it is worth is what the hold of that sum in a sandbox is worth. -/
noncomputable def Try.pinned : Pinned := { name := "ytlhocgeppgdopaa", sum := "f7fc84c7306fb959e3c9b29c4c85bf1621cb98a0ecd1e3a69d7d90ff942d5d0a", checked := Try.checked }
namespace Rows
def none {H : Type} : Left H := { results := [], args := [] }

/-- 'wagonwaylaw12.StampClocks': WHATEVER THE INPUT: true; the input reads as it did. -/
def stampClocksSpec : ChangeSpec := { name := "stampClocks", fn := fun _ => fun
  | [d1, d2] => { results := [.lit (.bool true)], args := [d1, d2] }
  | _ => none }
def stampClocksRow : OpenClaim := { program := "ytlhocgeppgdopaa", sum := "f7fc84c7306fb959e3c9b29c4c85bf1621cb98a0ecd1e3a69d7d90ff942d5d0a", func := "wagonway/wagonwaylaw12.StampClocks", spec := "stampClocks", apart := false }
def StampClocksSaid : Prop := stampClocksRow.holds Try.pinned (OpenSpec.ofChange stampClocksSpec)

/-- ITS FALSE NEIGHBOUR: 'it returns false'. Refute it at one input. -/
def stampClocksWrong : ChangeSpec := { name := "stampClocks", fn := fun _ => fun
  | [d1, d2] => { results := [.lit (.bool false)], args := [d1, d2] }
  | _ => none }
def StampClocksWrongFalsely : Prop := stampClocksRow.holds Try.pinned (OpenSpec.ofChange stampClocksWrong)

/-- 'wagonwaylaw12.StampRises': WHATEVER THE INPUT: true; the input reads as it did. -/
def stampRisesSpec : ChangeSpec := { name := "stampRises", fn := fun _ => fun
  | [d1, d2, d3] => { results := [.lit (.bool true)], args := [d1, d2, d3] }
  | _ => none }
def stampRisesRow : OpenClaim := { program := "ytlhocgeppgdopaa", sum := "f7fc84c7306fb959e3c9b29c4c85bf1621cb98a0ecd1e3a69d7d90ff942d5d0a", func := "wagonway/wagonwaylaw12.StampRises", spec := "stampRises", unfollowed := true, recurses := true, apart := false }
def StampRisesSaid : Prop := stampRisesRow.holds Try.pinned (OpenSpec.ofChange stampRisesSpec)

/-- ITS FALSE NEIGHBOUR: 'it returns false'. Refute it at one input. -/
def stampRisesWrong : ChangeSpec := { name := "stampRises", fn := fun _ => fun
  | [d1, d2, d3] => { results := [.lit (.bool false)], args := [d1, d2, d3] }
  | _ => none }
def StampRisesWrongFalsely : Prop := stampRisesRow.holds Try.pinned (OpenSpec.ofChange stampRisesWrong)

/-- 'wagonwaylaw12.StampRaises': WHATEVER THE INPUT: true; the input reads as it did. -/
def stampRaisesSpec : ChangeSpec := { name := "stampRaises", fn := fun _ => fun
  | [d1, d2, d3] => { results := [.lit (.bool true)], args := [d1, d2, d3] }
  | _ => none }
def stampRaisesRow : OpenClaim := { program := "ytlhocgeppgdopaa", sum := "f7fc84c7306fb959e3c9b29c4c85bf1621cb98a0ecd1e3a69d7d90ff942d5d0a", func := "wagonway/wagonwaylaw12.StampRaises", spec := "stampRaises", unfollowed := true, recurses := true, apart := false }
def StampRaisesSaid : Prop := stampRaisesRow.holds Try.pinned (OpenSpec.ofChange stampRaisesSpec)

/-- ITS FALSE NEIGHBOUR: 'it returns false'. Refute it at one input. -/
def stampRaisesWrong : ChangeSpec := { name := "stampRaises", fn := fun _ => fun
  | [d1, d2, d3] => { results := [.lit (.bool false)], args := [d1, d2, d3] }
  | _ => none }
def StampRaisesWrongFalsely : Prop := stampRaisesRow.holds Try.pinned (OpenSpec.ofChange stampRaisesWrong)

/-- 'wagonwaylaw12.StampOrders': WHATEVER THE INPUT: true; the input reads as it did. -/
def stampOrdersSpec : ChangeSpec := { name := "stampOrders", fn := fun _ => fun
  | [d1, d2] => { results := [.lit (.bool true)], args := [d1, d2] }
  | _ => none }
def stampOrdersRow : OpenClaim := { program := "ytlhocgeppgdopaa", sum := "f7fc84c7306fb959e3c9b29c4c85bf1621cb98a0ecd1e3a69d7d90ff942d5d0a", func := "wagonway/wagonwaylaw12.StampOrders", spec := "stampOrders", unfollowed := true, recurses := true, apart := false }
def StampOrdersSaid : Prop := stampOrdersRow.holds Try.pinned (OpenSpec.ofChange stampOrdersSpec)

/-- ITS FALSE NEIGHBOUR: 'it returns false'. Refute it at one input. -/
def stampOrdersWrong : ChangeSpec := { name := "stampOrders", fn := fun _ => fun
  | [d1, d2] => { results := [.lit (.bool false)], args := [d1, d2] }
  | _ => none }
def StampOrdersWrongFalsely : Prop := stampOrdersRow.holds Try.pinned (OpenSpec.ofChange stampOrdersWrong)

/-- 'wagonwaylaw12.StampQueues': WHATEVER THE INPUT: true; the input reads as it did. -/
def stampQueuesSpec : ChangeSpec := { name := "stampQueues", fn := fun _ => fun
  | [d] => { results := [.lit (.bool true)], args := [d] }
  | _ => none }
def stampQueuesRow : OpenClaim := { program := "ytlhocgeppgdopaa", sum := "f7fc84c7306fb959e3c9b29c4c85bf1621cb98a0ecd1e3a69d7d90ff942d5d0a", func := "wagonway/wagonwaylaw12.StampQueues", spec := "stampQueues", unfollowed := true, recurses := true, apart := false }
def StampQueuesSaid : Prop := stampQueuesRow.holds Try.pinned (OpenSpec.ofChange stampQueuesSpec)

/-- ITS FALSE NEIGHBOUR: 'it returns false'. Refute it at one input. -/
def stampQueuesWrong : ChangeSpec := { name := "stampQueues", fn := fun _ => fun
  | [d] => { results := [.lit (.bool false)], args := [d] }
  | _ => none }
def StampQueuesWrongFalsely : Prop := stampQueuesRow.holds Try.pinned (OpenSpec.ofChange stampQueuesWrong)

/-- 'wagonwaylaw12.StampNames': WHATEVER THE INPUT: true; the input reads as it did. -/
def stampNamesSpec : ChangeSpec := { name := "stampNames", fn := fun _ => fun
  | [] => { results := [.lit (.bool true)], args := [] }
  | _ => none }
def stampNamesRow : OpenClaim := { program := "ytlhocgeppgdopaa", sum := "f7fc84c7306fb959e3c9b29c4c85bf1621cb98a0ecd1e3a69d7d90ff942d5d0a", func := "wagonway/wagonwaylaw12.StampNames", spec := "stampNames", unfollowed := true, recurses := true, apart := false }
def StampNamesSaid : Prop := stampNamesRow.holds Try.pinned (OpenSpec.ofChange stampNamesSpec)

/-- ITS FALSE NEIGHBOUR: 'it returns false'. Refute it at one input. -/
def stampNamesWrong : ChangeSpec := { name := "stampNames", fn := fun _ => fun
  | [] => { results := [.lit (.bool false)], args := [] }
  | _ => none }
def StampNamesWrongFalsely : Prop := stampNamesRow.holds Try.pinned (OpenSpec.ofChange stampNamesWrong)

/- THE SECOND FORM. 'bulk': how many values and letters a reading holds, each counted each time it is reached (what is shared counts as often as it is met; a slice's spare places count too). A statement '..UptoSaid' is the law's where the arguments, and the package variables that the reading takes, are together of bulk at most 1048576: NARROWER than '..Said'. Prove '..Said' where nothing that the law and all that it calls make is longer than what came in: it says more and counts as full. Else prove '..UptoSaid'. A law counts once. -/
mutual
def uptoBulk {H : Type} : DataW H → Nat
  | .lit (.string bytes) => bytes.length + 1
  | .lit _ => 1
  | .nil => 1
  | .ptr d => uptoBulk d + 1
  | .slice elems spare => uptoBulkAll elems + uptoBulkAll spare + 1
  | .agg parts => uptoBulkAll parts + 1
  | .iface _ d => uptoBulk d + 1
  | .map entries => uptoBulkEntries entries + 1
  | .held _ => 1
def uptoBulkAll {H : Type} : List (DataW H) → Nat
  | [] => 0
  | d :: r => uptoBulk d + uptoBulkAll r
def uptoBulkEntries {H : Type} : List (Lit × DataW H) → Nat
  | [] => 0
  | x :: r => uptoBulkEntry x + uptoBulkEntries r
def uptoBulkEntry {H : Type} : Lit × DataW H → Nat
  | (.string bytes, d) => bytes.length + uptoBulk d + 1
  | (_, d) => uptoBulk d + 1
 end
def uptoSmall : (H : Type) → List (DataW H) → Bool := fun _ ds => decide (uptoBulkAll ds ≤ 1048576)
def OpenSpec.upto (s : _root_.Go.ChangeSpec) : _root_.Go.OpenSpec := { _root_.Go.OpenSpec.ofChange s with cond := some uptoSmall }

/-- 'wagonwaylaw12.StampClocks', WHERE WHAT IT READS IS OF BULK AT MOST 1048576: true; the input reads as it did. -/
def stampClocksUptoRow : OpenClaim := { program := "ytlhocgeppgdopaa", sum := "f7fc84c7306fb959e3c9b29c4c85bf1621cb98a0ecd1e3a69d7d90ff942d5d0a", func := "wagonway/wagonwaylaw12.StampClocks", spec := "stampClocks", apart := false, narrowed := true }
def StampClocksUptoSaid : Prop := stampClocksUptoRow.holds Try.pinned (OpenSpec.upto stampClocksSpec)

/-- 'wagonwaylaw12.StampRises', WHERE WHAT IT READS IS OF BULK AT MOST 1048576: true; the input reads as it did. -/
def stampRisesUptoRow : OpenClaim := { program := "ytlhocgeppgdopaa", sum := "f7fc84c7306fb959e3c9b29c4c85bf1621cb98a0ecd1e3a69d7d90ff942d5d0a", func := "wagonway/wagonwaylaw12.StampRises", spec := "stampRises", unfollowed := true, recurses := true, apart := false, narrowed := true }
def StampRisesUptoSaid : Prop := stampRisesUptoRow.holds Try.pinned (OpenSpec.upto stampRisesSpec)

/-- 'wagonwaylaw12.StampRaises', WHERE WHAT IT READS IS OF BULK AT MOST 1048576: true; the input reads as it did. -/
def stampRaisesUptoRow : OpenClaim := { program := "ytlhocgeppgdopaa", sum := "f7fc84c7306fb959e3c9b29c4c85bf1621cb98a0ecd1e3a69d7d90ff942d5d0a", func := "wagonway/wagonwaylaw12.StampRaises", spec := "stampRaises", unfollowed := true, recurses := true, apart := false, narrowed := true }
def StampRaisesUptoSaid : Prop := stampRaisesUptoRow.holds Try.pinned (OpenSpec.upto stampRaisesSpec)

/-- 'wagonwaylaw12.StampOrders', WHERE WHAT IT READS IS OF BULK AT MOST 1048576: true; the input reads as it did. -/
def stampOrdersUptoRow : OpenClaim := { program := "ytlhocgeppgdopaa", sum := "f7fc84c7306fb959e3c9b29c4c85bf1621cb98a0ecd1e3a69d7d90ff942d5d0a", func := "wagonway/wagonwaylaw12.StampOrders", spec := "stampOrders", unfollowed := true, recurses := true, apart := false, narrowed := true }
def StampOrdersUptoSaid : Prop := stampOrdersUptoRow.holds Try.pinned (OpenSpec.upto stampOrdersSpec)

/-- 'wagonwaylaw12.StampQueues', WHERE WHAT IT READS IS OF BULK AT MOST 1048576: true; the input reads as it did. -/
def stampQueuesUptoRow : OpenClaim := { program := "ytlhocgeppgdopaa", sum := "f7fc84c7306fb959e3c9b29c4c85bf1621cb98a0ecd1e3a69d7d90ff942d5d0a", func := "wagonway/wagonwaylaw12.StampQueues", spec := "stampQueues", unfollowed := true, recurses := true, apart := false, narrowed := true }
def StampQueuesUptoSaid : Prop := stampQueuesUptoRow.holds Try.pinned (OpenSpec.upto stampQueuesSpec)

/-- 'wagonwaylaw12.StampNames', WHERE WHAT IT READS IS OF BULK AT MOST 1048576: true; the input reads as it did. -/
def stampNamesUptoRow : OpenClaim := { program := "ytlhocgeppgdopaa", sum := "f7fc84c7306fb959e3c9b29c4c85bf1621cb98a0ecd1e3a69d7d90ff942d5d0a", func := "wagonway/wagonwaylaw12.StampNames", spec := "stampNames", unfollowed := true, recurses := true, apart := false, narrowed := true }
def StampNamesUptoSaid : Prop := stampNamesUptoRow.holds Try.pinned (OpenSpec.upto stampNamesSpec)

end Rows
end Go.Proofs.Ytlhocgeppgdopaa
