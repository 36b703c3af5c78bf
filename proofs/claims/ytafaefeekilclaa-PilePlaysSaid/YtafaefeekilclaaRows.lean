/-
  No cell of these rows narrows 'for every input' (looked for: loops, veiled, ifaces, maps, wideKeys, modest, calm, conditions, laid).
  DERIVED. THE GIVEN ROWS OF THIS SEAT. 6 by the template 'for every input the law returns true; each argument reads behind the call as it read before'; 0 by the template 'total and deterministic' (their statements: YtafaefeekilclaaTotals.lean).
  GIVEN WITH THE SEED: the statements are not yours to turn. If you find one false, say at which input.
  Laid BY PROGRAM, IN A SANDBOX (cutbox-rows.mjs): the forced cells as the released guide's own fill.sh prints them over the translation 5fa2826b3afcd317… (all of the seat's roots in one cut). By AI agents, Wed Nov 11 2026. No macro, syntax, notation, axiom, sorry.
-/
import Derived.Test.YtafaefeekilclaaChecked
import GoSem.Claim
import GoSem.ClaimJoined
import GoSem.ClaimMapViews
import Derived.JoinedTies
import Derived.KernelRfl
namespace Go.Proofs.Ytafaefeekilclaa
/- THE CELL 'sum', in the pinned program and in every row, IS THE sha256 OF THE DUMP (.gsa) THAT YtafaefeekilclaaProg.lean LOADS. Nothing in Lean hashes anything: it is a label: what it is worth is what the hold of that sum in a sandbox is worth. -/
noncomputable def Try.pinned : Pinned := { name := "ytafaefeekilclaa", sum := "5fa2826b3afcd317980020ad202ff3f652ffd30c08ea29d90cad553572211318", checked := Try.checked }
namespace Rows
def none {H : Type} : Left H := { results := [], args := [] }

/-- 'wagonwaylaw03.PileSorts': WHATEVER THE INPUT: true; the input reads as it did. -/
def pileSortsSpec : ChangeSpec := { name := "pileSorts", fn := fun _ => fun
  | [d] => { results := [.lit (.bool true)], args := [d] }
  | _ => none }
def pileSortsRow : OpenClaim := { program := "ytafaefeekilclaa", sum := "5fa2826b3afcd317980020ad202ff3f652ffd30c08ea29d90cad553572211318", func := "wagonway/wagonwaylaw03.PileSorts", spec := "pileSorts", unfollowed := true, recurses := true, plainKeys := false, apart := false }
def PileSortsSaid : Prop := pileSortsRow.holds Try.pinned (OpenSpec.ofChange pileSortsSpec)

/-- ITS FALSE NEIGHBOUR: 'it returns false'. Refute it at one input. -/
def pileSortsWrong : ChangeSpec := { name := "pileSorts", fn := fun _ => fun
  | [d] => { results := [.lit (.bool false)], args := [d] }
  | _ => none }
def PileSortsWrongFalsely : Prop := pileSortsRow.holds Try.pinned (OpenSpec.ofChange pileSortsWrong)

/-- 'wagonwaylaw03.PileMerges': WHATEVER THE INPUT: true; the input reads as it did. -/
def pileMergesSpec : ChangeSpec := { name := "pileMerges", fn := fun _ => fun
  | [d1, d2] => { results := [.lit (.bool true)], args := [d1, d2] }
  | _ => none }
def pileMergesRow : OpenClaim := { program := "ytafaefeekilclaa", sum := "5fa2826b3afcd317980020ad202ff3f652ffd30c08ea29d90cad553572211318", func := "wagonway/wagonwaylaw03.PileMerges", spec := "pileMerges", unfollowed := true, recurses := true, plainKeys := false, apart := false }
def PileMergesSaid : Prop := pileMergesRow.holds Try.pinned (OpenSpec.ofChange pileMergesSpec)

/-- ITS FALSE NEIGHBOUR: 'it returns false'. Refute it at one input. -/
def pileMergesWrong : ChangeSpec := { name := "pileMerges", fn := fun _ => fun
  | [d1, d2] => { results := [.lit (.bool false)], args := [d1, d2] }
  | _ => none }
def PileMergesWrongFalsely : Prop := pileMergesRow.holds Try.pinned (OpenSpec.ofChange pileMergesWrong)

/-- 'wagonwaylaw03.PilePlays': WHATEVER THE INPUT: true; the input reads as it did. -/
def pilePlaysSpec : ChangeSpec := { name := "pilePlays", fn := fun _ => fun
  | [d] => { results := [.lit (.bool true)], args := [d] }
  | _ => none }
def pilePlaysRow : OpenClaim := { program := "ytafaefeekilclaa", sum := "5fa2826b3afcd317980020ad202ff3f652ffd30c08ea29d90cad553572211318", func := "wagonway/wagonwaylaw03.PilePlays", spec := "pilePlays", unfollowed := true, recurses := true, plainKeys := false, apart := false }
def PilePlaysSaid : Prop := pilePlaysRow.holds Try.pinned (OpenSpec.ofChange pilePlaysSpec)

/-- ITS FALSE NEIGHBOUR: 'it returns false'. Refute it at one input. -/
def pilePlaysWrong : ChangeSpec := { name := "pilePlays", fn := fun _ => fun
  | [d] => { results := [.lit (.bool false)], args := [d] }
  | _ => none }
def PilePlaysWrongFalsely : Prop := pilePlaysRow.holds Try.pinned (OpenSpec.ofChange pilePlaysWrong)

/-- 'wagonwaylaw03.PileNames': WHATEVER THE INPUT: true; the input reads as it did. -/
def pileNamesSpec : ChangeSpec := { name := "pileNames", fn := fun _ => fun
  | [] => { results := [.lit (.bool true)], args := [] }
  | _ => none }
def pileNamesRow : OpenClaim := { program := "ytafaefeekilclaa", sum := "5fa2826b3afcd317980020ad202ff3f652ffd30c08ea29d90cad553572211318", func := "wagonway/wagonwaylaw03.PileNames", spec := "pileNames", unfollowed := true, recurses := true, plainKeys := false, apart := false }
def PileNamesSaid : Prop := pileNamesRow.holds Try.pinned (OpenSpec.ofChange pileNamesSpec)

/-- ITS FALSE NEIGHBOUR: 'it returns false'. Refute it at one input. -/
def pileNamesWrong : ChangeSpec := { name := "pileNames", fn := fun _ => fun
  | [] => { results := [.lit (.bool false)], args := [] }
  | _ => none }
def PileNamesWrongFalsely : Prop := pileNamesRow.holds Try.pinned (OpenSpec.ofChange pileNamesWrong)

/-- 'wagonwaylaw03.PileTraces': WHATEVER THE INPUT: true; the input reads as it did. -/
def pileTracesSpec : ChangeSpec := { name := "pileTraces", fn := fun _ => fun
  | [d] => { results := [.lit (.bool true)], args := [d] }
  | _ => none }
def pileTracesRow : OpenClaim := { program := "ytafaefeekilclaa", sum := "5fa2826b3afcd317980020ad202ff3f652ffd30c08ea29d90cad553572211318", func := "wagonway/wagonwaylaw03.PileTraces", spec := "pileTraces", unfollowed := true, recurses := true, plainKeys := false, apart := false }
def PileTracesSaid : Prop := pileTracesRow.holds Try.pinned (OpenSpec.ofChange pileTracesSpec)

/-- ITS FALSE NEIGHBOUR: 'it returns false'. Refute it at one input. -/
def pileTracesWrong : ChangeSpec := { name := "pileTraces", fn := fun _ => fun
  | [d] => { results := [.lit (.bool false)], args := [d] }
  | _ => none }
def PileTracesWrongFalsely : Prop := pileTracesRow.holds Try.pinned (OpenSpec.ofChange pileTracesWrong)

/-- 'wagonwaylaw03.PileLeast': WHATEVER THE INPUT: true; the input reads as it did. -/
def pileLeastSpec : ChangeSpec := { name := "pileLeast", fn := fun _ => fun
  | [d1, d2, d3] => { results := [.lit (.bool true)], args := [d1, d2, d3] }
  | _ => none }
def pileLeastRow : OpenClaim := { program := "ytafaefeekilclaa", sum := "5fa2826b3afcd317980020ad202ff3f652ffd30c08ea29d90cad553572211318", func := "wagonway/wagonwaylaw03.PileLeast", spec := "pileLeast", unfollowed := true, recurses := true, plainKeys := false, apart := false }
def PileLeastSaid : Prop := pileLeastRow.holds Try.pinned (OpenSpec.ofChange pileLeastSpec)

/-- ITS FALSE NEIGHBOUR: 'it returns false'. Refute it at one input. -/
def pileLeastWrong : ChangeSpec := { name := "pileLeast", fn := fun _ => fun
  | [d1, d2, d3] => { results := [.lit (.bool false)], args := [d1, d2, d3] }
  | _ => none }
def PileLeastWrongFalsely : Prop := pileLeastRow.holds Try.pinned (OpenSpec.ofChange pileLeastWrong)

/- THE SECOND FORM. 'bulk': how many values and letters a reading holds, each counted each time it is reached (what is shared counts as often as it is met; a slice's spare places count too). A statement '..UptoSaid' is the law's where the arguments, and the package variables that the reading takes, are together of bulk at most 1048576: NARROWER than '..Said'. Prove '..Said' where nothing that the law and all that it calls make is longer than what came in: it says more and counts as full. Else prove '..UptoSaid'. A law counts once. -/
mutual
def uptoBulk {H : Type} : DataW H → Nat
  | .lit (.string bytes) => bytes.length + 1
  | .lit _ => 1
  | .nil => 1
  | .ptr d => uptoBulk d + 1
  | .slice elems spare => uptoBulkAll elems + uptoBulkAll spare + 1
  | .agg parts => uptoBulkAll parts + 1
  | .iface _ d => uptoBulk d + 1
  | .map entries => uptoBulkEntries entries + 1
  | .held _ => 1
def uptoBulkAll {H : Type} : List (DataW H) → Nat
  | [] => 0
  | d :: r => uptoBulk d + uptoBulkAll r
def uptoBulkEntries {H : Type} : List (Lit × DataW H) → Nat
  | [] => 0
  | x :: r => uptoBulkEntry x + uptoBulkEntries r
def uptoBulkEntry {H : Type} : Lit × DataW H → Nat
  | (.string bytes, d) => bytes.length + uptoBulk d + 1
  | (_, d) => uptoBulk d + 1
 end
def uptoSmall : (H : Type) → List (DataW H) → Bool := fun _ ds => decide (uptoBulkAll ds ≤ 1048576)
def OpenSpec.upto (s : _root_.Go.ChangeSpec) : _root_.Go.OpenSpec := { _root_.Go.OpenSpec.ofChange s with cond := some uptoSmall }

/-- 'wagonwaylaw03.PileSorts', WHERE WHAT IT READS IS OF BULK AT MOST 1048576: true; the input reads as it did. -/
def pileSortsUptoRow : OpenClaim := { program := "ytafaefeekilclaa", sum := "5fa2826b3afcd317980020ad202ff3f652ffd30c08ea29d90cad553572211318", func := "wagonway/wagonwaylaw03.PileSorts", spec := "pileSorts", unfollowed := true, recurses := true, plainKeys := false, apart := false, narrowed := true }
def PileSortsUptoSaid : Prop := pileSortsUptoRow.holds Try.pinned (OpenSpec.upto pileSortsSpec)

/-- 'wagonwaylaw03.PileMerges', WHERE WHAT IT READS IS OF BULK AT MOST 1048576: true; the input reads as it did. -/
def pileMergesUptoRow : OpenClaim := { program := "ytafaefeekilclaa", sum := "5fa2826b3afcd317980020ad202ff3f652ffd30c08ea29d90cad553572211318", func := "wagonway/wagonwaylaw03.PileMerges", spec := "pileMerges", unfollowed := true, recurses := true, plainKeys := false, apart := false, narrowed := true }
def PileMergesUptoSaid : Prop := pileMergesUptoRow.holds Try.pinned (OpenSpec.upto pileMergesSpec)

/-- 'wagonwaylaw03.PilePlays', WHERE WHAT IT READS IS OF BULK AT MOST 1048576: true; the input reads as it did. -/
def pilePlaysUptoRow : OpenClaim := { program := "ytafaefeekilclaa", sum := "5fa2826b3afcd317980020ad202ff3f652ffd30c08ea29d90cad553572211318", func := "wagonway/wagonwaylaw03.PilePlays", spec := "pilePlays", unfollowed := true, recurses := true, plainKeys := false, apart := false, narrowed := true }
def PilePlaysUptoSaid : Prop := pilePlaysUptoRow.holds Try.pinned (OpenSpec.upto pilePlaysSpec)

/-- 'wagonwaylaw03.PileNames', WHERE WHAT IT READS IS OF BULK AT MOST 1048576: true; the input reads as it did. -/
def pileNamesUptoRow : OpenClaim := { program := "ytafaefeekilclaa", sum := "5fa2826b3afcd317980020ad202ff3f652ffd30c08ea29d90cad553572211318", func := "wagonway/wagonwaylaw03.PileNames", spec := "pileNames", unfollowed := true, recurses := true, plainKeys := false, apart := false, narrowed := true }
def PileNamesUptoSaid : Prop := pileNamesUptoRow.holds Try.pinned (OpenSpec.upto pileNamesSpec)

/-- 'wagonwaylaw03.PileTraces', WHERE WHAT IT READS IS OF BULK AT MOST 1048576: true; the input reads as it did. -/
def pileTracesUptoRow : OpenClaim := { program := "ytafaefeekilclaa", sum := "5fa2826b3afcd317980020ad202ff3f652ffd30c08ea29d90cad553572211318", func := "wagonway/wagonwaylaw03.PileTraces", spec := "pileTraces", unfollowed := true, recurses := true, plainKeys := false, apart := false, narrowed := true }
def PileTracesUptoSaid : Prop := pileTracesUptoRow.holds Try.pinned (OpenSpec.upto pileTracesSpec)

/-- 'wagonwaylaw03.PileLeast', WHERE WHAT IT READS IS OF BULK AT MOST 1048576: true; the input reads as it did. -/
def pileLeastUptoRow : OpenClaim := { program := "ytafaefeekilclaa", sum := "5fa2826b3afcd317980020ad202ff3f652ffd30c08ea29d90cad553572211318", func := "wagonway/wagonwaylaw03.PileLeast", spec := "pileLeast", unfollowed := true, recurses := true, plainKeys := false, apart := false, narrowed := true }
def PileLeastUptoSaid : Prop := pileLeastUptoRow.holds Try.pinned (OpenSpec.upto pileLeastSpec)

end Rows
end Go.Proofs.Ytafaefeekilclaa
