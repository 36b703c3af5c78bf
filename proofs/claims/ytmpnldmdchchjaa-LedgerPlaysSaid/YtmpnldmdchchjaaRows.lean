/-
  No cell of these rows narrows 'for every input' (looked for: loops, veiled, ifaces, maps, wideKeys, modest, calm, conditions, laid).
  DERIVED. THE GIVEN ROWS OF THIS SEAT. 6 by the template 'for every input the law returns true; each argument reads behind the call as it read before'; 0 by the template 'total and deterministic' (their statements: YtmpnldmdchchjaaTotals.lean).
  GIVEN WITH THE SEED: the statements are not yours to turn. If you find one false, say at which input.
  Laid BY PROGRAM, IN A SANDBOX (cutbox-rows.mjs): the forced cells as the released guide's own fill.sh prints them over the translation 17fa95f287545fce… (all of the seat's roots in one cut). By AI agents, Wed Nov 11 2026. No macro, syntax, notation, axiom, sorry.
-/
import Derived.Test.YtmpnldmdchchjaaChecked
import GoSem.Claim
import GoSem.ClaimJoined
import GoSem.ClaimMapViews
import Derived.JoinedTies
import Derived.KernelRfl
namespace Go.Proofs.Ytmpnldmdchchjaa
/- THE CELL 'sum', in the pinned program and in every row, IS THE sha256 OF THE DUMP (.gsa) THAT YtmpnldmdchchjaaProg.lean LOADS. Nothing in Lean hashes anything: it is a label: what it is worth is what the hold of that sum in a sandbox is worth. -/
noncomputable def Try.pinned : Pinned := { name := "ytmpnldmdchchjaa", sum := "17fa95f287545fce2cf0f4226a4372e6b35d8cf27b54bd9a7b15272ff216e793", checked := Try.checked }
namespace Rows
def none {H : Type} : Left H := { results := [], args := [] }

/-- 'wagonwaylaw14.LedgerLoads': WHATEVER THE INPUT: true; the input reads as it did. -/
def ledgerLoadsSpec : ChangeSpec := { name := "ledgerLoads", fn := fun _ => fun
  | [d1, d2] => { results := [.lit (.bool true)], args := [d1, d2] }
  | _ => none }
def ledgerLoadsRow : OpenClaim := { program := "ytmpnldmdchchjaa", sum := "17fa95f287545fce2cf0f4226a4372e6b35d8cf27b54bd9a7b15272ff216e793", func := "wagonway/wagonwaylaw14.LedgerLoads", spec := "ledgerLoads", unfollowed := true, recurses := true, apart := false }
def LedgerLoadsSaid : Prop := ledgerLoadsRow.holds Try.pinned (OpenSpec.ofChange ledgerLoadsSpec)

/-- ITS FALSE NEIGHBOUR: 'it returns false'. Refute it at one input. -/
def ledgerLoadsWrong : ChangeSpec := { name := "ledgerLoads", fn := fun _ => fun
  | [d1, d2] => { results := [.lit (.bool false)], args := [d1, d2] }
  | _ => none }
def LedgerLoadsWrongFalsely : Prop := ledgerLoadsRow.holds Try.pinned (OpenSpec.ofChange ledgerLoadsWrong)

/-- 'wagonwaylaw14.LedgerPlays': WHATEVER THE INPUT: true; the input reads as it did. -/
def ledgerPlaysSpec : ChangeSpec := { name := "ledgerPlays", fn := fun _ => fun
  | [d1, d2, d3] => { results := [.lit (.bool true)], args := [d1, d2, d3] }
  | _ => none }
def ledgerPlaysRow : OpenClaim := { program := "ytmpnldmdchchjaa", sum := "17fa95f287545fce2cf0f4226a4372e6b35d8cf27b54bd9a7b15272ff216e793", func := "wagonway/wagonwaylaw14.LedgerPlays", spec := "ledgerPlays", unfollowed := true, recurses := true, apart := false }
def LedgerPlaysSaid : Prop := ledgerPlaysRow.holds Try.pinned (OpenSpec.ofChange ledgerPlaysSpec)

/-- ITS FALSE NEIGHBOUR: 'it returns false'. Refute it at one input. -/
def ledgerPlaysWrong : ChangeSpec := { name := "ledgerPlays", fn := fun _ => fun
  | [d1, d2, d3] => { results := [.lit (.bool false)], args := [d1, d2, d3] }
  | _ => none }
def LedgerPlaysWrongFalsely : Prop := ledgerPlaysRow.holds Try.pinned (OpenSpec.ofChange ledgerPlaysWrong)

/-- 'wagonwaylaw14.LedgerTurns': WHATEVER THE INPUT: true; the input reads as it did. -/
def ledgerTurnsSpec : ChangeSpec := { name := "ledgerTurns", fn := fun _ => fun
  | [d1, d2] => { results := [.lit (.bool true)], args := [d1, d2] }
  | _ => none }
def ledgerTurnsRow : OpenClaim := { program := "ytmpnldmdchchjaa", sum := "17fa95f287545fce2cf0f4226a4372e6b35d8cf27b54bd9a7b15272ff216e793", func := "wagonway/wagonwaylaw14.LedgerTurns", spec := "ledgerTurns", unfollowed := true, recurses := true, apart := false }
def LedgerTurnsSaid : Prop := ledgerTurnsRow.holds Try.pinned (OpenSpec.ofChange ledgerTurnsSpec)

/-- ITS FALSE NEIGHBOUR: 'it returns false'. Refute it at one input. -/
def ledgerTurnsWrong : ChangeSpec := { name := "ledgerTurns", fn := fun _ => fun
  | [d1, d2] => { results := [.lit (.bool false)], args := [d1, d2] }
  | _ => none }
def LedgerTurnsWrongFalsely : Prop := ledgerTurnsRow.holds Try.pinned (OpenSpec.ofChange ledgerTurnsWrong)

/-- 'wagonwaylaw14.LedgerOld': WHATEVER THE INPUT: true; the input reads as it did. -/
def ledgerOldSpec : ChangeSpec := { name := "ledgerOld", fn := fun _ => fun
  | [d1, d2, d3, d4, d5] => { results := [.lit (.bool true)], args := [d1, d2, d3, d4, d5] }
  | _ => none }
def ledgerOldRow : OpenClaim := { program := "ytmpnldmdchchjaa", sum := "17fa95f287545fce2cf0f4226a4372e6b35d8cf27b54bd9a7b15272ff216e793", func := "wagonway/wagonwaylaw14.LedgerOld", spec := "ledgerOld", unfollowed := true, recurses := true, apart := false }
def LedgerOldSaid : Prop := ledgerOldRow.holds Try.pinned (OpenSpec.ofChange ledgerOldSpec)

/-- ITS FALSE NEIGHBOUR: 'it returns false'. Refute it at one input. -/
def ledgerOldWrong : ChangeSpec := { name := "ledgerOld", fn := fun _ => fun
  | [d1, d2, d3, d4, d5] => { results := [.lit (.bool false)], args := [d1, d2, d3, d4, d5] }
  | _ => none }
def LedgerOldWrongFalsely : Prop := ledgerOldRow.holds Try.pinned (OpenSpec.ofChange ledgerOldWrong)

/-- 'wagonwaylaw14.LedgerGens': WHATEVER THE INPUT: true; the input reads as it did. -/
def ledgerGensSpec : ChangeSpec := { name := "ledgerGens", fn := fun _ => fun
  | [d1, d2] => { results := [.lit (.bool true)], args := [d1, d2] }
  | _ => none }
def ledgerGensRow : OpenClaim := { program := "ytmpnldmdchchjaa", sum := "17fa95f287545fce2cf0f4226a4372e6b35d8cf27b54bd9a7b15272ff216e793", func := "wagonway/wagonwaylaw14.LedgerGens", spec := "ledgerGens", unfollowed := true, recurses := true, apart := false }
def LedgerGensSaid : Prop := ledgerGensRow.holds Try.pinned (OpenSpec.ofChange ledgerGensSpec)

/-- ITS FALSE NEIGHBOUR: 'it returns false'. Refute it at one input. -/
def ledgerGensWrong : ChangeSpec := { name := "ledgerGens", fn := fun _ => fun
  | [d1, d2] => { results := [.lit (.bool false)], args := [d1, d2] }
  | _ => none }
def LedgerGensWrongFalsely : Prop := ledgerGensRow.holds Try.pinned (OpenSpec.ofChange ledgerGensWrong)

/-- 'wagonwaylaw14.LedgerNames': WHATEVER THE INPUT: true; the input reads as it did. -/
def ledgerNamesSpec : ChangeSpec := { name := "ledgerNames", fn := fun _ => fun
  | [] => { results := [.lit (.bool true)], args := [] }
  | _ => none }
def ledgerNamesRow : OpenClaim := { program := "ytmpnldmdchchjaa", sum := "17fa95f287545fce2cf0f4226a4372e6b35d8cf27b54bd9a7b15272ff216e793", func := "wagonway/wagonwaylaw14.LedgerNames", spec := "ledgerNames", unfollowed := true, recurses := true, apart := false }
def LedgerNamesSaid : Prop := ledgerNamesRow.holds Try.pinned (OpenSpec.ofChange ledgerNamesSpec)

/-- ITS FALSE NEIGHBOUR: 'it returns false'. Refute it at one input. -/
def ledgerNamesWrong : ChangeSpec := { name := "ledgerNames", fn := fun _ => fun
  | [] => { results := [.lit (.bool false)], args := [] }
  | _ => none }
def LedgerNamesWrongFalsely : Prop := ledgerNamesRow.holds Try.pinned (OpenSpec.ofChange ledgerNamesWrong)

/- THE SECOND FORM. 'bulk': how many values and letters a reading holds, each counted each time it is reached (what is shared counts as often as it is met; a slice's spare places count too). A statement '..UptoSaid' is the law's where the arguments, and the package variables that the reading takes, are together of bulk at most 1048576: NARROWER than '..Said'. Prove '..Said' where nothing that the law and all that it calls make is longer than what came in: it says more and counts as full. Else prove '..UptoSaid'. A law counts once. -/
mutual
def uptoBulk {H : Type} : DataW H → Nat
  | .lit (.string bytes) => bytes.length + 1
  | .lit _ => 1
  | .nil => 1
  | .ptr d => uptoBulk d + 1
  | .slice elems spare => uptoBulkAll elems + uptoBulkAll spare + 1
  | .agg parts => uptoBulkAll parts + 1
  | .iface _ d => uptoBulk d + 1
  | .map entries => uptoBulkEntries entries + 1
  | .held _ => 1
def uptoBulkAll {H : Type} : List (DataW H) → Nat
  | [] => 0
  | d :: r => uptoBulk d + uptoBulkAll r
def uptoBulkEntries {H : Type} : List (Lit × DataW H) → Nat
  | [] => 0
  | x :: r => uptoBulkEntry x + uptoBulkEntries r
def uptoBulkEntry {H : Type} : Lit × DataW H → Nat
  | (.string bytes, d) => bytes.length + uptoBulk d + 1
  | (_, d) => uptoBulk d + 1
 end
def uptoSmall : (H : Type) → List (DataW H) → Bool := fun _ ds => decide (uptoBulkAll ds ≤ 1048576)
def OpenSpec.upto (s : _root_.Go.ChangeSpec) : _root_.Go.OpenSpec := { _root_.Go.OpenSpec.ofChange s with cond := some uptoSmall }

/-- 'wagonwaylaw14.LedgerLoads', WHERE WHAT IT READS IS OF BULK AT MOST 1048576: true; the input reads as it did. -/
def ledgerLoadsUptoRow : OpenClaim := { program := "ytmpnldmdchchjaa", sum := "17fa95f287545fce2cf0f4226a4372e6b35d8cf27b54bd9a7b15272ff216e793", func := "wagonway/wagonwaylaw14.LedgerLoads", spec := "ledgerLoads", unfollowed := true, recurses := true, apart := false, narrowed := true }
def LedgerLoadsUptoSaid : Prop := ledgerLoadsUptoRow.holds Try.pinned (OpenSpec.upto ledgerLoadsSpec)

/-- 'wagonwaylaw14.LedgerPlays', WHERE WHAT IT READS IS OF BULK AT MOST 1048576: true; the input reads as it did. -/
def ledgerPlaysUptoRow : OpenClaim := { program := "ytmpnldmdchchjaa", sum := "17fa95f287545fce2cf0f4226a4372e6b35d8cf27b54bd9a7b15272ff216e793", func := "wagonway/wagonwaylaw14.LedgerPlays", spec := "ledgerPlays", unfollowed := true, recurses := true, apart := false, narrowed := true }
def LedgerPlaysUptoSaid : Prop := ledgerPlaysUptoRow.holds Try.pinned (OpenSpec.upto ledgerPlaysSpec)

/-- 'wagonwaylaw14.LedgerTurns', WHERE WHAT IT READS IS OF BULK AT MOST 1048576: true; the input reads as it did. -/
def ledgerTurnsUptoRow : OpenClaim := { program := "ytmpnldmdchchjaa", sum := "17fa95f287545fce2cf0f4226a4372e6b35d8cf27b54bd9a7b15272ff216e793", func := "wagonway/wagonwaylaw14.LedgerTurns", spec := "ledgerTurns", unfollowed := true, recurses := true, apart := false, narrowed := true }
def LedgerTurnsUptoSaid : Prop := ledgerTurnsUptoRow.holds Try.pinned (OpenSpec.upto ledgerTurnsSpec)

/-- 'wagonwaylaw14.LedgerOld', WHERE WHAT IT READS IS OF BULK AT MOST 1048576: true; the input reads as it did. -/
def ledgerOldUptoRow : OpenClaim := { program := "ytmpnldmdchchjaa", sum := "17fa95f287545fce2cf0f4226a4372e6b35d8cf27b54bd9a7b15272ff216e793", func := "wagonway/wagonwaylaw14.LedgerOld", spec := "ledgerOld", unfollowed := true, recurses := true, apart := false, narrowed := true }
def LedgerOldUptoSaid : Prop := ledgerOldUptoRow.holds Try.pinned (OpenSpec.upto ledgerOldSpec)

/-- 'wagonwaylaw14.LedgerGens', WHERE WHAT IT READS IS OF BULK AT MOST 1048576: true; the input reads as it did. -/
def ledgerGensUptoRow : OpenClaim := { program := "ytmpnldmdchchjaa", sum := "17fa95f287545fce2cf0f4226a4372e6b35d8cf27b54bd9a7b15272ff216e793", func := "wagonway/wagonwaylaw14.LedgerGens", spec := "ledgerGens", unfollowed := true, recurses := true, apart := false, narrowed := true }
def LedgerGensUptoSaid : Prop := ledgerGensUptoRow.holds Try.pinned (OpenSpec.upto ledgerGensSpec)

/-- 'wagonwaylaw14.LedgerNames', WHERE WHAT IT READS IS OF BULK AT MOST 1048576: true; the input reads as it did. -/
def ledgerNamesUptoRow : OpenClaim := { program := "ytmpnldmdchchjaa", sum := "17fa95f287545fce2cf0f4226a4372e6b35d8cf27b54bd9a7b15272ff216e793", func := "wagonway/wagonwaylaw14.LedgerNames", spec := "ledgerNames", unfollowed := true, recurses := true, apart := false, narrowed := true }
def LedgerNamesUptoSaid : Prop := ledgerNamesUptoRow.holds Try.pinned (OpenSpec.upto ledgerNamesSpec)

end Rows
end Go.Proofs.Ytmpnldmdchchjaa
