/-
  No cell of these rows narrows 'for every input' (looked for: loops, veiled, ifaces, maps, wideKeys, modest, calm, conditions, laid).
  DERIVED. THE GIVEN ROWS OF THIS SEAT. 6 by the template 'for every input the law returns true; each argument reads behind the call as it read before'; 0 by the template 'total and deterministic' (their statements: YtabhinmodnmllaaTotals.lean).
  GIVEN WITH THE SEED: the statements are not yours to turn. If you find one false, say at which input.
  Laid BY PROGRAM, IN A SANDBOX (cutbox-rows.mjs): the forced cells as the released guide's own fill.sh prints them over the translation 959bcc1ecdf78e42… (all of the seat's roots in one cut). By AI agents, Wed Nov 11 2026. No macro, syntax, notation, axiom, sorry.
-/
import Derived.Test.YtabhinmodnmllaaChecked
import GoSem.Claim
import GoSem.ClaimJoined
import GoSem.ClaimMapViews
import Derived.JoinedTies
import Derived.KernelRfl
namespace Go.Proofs.Ytabhinmodnmllaa
/- THE CELL 'sum', in the pinned program and in every row, IS THE sha256 OF THE DUMP (.gsa) THAT YtabhinmodnmllaaProg.lean LOADS. Nothing in Lean hashes anything: it is a label: what it is worth is what the hold of that sum in a sandbox is worth. -/
noncomputable def Try.pinned : Pinned := { name := "ytabhinmodnmllaa", sum := "959bcc1ecdf78e4225245e9d388c80f756d04db6ea27c9ece5c28a59a0757b8c", checked := Try.checked }
namespace Rows
def none {H : Type} : Left H := { results := [], args := [] }

/-- 'transitlaw12.ShortestDistances': WHATEVER THE INPUT: true; the input reads as it did. -/
def shortestDistancesSpec : ChangeSpec := { name := "shortestDistances", fn := fun _ => fun
  | [d1, d2, d3] => { results := [.lit (.bool true)], args := [d1, d2, d3] }
  | _ => none }
def shortestDistancesRow : OpenClaim := { program := "ytabhinmodnmllaa", sum := "959bcc1ecdf78e4225245e9d388c80f756d04db6ea27c9ece5c28a59a0757b8c", func := "transit/transitlaw12.ShortestDistances", spec := "shortestDistances", unfollowed := true, recurses := true, apart := false }
def ShortestDistancesSaid : Prop := shortestDistancesRow.holds Try.pinned (OpenSpec.ofChange shortestDistancesSpec)

/-- ITS FALSE NEIGHBOUR: 'it returns false'. Refute it at one input. -/
def shortestDistancesWrong : ChangeSpec := { name := "shortestDistances", fn := fun _ => fun
  | [d1, d2, d3] => { results := [.lit (.bool false)], args := [d1, d2, d3] }
  | _ => none }
def ShortestDistancesWrongFalsely : Prop := shortestDistancesRow.holds Try.pinned (OpenSpec.ofChange shortestDistancesWrong)

/-- 'transitlaw12.ShortestPaths': WHATEVER THE INPUT: true; the input reads as it did. -/
def shortestPathsSpec : ChangeSpec := { name := "shortestPaths", fn := fun _ => fun
  | [d1, d2, d3] => { results := [.lit (.bool true)], args := [d1, d2, d3] }
  | _ => none }
def shortestPathsRow : OpenClaim := { program := "ytabhinmodnmllaa", sum := "959bcc1ecdf78e4225245e9d388c80f756d04db6ea27c9ece5c28a59a0757b8c", func := "transit/transitlaw12.ShortestPaths", spec := "shortestPaths", unfollowed := true, recurses := true, apart := false }
def ShortestPathsSaid : Prop := shortestPathsRow.holds Try.pinned (OpenSpec.ofChange shortestPathsSpec)

/-- ITS FALSE NEIGHBOUR: 'it returns false'. Refute it at one input. -/
def shortestPathsWrong : ChangeSpec := { name := "shortestPaths", fn := fun _ => fun
  | [d1, d2, d3] => { results := [.lit (.bool false)], args := [d1, d2, d3] }
  | _ => none }
def ShortestPathsWrongFalsely : Prop := shortestPathsRow.holds Try.pinned (OpenSpec.ofChange shortestPathsWrong)

/-- 'transitlaw12.ShortestComponents': WHATEVER THE INPUT: true; the input reads as it did. -/
def shortestComponentsSpec : ChangeSpec := { name := "shortestComponents", fn := fun _ => fun
  | [d1, d2] => { results := [.lit (.bool true)], args := [d1, d2] }
  | _ => none }
def shortestComponentsRow : OpenClaim := { program := "ytabhinmodnmllaa", sum := "959bcc1ecdf78e4225245e9d388c80f756d04db6ea27c9ece5c28a59a0757b8c", func := "transit/transitlaw12.ShortestComponents", spec := "shortestComponents", unfollowed := true, recurses := true, apart := false }
def ShortestComponentsSaid : Prop := shortestComponentsRow.holds Try.pinned (OpenSpec.ofChange shortestComponentsSpec)

/-- ITS FALSE NEIGHBOUR: 'it returns false'. Refute it at one input. -/
def shortestComponentsWrong : ChangeSpec := { name := "shortestComponents", fn := fun _ => fun
  | [d1, d2] => { results := [.lit (.bool false)], args := [d1, d2] }
  | _ => none }
def ShortestComponentsWrongFalsely : Prop := shortestComponentsRow.holds Try.pinned (OpenSpec.ofChange shortestComponentsWrong)

/-- 'transitlaw12.ShortestWalks': WHATEVER THE INPUT: true; the input reads as it did. -/
def shortestWalksSpec : ChangeSpec := { name := "shortestWalks", fn := fun _ => fun
  | [d1, d2, d3] => { results := [.lit (.bool true)], args := [d1, d2, d3] }
  | _ => none }
def shortestWalksRow : OpenClaim := { program := "ytabhinmodnmllaa", sum := "959bcc1ecdf78e4225245e9d388c80f756d04db6ea27c9ece5c28a59a0757b8c", func := "transit/transitlaw12.ShortestWalks", spec := "shortestWalks", unfollowed := true, recurses := true, apart := false }
def ShortestWalksSaid : Prop := shortestWalksRow.holds Try.pinned (OpenSpec.ofChange shortestWalksSpec)

/-- ITS FALSE NEIGHBOUR: 'it returns false'. Refute it at one input. -/
def shortestWalksWrong : ChangeSpec := { name := "shortestWalks", fn := fun _ => fun
  | [d1, d2, d3] => { results := [.lit (.bool false)], args := [d1, d2, d3] }
  | _ => none }
def ShortestWalksWrongFalsely : Prop := shortestWalksRow.holds Try.pinned (OpenSpec.ofChange shortestWalksWrong)

/-- 'transitlaw12.ShortestMatrix': WHATEVER THE INPUT: true; the input reads as it did. -/
def shortestMatrixSpec : ChangeSpec := { name := "shortestMatrix", fn := fun _ => fun
  | [d1, d2] => { results := [.lit (.bool true)], args := [d1, d2] }
  | _ => none }
def shortestMatrixRow : OpenClaim := { program := "ytabhinmodnmllaa", sum := "959bcc1ecdf78e4225245e9d388c80f756d04db6ea27c9ece5c28a59a0757b8c", func := "transit/transitlaw12.ShortestMatrix", spec := "shortestMatrix", unfollowed := true, recurses := true, apart := false }
def ShortestMatrixSaid : Prop := shortestMatrixRow.holds Try.pinned (OpenSpec.ofChange shortestMatrixSpec)

/-- ITS FALSE NEIGHBOUR: 'it returns false'. Refute it at one input. -/
def shortestMatrixWrong : ChangeSpec := { name := "shortestMatrix", fn := fun _ => fun
  | [d1, d2] => { results := [.lit (.bool false)], args := [d1, d2] }
  | _ => none }
def ShortestMatrixWrongFalsely : Prop := shortestMatrixRow.holds Try.pinned (OpenSpec.ofChange shortestMatrixWrong)

/-- 'transitlaw12.ShortestTriangle': WHATEVER THE INPUT: true; the input reads as it did. -/
def shortestTriangleSpec : ChangeSpec := { name := "shortestTriangle", fn := fun _ => fun
  | [d1, d2] => { results := [.lit (.bool true)], args := [d1, d2] }
  | _ => none }
def shortestTriangleRow : OpenClaim := { program := "ytabhinmodnmllaa", sum := "959bcc1ecdf78e4225245e9d388c80f756d04db6ea27c9ece5c28a59a0757b8c", func := "transit/transitlaw12.ShortestTriangle", spec := "shortestTriangle", unfollowed := true, recurses := true, apart := false }
def ShortestTriangleSaid : Prop := shortestTriangleRow.holds Try.pinned (OpenSpec.ofChange shortestTriangleSpec)

/-- ITS FALSE NEIGHBOUR: 'it returns false'. Refute it at one input. -/
def shortestTriangleWrong : ChangeSpec := { name := "shortestTriangle", fn := fun _ => fun
  | [d1, d2] => { results := [.lit (.bool false)], args := [d1, d2] }
  | _ => none }
def ShortestTriangleWrongFalsely : Prop := shortestTriangleRow.holds Try.pinned (OpenSpec.ofChange shortestTriangleWrong)

/- THE SECOND FORM. 'bulk': how many values and letters a reading holds, each counted each time it is reached (what is shared counts as often as it is met; a slice's spare places count too). A statement '..UptoSaid' is the law's where the arguments, and the package variables that the reading takes, are together of bulk at most 1048576: NARROWER than '..Said'. Prove '..Said' where nothing that the law and all that it calls make is longer than what came in: it says more and counts as full. Else prove '..UptoSaid'. A law counts once. -/
mutual
def uptoBulk {H : Type} : DataW H → Nat
  | .lit (.string bytes) => bytes.length + 1
  | .lit _ => 1
  | .nil => 1
  | .ptr d => uptoBulk d + 1
  | .slice elems spare => uptoBulkAll elems + uptoBulkAll spare + 1
  | .agg parts => uptoBulkAll parts + 1
  | .iface _ d => uptoBulk d + 1
  | .map entries => uptoBulkEntries entries + 1
  | .held _ => 1
def uptoBulkAll {H : Type} : List (DataW H) → Nat
  | [] => 0
  | d :: r => uptoBulk d + uptoBulkAll r
def uptoBulkEntries {H : Type} : List (Lit × DataW H) → Nat
  | [] => 0
  | x :: r => uptoBulkEntry x + uptoBulkEntries r
def uptoBulkEntry {H : Type} : Lit × DataW H → Nat
  | (.string bytes, d) => bytes.length + uptoBulk d + 1
  | (_, d) => uptoBulk d + 1
 end
def uptoSmall : (H : Type) → List (DataW H) → Bool := fun _ ds => decide (uptoBulkAll ds ≤ 1048576)
def OpenSpec.upto (s : _root_.Go.ChangeSpec) : _root_.Go.OpenSpec := { _root_.Go.OpenSpec.ofChange s with cond := some uptoSmall }

/-- 'transitlaw12.ShortestDistances', WHERE WHAT IT READS IS OF BULK AT MOST 1048576: true; the input reads as it did. -/
def shortestDistancesUptoRow : OpenClaim := { program := "ytabhinmodnmllaa", sum := "959bcc1ecdf78e4225245e9d388c80f756d04db6ea27c9ece5c28a59a0757b8c", func := "transit/transitlaw12.ShortestDistances", spec := "shortestDistances", unfollowed := true, recurses := true, apart := false, narrowed := true }
def ShortestDistancesUptoSaid : Prop := shortestDistancesUptoRow.holds Try.pinned (OpenSpec.upto shortestDistancesSpec)

/-- 'transitlaw12.ShortestPaths', WHERE WHAT IT READS IS OF BULK AT MOST 1048576: true; the input reads as it did. -/
def shortestPathsUptoRow : OpenClaim := { program := "ytabhinmodnmllaa", sum := "959bcc1ecdf78e4225245e9d388c80f756d04db6ea27c9ece5c28a59a0757b8c", func := "transit/transitlaw12.ShortestPaths", spec := "shortestPaths", unfollowed := true, recurses := true, apart := false, narrowed := true }
def ShortestPathsUptoSaid : Prop := shortestPathsUptoRow.holds Try.pinned (OpenSpec.upto shortestPathsSpec)

/-- 'transitlaw12.ShortestComponents', WHERE WHAT IT READS IS OF BULK AT MOST 1048576: true; the input reads as it did. -/
def shortestComponentsUptoRow : OpenClaim := { program := "ytabhinmodnmllaa", sum := "959bcc1ecdf78e4225245e9d388c80f756d04db6ea27c9ece5c28a59a0757b8c", func := "transit/transitlaw12.ShortestComponents", spec := "shortestComponents", unfollowed := true, recurses := true, apart := false, narrowed := true }
def ShortestComponentsUptoSaid : Prop := shortestComponentsUptoRow.holds Try.pinned (OpenSpec.upto shortestComponentsSpec)

/-- 'transitlaw12.ShortestWalks', WHERE WHAT IT READS IS OF BULK AT MOST 1048576: true; the input reads as it did. -/
def shortestWalksUptoRow : OpenClaim := { program := "ytabhinmodnmllaa", sum := "959bcc1ecdf78e4225245e9d388c80f756d04db6ea27c9ece5c28a59a0757b8c", func := "transit/transitlaw12.ShortestWalks", spec := "shortestWalks", unfollowed := true, recurses := true, apart := false, narrowed := true }
def ShortestWalksUptoSaid : Prop := shortestWalksUptoRow.holds Try.pinned (OpenSpec.upto shortestWalksSpec)

/-- 'transitlaw12.ShortestMatrix', WHERE WHAT IT READS IS OF BULK AT MOST 1048576: true; the input reads as it did. -/
def shortestMatrixUptoRow : OpenClaim := { program := "ytabhinmodnmllaa", sum := "959bcc1ecdf78e4225245e9d388c80f756d04db6ea27c9ece5c28a59a0757b8c", func := "transit/transitlaw12.ShortestMatrix", spec := "shortestMatrix", unfollowed := true, recurses := true, apart := false, narrowed := true }
def ShortestMatrixUptoSaid : Prop := shortestMatrixUptoRow.holds Try.pinned (OpenSpec.upto shortestMatrixSpec)

/-- 'transitlaw12.ShortestTriangle', WHERE WHAT IT READS IS OF BULK AT MOST 1048576: true; the input reads as it did. -/
def shortestTriangleUptoRow : OpenClaim := { program := "ytabhinmodnmllaa", sum := "959bcc1ecdf78e4225245e9d388c80f756d04db6ea27c9ece5c28a59a0757b8c", func := "transit/transitlaw12.ShortestTriangle", spec := "shortestTriangle", unfollowed := true, recurses := true, apart := false, narrowed := true }
def ShortestTriangleUptoSaid : Prop := shortestTriangleUptoRow.holds Try.pinned (OpenSpec.upto shortestTriangleSpec)

end Rows
end Go.Proofs.Ytabhinmodnmllaa
