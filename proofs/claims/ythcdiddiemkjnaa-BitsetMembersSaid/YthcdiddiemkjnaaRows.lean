/-
  No cell of these rows narrows 'for every input' (looked for: loops, veiled, ifaces, maps, wideKeys, modest, calm, conditions, laid).
  DERIVED. THE GIVEN ROWS OF THIS SEAT. 7 by the template 'for every input the law returns true; each argument reads behind the call as it read before'; 0 by the template 'total and deterministic' (their statements: YthcdiddiemkjnaaTotals.lean).
  GIVEN WITH THE SEED: the statements are not yours to turn. If you find one false, say at which input.
  Laid BY PROGRAM, IN A SANDBOX (cutbox-rows.mjs): the forced cells as the released guide's own fill.sh prints them over the translation 8ba8c238c86a1877… (all of the seat's roots in one cut). By AI agents, Wed Nov 11 2026. No macro, syntax, notation, axiom, sorry.
-/
import Derived.Test.YthcdiddiemkjnaaChecked
import GoSem.Claim
import GoSem.ClaimJoined
import GoSem.ClaimMapViews
import Derived.JoinedTies
import Derived.KernelRfl
namespace Go.Proofs.Ythcdiddiemkjnaa
/- THE CELL 'sum', in the pinned program and in every row, IS THE sha256 OF THE DUMP (.gsa) THAT YthcdiddiemkjnaaProg.lean LOADS. Nothing in Lean hashes anything: it is a label: what it is worth is what the hold of that sum in a sandbox is worth. -/
noncomputable def Try.pinned : Pinned := { name := "ythcdiddiemkjnaa", sum := "8ba8c238c86a187753319227c815420c75ab1c92d709f66ecbb4d8173a6d6ec0", checked := Try.checked }
namespace Rows
def none {H : Type} : Left H := { results := [], args := [] }

/-- 'transitlaw06.BitsetMakes': WHATEVER THE INPUT: true; the input reads as it did. -/
def bitsetMakesSpec : ChangeSpec := { name := "bitsetMakes", fn := fun _ => fun
  | [d1, d2, d3] => { results := [.lit (.bool true)], args := [d1, d2, d3] }
  | _ => none }
def bitsetMakesRow : OpenClaim := { program := "ythcdiddiemkjnaa", sum := "8ba8c238c86a187753319227c815420c75ab1c92d709f66ecbb4d8173a6d6ec0", func := "transit/transitlaw06.BitsetMakes", spec := "bitsetMakes", unfollowed := true, recurses := true, apart := false }
def BitsetMakesSaid : Prop := bitsetMakesRow.holds Try.pinned (OpenSpec.ofChange bitsetMakesSpec)

/-- ITS FALSE NEIGHBOUR: 'it returns false'. Refute it at one input. -/
def bitsetMakesWrong : ChangeSpec := { name := "bitsetMakes", fn := fun _ => fun
  | [d1, d2, d3] => { results := [.lit (.bool false)], args := [d1, d2, d3] }
  | _ => none }
def BitsetMakesWrongFalsely : Prop := bitsetMakesRow.holds Try.pinned (OpenSpec.ofChange bitsetMakesWrong)

/-- 'transitlaw06.BitsetIterates': WHATEVER THE INPUT: true; the input reads as it did. -/
def bitsetIteratesSpec : ChangeSpec := { name := "bitsetIterates", fn := fun _ => fun
  | [d1, d2] => { results := [.lit (.bool true)], args := [d1, d2] }
  | _ => none }
def bitsetIteratesRow : OpenClaim := { program := "ythcdiddiemkjnaa", sum := "8ba8c238c86a187753319227c815420c75ab1c92d709f66ecbb4d8173a6d6ec0", func := "transit/transitlaw06.BitsetIterates", spec := "bitsetIterates", unfollowed := true, recurses := true, apart := false }
def BitsetIteratesSaid : Prop := bitsetIteratesRow.holds Try.pinned (OpenSpec.ofChange bitsetIteratesSpec)

/-- ITS FALSE NEIGHBOUR: 'it returns false'. Refute it at one input. -/
def bitsetIteratesWrong : ChangeSpec := { name := "bitsetIterates", fn := fun _ => fun
  | [d1, d2] => { results := [.lit (.bool false)], args := [d1, d2] }
  | _ => none }
def BitsetIteratesWrongFalsely : Prop := bitsetIteratesRow.holds Try.pinned (OpenSpec.ofChange bitsetIteratesWrong)

/-- 'transitlaw06.BitsetElements': WHATEVER THE INPUT: true; the input reads as it did. -/
def bitsetElementsSpec : ChangeSpec := { name := "bitsetElements", fn := fun _ => fun
  | [d1, d2] => { results := [.lit (.bool true)], args := [d1, d2] }
  | _ => none }
def bitsetElementsRow : OpenClaim := { program := "ythcdiddiemkjnaa", sum := "8ba8c238c86a187753319227c815420c75ab1c92d709f66ecbb4d8173a6d6ec0", func := "transit/transitlaw06.BitsetElements", spec := "bitsetElements", unfollowed := true, recurses := true, apart := false }
def BitsetElementsSaid : Prop := bitsetElementsRow.holds Try.pinned (OpenSpec.ofChange bitsetElementsSpec)

/-- ITS FALSE NEIGHBOUR: 'it returns false'. Refute it at one input. -/
def bitsetElementsWrong : ChangeSpec := { name := "bitsetElements", fn := fun _ => fun
  | [d1, d2] => { results := [.lit (.bool false)], args := [d1, d2] }
  | _ => none }
def BitsetElementsWrongFalsely : Prop := bitsetElementsRow.holds Try.pinned (OpenSpec.ofChange bitsetElementsWrong)

/-- 'transitlaw06.BitsetLists': WHATEVER THE INPUT: true; the input reads as it did. -/
def bitsetListsSpec : ChangeSpec := { name := "bitsetLists", fn := fun _ => fun
  | [d] => { results := [.lit (.bool true)], args := [d] }
  | _ => none }
def bitsetListsRow : OpenClaim := { program := "ythcdiddiemkjnaa", sum := "8ba8c238c86a187753319227c815420c75ab1c92d709f66ecbb4d8173a6d6ec0", func := "transit/transitlaw06.BitsetLists", spec := "bitsetLists", unfollowed := true, recurses := true, apart := false }
def BitsetListsSaid : Prop := bitsetListsRow.holds Try.pinned (OpenSpec.ofChange bitsetListsSpec)

/-- ITS FALSE NEIGHBOUR: 'it returns false'. Refute it at one input. -/
def bitsetListsWrong : ChangeSpec := { name := "bitsetLists", fn := fun _ => fun
  | [d] => { results := [.lit (.bool false)], args := [d] }
  | _ => none }
def BitsetListsWrongFalsely : Prop := bitsetListsRow.holds Try.pinned (OpenSpec.ofChange bitsetListsWrong)

/-- 'transitlaw06.BitsetCombines': WHATEVER THE INPUT: true; the input reads as it did. -/
def bitsetCombinesSpec : ChangeSpec := { name := "bitsetCombines", fn := fun _ => fun
  | [d1, d2] => { results := [.lit (.bool true)], args := [d1, d2] }
  | _ => none }
def bitsetCombinesRow : OpenClaim := { program := "ythcdiddiemkjnaa", sum := "8ba8c238c86a187753319227c815420c75ab1c92d709f66ecbb4d8173a6d6ec0", func := "transit/transitlaw06.BitsetCombines", spec := "bitsetCombines", unfollowed := true, recurses := true, apart := false }
def BitsetCombinesSaid : Prop := bitsetCombinesRow.holds Try.pinned (OpenSpec.ofChange bitsetCombinesSpec)

/-- ITS FALSE NEIGHBOUR: 'it returns false'. Refute it at one input. -/
def bitsetCombinesWrong : ChangeSpec := { name := "bitsetCombines", fn := fun _ => fun
  | [d1, d2] => { results := [.lit (.bool false)], args := [d1, d2] }
  | _ => none }
def BitsetCombinesWrongFalsely : Prop := bitsetCombinesRow.holds Try.pinned (OpenSpec.ofChange bitsetCombinesWrong)

/-- 'transitlaw06.BitsetMembers': WHATEVER THE INPUT: true; the input reads as it did. -/
def bitsetMembersSpec : ChangeSpec := { name := "bitsetMembers", fn := fun _ => fun
  | [d1, d2, d3] => { results := [.lit (.bool true)], args := [d1, d2, d3] }
  | _ => none }
def bitsetMembersRow : OpenClaim := { program := "ythcdiddiemkjnaa", sum := "8ba8c238c86a187753319227c815420c75ab1c92d709f66ecbb4d8173a6d6ec0", func := "transit/transitlaw06.BitsetMembers", spec := "bitsetMembers", unfollowed := true, recurses := true, apart := false }
def BitsetMembersSaid : Prop := bitsetMembersRow.holds Try.pinned (OpenSpec.ofChange bitsetMembersSpec)

/-- ITS FALSE NEIGHBOUR: 'it returns false'. Refute it at one input. -/
def bitsetMembersWrong : ChangeSpec := { name := "bitsetMembers", fn := fun _ => fun
  | [d1, d2, d3] => { results := [.lit (.bool false)], args := [d1, d2, d3] }
  | _ => none }
def BitsetMembersWrongFalsely : Prop := bitsetMembersRow.holds Try.pinned (OpenSpec.ofChange bitsetMembersWrong)

/-- 'transitlaw06.BitsetAlgebra': WHATEVER THE INPUT: true; the input reads as it did. -/
def bitsetAlgebraSpec : ChangeSpec := { name := "bitsetAlgebra", fn := fun _ => fun
  | [d1, d2] => { results := [.lit (.bool true)], args := [d1, d2] }
  | _ => none }
def bitsetAlgebraRow : OpenClaim := { program := "ythcdiddiemkjnaa", sum := "8ba8c238c86a187753319227c815420c75ab1c92d709f66ecbb4d8173a6d6ec0", func := "transit/transitlaw06.BitsetAlgebra", spec := "bitsetAlgebra", unfollowed := true, recurses := true, apart := false }
def BitsetAlgebraSaid : Prop := bitsetAlgebraRow.holds Try.pinned (OpenSpec.ofChange bitsetAlgebraSpec)

/-- ITS FALSE NEIGHBOUR: 'it returns false'. Refute it at one input. -/
def bitsetAlgebraWrong : ChangeSpec := { name := "bitsetAlgebra", fn := fun _ => fun
  | [d1, d2] => { results := [.lit (.bool false)], args := [d1, d2] }
  | _ => none }
def BitsetAlgebraWrongFalsely : Prop := bitsetAlgebraRow.holds Try.pinned (OpenSpec.ofChange bitsetAlgebraWrong)

/- THE SECOND FORM. 'bulk': how many values and letters a reading holds, each counted each time it is reached (what is shared counts as often as it is met; a slice's spare places count too). A statement '..UptoSaid' is the law's where the arguments, and the package variables that the reading takes, are together of bulk at most 1048576: NARROWER than '..Said'. Prove '..Said' where nothing that the law and all that it calls make is longer than what came in: it says more and counts as full. Else prove '..UptoSaid'. A law counts once. -/
mutual
def uptoBulk {H : Type} : DataW H → Nat
  | .lit (.string bytes) => bytes.length + 1
  | .lit _ => 1
  | .nil => 1
  | .ptr d => uptoBulk d + 1
  | .slice elems spare => uptoBulkAll elems + uptoBulkAll spare + 1
  | .agg parts => uptoBulkAll parts + 1
  | .iface _ d => uptoBulk d + 1
  | .map entries => uptoBulkEntries entries + 1
  | .held _ => 1
def uptoBulkAll {H : Type} : List (DataW H) → Nat
  | [] => 0
  | d :: r => uptoBulk d + uptoBulkAll r
def uptoBulkEntries {H : Type} : List (Lit × DataW H) → Nat
  | [] => 0
  | x :: r => uptoBulkEntry x + uptoBulkEntries r
def uptoBulkEntry {H : Type} : Lit × DataW H → Nat
  | (.string bytes, d) => bytes.length + uptoBulk d + 1
  | (_, d) => uptoBulk d + 1
 end
def uptoSmall : (H : Type) → List (DataW H) → Bool := fun _ ds => decide (uptoBulkAll ds ≤ 1048576)
def OpenSpec.upto (s : _root_.Go.ChangeSpec) : _root_.Go.OpenSpec := { _root_.Go.OpenSpec.ofChange s with cond := some uptoSmall }

/-- 'transitlaw06.BitsetMakes', WHERE WHAT IT READS IS OF BULK AT MOST 1048576: true; the input reads as it did. -/
def bitsetMakesUptoRow : OpenClaim := { program := "ythcdiddiemkjnaa", sum := "8ba8c238c86a187753319227c815420c75ab1c92d709f66ecbb4d8173a6d6ec0", func := "transit/transitlaw06.BitsetMakes", spec := "bitsetMakes", unfollowed := true, recurses := true, apart := false, narrowed := true }
def BitsetMakesUptoSaid : Prop := bitsetMakesUptoRow.holds Try.pinned (OpenSpec.upto bitsetMakesSpec)

/-- 'transitlaw06.BitsetIterates', WHERE WHAT IT READS IS OF BULK AT MOST 1048576: true; the input reads as it did. -/
def bitsetIteratesUptoRow : OpenClaim := { program := "ythcdiddiemkjnaa", sum := "8ba8c238c86a187753319227c815420c75ab1c92d709f66ecbb4d8173a6d6ec0", func := "transit/transitlaw06.BitsetIterates", spec := "bitsetIterates", unfollowed := true, recurses := true, apart := false, narrowed := true }
def BitsetIteratesUptoSaid : Prop := bitsetIteratesUptoRow.holds Try.pinned (OpenSpec.upto bitsetIteratesSpec)

/-- 'transitlaw06.BitsetElements', WHERE WHAT IT READS IS OF BULK AT MOST 1048576: true; the input reads as it did. -/
def bitsetElementsUptoRow : OpenClaim := { program := "ythcdiddiemkjnaa", sum := "8ba8c238c86a187753319227c815420c75ab1c92d709f66ecbb4d8173a6d6ec0", func := "transit/transitlaw06.BitsetElements", spec := "bitsetElements", unfollowed := true, recurses := true, apart := false, narrowed := true }
def BitsetElementsUptoSaid : Prop := bitsetElementsUptoRow.holds Try.pinned (OpenSpec.upto bitsetElementsSpec)

/-- 'transitlaw06.BitsetLists', WHERE WHAT IT READS IS OF BULK AT MOST 1048576: true; the input reads as it did. -/
def bitsetListsUptoRow : OpenClaim := { program := "ythcdiddiemkjnaa", sum := "8ba8c238c86a187753319227c815420c75ab1c92d709f66ecbb4d8173a6d6ec0", func := "transit/transitlaw06.BitsetLists", spec := "bitsetLists", unfollowed := true, recurses := true, apart := false, narrowed := true }
def BitsetListsUptoSaid : Prop := bitsetListsUptoRow.holds Try.pinned (OpenSpec.upto bitsetListsSpec)

/-- 'transitlaw06.BitsetCombines', WHERE WHAT IT READS IS OF BULK AT MOST 1048576: true; the input reads as it did. -/
def bitsetCombinesUptoRow : OpenClaim := { program := "ythcdiddiemkjnaa", sum := "8ba8c238c86a187753319227c815420c75ab1c92d709f66ecbb4d8173a6d6ec0", func := "transit/transitlaw06.BitsetCombines", spec := "bitsetCombines", unfollowed := true, recurses := true, apart := false, narrowed := true }
def BitsetCombinesUptoSaid : Prop := bitsetCombinesUptoRow.holds Try.pinned (OpenSpec.upto bitsetCombinesSpec)

/-- 'transitlaw06.BitsetMembers', WHERE WHAT IT READS IS OF BULK AT MOST 1048576: true; the input reads as it did. -/
def bitsetMembersUptoRow : OpenClaim := { program := "ythcdiddiemkjnaa", sum := "8ba8c238c86a187753319227c815420c75ab1c92d709f66ecbb4d8173a6d6ec0", func := "transit/transitlaw06.BitsetMembers", spec := "bitsetMembers", unfollowed := true, recurses := true, apart := false, narrowed := true }
def BitsetMembersUptoSaid : Prop := bitsetMembersUptoRow.holds Try.pinned (OpenSpec.upto bitsetMembersSpec)

/-- 'transitlaw06.BitsetAlgebra', WHERE WHAT IT READS IS OF BULK AT MOST 1048576: true; the input reads as it did. -/
def bitsetAlgebraUptoRow : OpenClaim := { program := "ythcdiddiemkjnaa", sum := "8ba8c238c86a187753319227c815420c75ab1c92d709f66ecbb4d8173a6d6ec0", func := "transit/transitlaw06.BitsetAlgebra", spec := "bitsetAlgebra", unfollowed := true, recurses := true, apart := false, narrowed := true }
def BitsetAlgebraUptoSaid : Prop := bitsetAlgebraUptoRow.holds Try.pinned (OpenSpec.upto bitsetAlgebraSpec)

end Rows
end Go.Proofs.Ythcdiddiemkjnaa
