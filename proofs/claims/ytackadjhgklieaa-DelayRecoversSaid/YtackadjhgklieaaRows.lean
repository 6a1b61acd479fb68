/-
  No cell of these rows narrows 'for every input' (looked for: loops, veiled, ifaces, maps, wideKeys, modest, calm, conditions, laid).
  DERIVED. THE GIVEN ROWS OF THIS SEAT. 7 by the template 'for every input the law returns true; each argument reads behind the call as it read before'; 0 by the template 'total and deterministic' (their statements: YtackadjhgklieaaTotals.lean).
  GIVEN WITH THE SEED: the statements are not yours to turn. If you find one false, say at which input.
  Laid BY PROGRAM, IN A SANDBOX (cutbox-rows.mjs): the forced cells as the released guide's own fill.sh prints them over the translation 4edad1d866535871… (all of the seat's roots in one cut). By AI agents, Wed Nov 11 2026. No macro, syntax, notation, axiom, sorry.
-/
import Derived.Test.YtackadjhgklieaaChecked
import GoSem.Claim
import GoSem.ClaimJoined
import GoSem.ClaimMapViews
import Derived.JoinedTies
import Derived.KernelRfl
namespace Go.Proofs.Ytackadjhgklieaa
/- THE CELL 'sum', in the pinned program and in every row, IS THE sha256 OF THE DUMP (.gsa) THAT YtackadjhgklieaaProg.lean LOADS. Nothing in Lean hashes anything: it is a label: what it is worth is what the hold of that sum in a sandbox is worth. -/
noncomputable def Try.pinned : Pinned := { name := "ytackadjhgklieaa", sum := "4edad1d866535871c091d98255be6495f2240100b111a148237d7afeba3d56d3", checked := Try.checked }
namespace Rows
def none {H : Type} : Left H := { results := [], args := [] }

/-- 'transitlaw30.DelayPropagates': WHATEVER THE INPUT: true; the input reads as it did. -/
def delayPropagatesSpec : ChangeSpec := { name := "delayPropagates", fn := fun _ => fun
  | [d1, d2, d3] => { results := [.lit (.bool true)], args := [d1, d2, d3] }
  | _ => none }
def delayPropagatesRow : OpenClaim := { program := "ytackadjhgklieaa", sum := "4edad1d866535871c091d98255be6495f2240100b111a148237d7afeba3d56d3", func := "transit/transitlaw30.DelayPropagates", spec := "delayPropagates", apart := false }
def DelayPropagatesSaid : Prop := delayPropagatesRow.holds Try.pinned (OpenSpec.ofChange delayPropagatesSpec)

/-- ITS FALSE NEIGHBOUR: 'it returns false'. Refute it at one input. -/
def delayPropagatesWrong : ChangeSpec := { name := "delayPropagates", fn := fun _ => fun
  | [d1, d2, d3] => { results := [.lit (.bool false)], args := [d1, d2, d3] }
  | _ => none }
def DelayPropagatesWrongFalsely : Prop := delayPropagatesRow.holds Try.pinned (OpenSpec.ofChange delayPropagatesWrong)

/-- 'transitlaw30.DelayLateness': WHATEVER THE INPUT: true; the input reads as it did. -/
def delayLatenessSpec : ChangeSpec := { name := "delayLateness", fn := fun _ => fun
  | [d1, d2] => { results := [.lit (.bool true)], args := [d1, d2] }
  | _ => none }
def delayLatenessRow : OpenClaim := { program := "ytackadjhgklieaa", sum := "4edad1d866535871c091d98255be6495f2240100b111a148237d7afeba3d56d3", func := "transit/transitlaw30.DelayLateness", spec := "delayLateness", apart := false }
def DelayLatenessSaid : Prop := delayLatenessRow.holds Try.pinned (OpenSpec.ofChange delayLatenessSpec)

/-- ITS FALSE NEIGHBOUR: 'it returns false'. Refute it at one input. -/
def delayLatenessWrong : ChangeSpec := { name := "delayLateness", fn := fun _ => fun
  | [d1, d2] => { results := [.lit (.bool false)], args := [d1, d2] }
  | _ => none }
def DelayLatenessWrongFalsely : Prop := delayLatenessRow.holds Try.pinned (OpenSpec.ofChange delayLatenessWrong)

/-- 'transitlaw30.DelaySlacks': WHATEVER THE INPUT: true; the input reads as it did. -/
def delaySlacksSpec : ChangeSpec := { name := "delaySlacks", fn := fun _ => fun
  | [d1, d2] => { results := [.lit (.bool true)], args := [d1, d2] }
  | _ => none }
def delaySlacksRow : OpenClaim := { program := "ytackadjhgklieaa", sum := "4edad1d866535871c091d98255be6495f2240100b111a148237d7afeba3d56d3", func := "transit/transitlaw30.DelaySlacks", spec := "delaySlacks", apart := false }
def DelaySlacksSaid : Prop := delaySlacksRow.holds Try.pinned (OpenSpec.ofChange delaySlacksSpec)

/-- ITS FALSE NEIGHBOUR: 'it returns false'. Refute it at one input. -/
def delaySlacksWrong : ChangeSpec := { name := "delaySlacks", fn := fun _ => fun
  | [d1, d2] => { results := [.lit (.bool false)], args := [d1, d2] }
  | _ => none }
def DelaySlacksWrongFalsely : Prop := delaySlacksRow.holds Try.pinned (OpenSpec.ofChange delaySlacksWrong)

/-- 'transitlaw30.DelayRecovery': WHATEVER THE INPUT: true; the input reads as it did. -/
def delayRecoverySpec : ChangeSpec := { name := "delayRecovery", fn := fun _ => fun
  | [d1, d2, d3] => { results := [.lit (.bool true)], args := [d1, d2, d3] }
  | _ => none }
def delayRecoveryRow : OpenClaim := { program := "ytackadjhgklieaa", sum := "4edad1d866535871c091d98255be6495f2240100b111a148237d7afeba3d56d3", func := "transit/transitlaw30.DelayRecovery", spec := "delayRecovery", apart := false }
def DelayRecoverySaid : Prop := delayRecoveryRow.holds Try.pinned (OpenSpec.ofChange delayRecoverySpec)

/-- ITS FALSE NEIGHBOUR: 'it returns false'. Refute it at one input. -/
def delayRecoveryWrong : ChangeSpec := { name := "delayRecovery", fn := fun _ => fun
  | [d1, d2, d3] => { results := [.lit (.bool false)], args := [d1, d2, d3] }
  | _ => none }
def DelayRecoveryWrongFalsely : Prop := delayRecoveryRow.holds Try.pinned (OpenSpec.ofChange delayRecoveryWrong)

/-- 'transitlaw30.DelayRecovers': WHATEVER THE INPUT: true; the input reads as it did. -/
def delayRecoversSpec : ChangeSpec := { name := "delayRecovers", fn := fun _ => fun
  | [d1, d2, d3] => { results := [.lit (.bool true)], args := [d1, d2, d3] }
  | _ => none }
def delayRecoversRow : OpenClaim := { program := "ytackadjhgklieaa", sum := "4edad1d866535871c091d98255be6495f2240100b111a148237d7afeba3d56d3", func := "transit/transitlaw30.DelayRecovers", spec := "delayRecovers", apart := false }
def DelayRecoversSaid : Prop := delayRecoversRow.holds Try.pinned (OpenSpec.ofChange delayRecoversSpec)

/-- ITS FALSE NEIGHBOUR: 'it returns false'. Refute it at one input. -/
def delayRecoversWrong : ChangeSpec := { name := "delayRecovers", fn := fun _ => fun
  | [d1, d2, d3] => { results := [.lit (.bool false)], args := [d1, d2, d3] }
  | _ => none }
def DelayRecoversWrongFalsely : Prop := delayRecoversRow.holds Try.pinned (OpenSpec.ofChange delayRecoversWrong)

/-- 'transitlaw30.DelayAbsorbs': WHATEVER THE INPUT: true; the input reads as it did. -/
def delayAbsorbsSpec : ChangeSpec := { name := "delayAbsorbs", fn := fun _ => fun
  | [d1, d2, d3] => { results := [.lit (.bool true)], args := [d1, d2, d3] }
  | _ => none }
def delayAbsorbsRow : OpenClaim := { program := "ytackadjhgklieaa", sum := "4edad1d866535871c091d98255be6495f2240100b111a148237d7afeba3d56d3", func := "transit/transitlaw30.DelayAbsorbs", spec := "delayAbsorbs", apart := false }
def DelayAbsorbsSaid : Prop := delayAbsorbsRow.holds Try.pinned (OpenSpec.ofChange delayAbsorbsSpec)

/-- ITS FALSE NEIGHBOUR: 'it returns false'. Refute it at one input. -/
def delayAbsorbsWrong : ChangeSpec := { name := "delayAbsorbs", fn := fun _ => fun
  | [d1, d2, d3] => { results := [.lit (.bool false)], args := [d1, d2, d3] }
  | _ => none }
def DelayAbsorbsWrongFalsely : Prop := delayAbsorbsRow.holds Try.pinned (OpenSpec.ofChange delayAbsorbsWrong)

/-- 'transitlaw30.DelayOrders': WHATEVER THE INPUT: true; the input reads as it did. -/
def delayOrdersSpec : ChangeSpec := { name := "delayOrders", fn := fun _ => fun
  | [d1, d2, d3] => { results := [.lit (.bool true)], args := [d1, d2, d3] }
  | _ => none }
def delayOrdersRow : OpenClaim := { program := "ytackadjhgklieaa", sum := "4edad1d866535871c091d98255be6495f2240100b111a148237d7afeba3d56d3", func := "transit/transitlaw30.DelayOrders", spec := "delayOrders", apart := false }
def DelayOrdersSaid : Prop := delayOrdersRow.holds Try.pinned (OpenSpec.ofChange delayOrdersSpec)

/-- ITS FALSE NEIGHBOUR: 'it returns false'. Refute it at one input. -/
def delayOrdersWrong : ChangeSpec := { name := "delayOrders", fn := fun _ => fun
  | [d1, d2, d3] => { results := [.lit (.bool false)], args := [d1, d2, d3] }
  | _ => none }
def DelayOrdersWrongFalsely : Prop := delayOrdersRow.holds Try.pinned (OpenSpec.ofChange delayOrdersWrong)

/- THE SECOND FORM. 'bulk': how many values and letters a reading holds, each counted each time it is reached (what is shared counts as often as it is met; a slice's spare places count too). A statement '..UptoSaid' is the law's where the arguments, and the package variables that the reading takes, are together of bulk at most 1048576: NARROWER than '..Said'. Prove '..Said' where nothing that the law and all that it calls make is longer than what came in: it says more and counts as full. Else prove '..UptoSaid'. A law counts once. -/
mutual
def uptoBulk {H : Type} : DataW H → Nat
  | .lit (.string bytes) => bytes.length + 1
  | .lit _ => 1
  | .nil => 1
  | .ptr d => uptoBulk d + 1
  | .slice elems spare => uptoBulkAll elems + uptoBulkAll spare + 1
  | .agg parts => uptoBulkAll parts + 1
  | .iface _ d => uptoBulk d + 1
  | .map entries => uptoBulkEntries entries + 1
  | .held _ => 1
def uptoBulkAll {H : Type} : List (DataW H) → Nat
  | [] => 0
  | d :: r => uptoBulk d + uptoBulkAll r
def uptoBulkEntries {H : Type} : List (Lit × DataW H) → Nat
  | [] => 0
  | x :: r => uptoBulkEntry x + uptoBulkEntries r
def uptoBulkEntry {H : Type} : Lit × DataW H → Nat
  | (.string bytes, d) => bytes.length + uptoBulk d + 1
  | (_, d) => uptoBulk d + 1
 end
def uptoSmall : (H : Type) → List (DataW H) → Bool := fun _ ds => decide (uptoBulkAll ds ≤ 1048576)
def OpenSpec.upto (s : _root_.Go.ChangeSpec) : _root_.Go.OpenSpec := { _root_.Go.OpenSpec.ofChange s with cond := some uptoSmall }

/-- 'transitlaw30.DelayPropagates', WHERE WHAT IT READS IS OF BULK AT MOST 1048576: true; the input reads as it did. -/
def delayPropagatesUptoRow : OpenClaim := { program := "ytackadjhgklieaa", sum := "4edad1d866535871c091d98255be6495f2240100b111a148237d7afeba3d56d3", func := "transit/transitlaw30.DelayPropagates", spec := "delayPropagates", apart := false, narrowed := true }
def DelayPropagatesUptoSaid : Prop := delayPropagatesUptoRow.holds Try.pinned (OpenSpec.upto delayPropagatesSpec)

/-- 'transitlaw30.DelayLateness', WHERE WHAT IT READS IS OF BULK AT MOST 1048576: true; the input reads as it did. -/
def delayLatenessUptoRow : OpenClaim := { program := "ytackadjhgklieaa", sum := "4edad1d866535871c091d98255be6495f2240100b111a148237d7afeba3d56d3", func := "transit/transitlaw30.DelayLateness", spec := "delayLateness", apart := false, narrowed := true }
def DelayLatenessUptoSaid : Prop := delayLatenessUptoRow.holds Try.pinned (OpenSpec.upto delayLatenessSpec)

/-- 'transitlaw30.DelaySlacks', WHERE WHAT IT READS IS OF BULK AT MOST 1048576: true; the input reads as it did. -/
def delaySlacksUptoRow : OpenClaim := { program := "ytackadjhgklieaa", sum := "4edad1d866535871c091d98255be6495f2240100b111a148237d7afeba3d56d3", func := "transit/transitlaw30.DelaySlacks", spec := "delaySlacks", apart := false, narrowed := true }
def DelaySlacksUptoSaid : Prop := delaySlacksUptoRow.holds Try.pinned (OpenSpec.upto delaySlacksSpec)

/-- 'transitlaw30.DelayRecovery', WHERE WHAT IT READS IS OF BULK AT MOST 1048576: true; the input reads as it did. -/
def delayRecoveryUptoRow : OpenClaim := { program := "ytackadjhgklieaa", sum := "4edad1d866535871c091d98255be6495f2240100b111a148237d7afeba3d56d3", func := "transit/transitlaw30.DelayRecovery", spec := "delayRecovery", apart := false, narrowed := true }
def DelayRecoveryUptoSaid : Prop := delayRecoveryUptoRow.holds Try.pinned (OpenSpec.upto delayRecoverySpec)

/-- 'transitlaw30.DelayRecovers', WHERE WHAT IT READS IS OF BULK AT MOST 1048576: true; the input reads as it did. -/
def delayRecoversUptoRow : OpenClaim := { program := "ytackadjhgklieaa", sum := "4edad1d866535871c091d98255be6495f2240100b111a148237d7afeba3d56d3", func := "transit/transitlaw30.DelayRecovers", spec := "delayRecovers", apart := false, narrowed := true }
def DelayRecoversUptoSaid : Prop := delayRecoversUptoRow.holds Try.pinned (OpenSpec.upto delayRecoversSpec)

/-- 'transitlaw30.DelayAbsorbs', WHERE WHAT IT READS IS OF BULK AT MOST 1048576: true; the input reads as it did. -/
def delayAbsorbsUptoRow : OpenClaim := { program := "ytackadjhgklieaa", sum := "4edad1d866535871c091d98255be6495f2240100b111a148237d7afeba3d56d3", func := "transit/transitlaw30.DelayAbsorbs", spec := "delayAbsorbs", apart := false, narrowed := true }
def DelayAbsorbsUptoSaid : Prop := delayAbsorbsUptoRow.holds Try.pinned (OpenSpec.upto delayAbsorbsSpec)

/-- 'transitlaw30.DelayOrders', WHERE WHAT IT READS IS OF BULK AT MOST 1048576: true; the input reads as it did. -/
def delayOrdersUptoRow : OpenClaim := { program := "ytackadjhgklieaa", sum := "4edad1d866535871c091d98255be6495f2240100b111a148237d7afeba3d56d3", func := "transit/transitlaw30.DelayOrders", spec := "delayOrders", apart := false, narrowed := true }
def DelayOrdersUptoSaid : Prop := delayOrdersUptoRow.holds Try.pinned (OpenSpec.upto delayOrdersSpec)

end Rows
end Go.Proofs.Ytackadjhgklieaa
