/-
  A region that draws its order, reads, and calls what only makes memory of its own: ONE walk, in the class of the worlds 'above wo'.
-/
import Derived.Test.YtndbdgadijbhnaaMem
import Derived.BigQuiet
namespace Go.Proofs.Ytndbdgadijbhnaa
open Go.RowKit
/-- a world that has grown from wo, and in which what wo held still stands -/
structure Sub (wo : World) where
  /-- the world -/
  u : World
  /-- what wo held stands -/
  h : Below wo.heap.size wo u
instance (wo : World) : Nonempty (Sub wo) := ⟨⟨wo, Below.refl _ _⟩⟩
section
variable {P : Program}
theorem wp_region_sub {id : Nat} {Q : Exit → Act → World → Prop} {a : Act} {w wo : World} {l : List Oper} (hm : P.follows .mixedOrders = true) (hB : Region.lexB .any l.toArray = true) (hb : Below wo.heap.size wo w)
    (h : wpQuiet P l.toArray (fun u => ∃ x : Sub wo, u = x.u) (fun a' => ∀ w', (∃ x : Sub wo, w' = x.u) → Q .normal a' w') l a) : (Code.region id l.toArray true).wp P Q a w :=
  wp_region_quiet (C := fun u => ∃ x : Sub wo, u = x.u) hm hB ⟨⟨_, hb.drew⟩, rfl⟩ (by simpa using h)
/-- a callee's contract, met in a world of the class -/
theorem calls_sub {wo : World} {f : FuncId} {args : Array Value} {x : Sub wo} {v : Value}
    (h : Calls P f args x.u fun e w' => e = .returned v ∧ Below x.u.heap.size x.u w') : Calls P f args x.u fun e w'' => e = .returned v ∧ ∃ y : Sub wo, w'' = y.u :=
  h.mono fun _ _ ⟨he, hm⟩ => ⟨he, ⟨⟨_, bthen x.h hm (Nat.le_refl _)⟩, rfl⟩⟩
end
end Go.Proofs.Ytndbdgadijbhnaa
