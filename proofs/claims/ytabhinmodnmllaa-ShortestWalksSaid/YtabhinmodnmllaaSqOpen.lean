/-
  Edges of the reference, as they come in.
-/
import Derived.Test.YtabhinmodnmllaaSpG
import Derived.ChangeArms
namespace Go.Proofs.Ytabhinmodnmllaa
open Go.ChangeShapes Go.WideShapes Go.RowKit
section
variable {H : Type} {enc : TypeId × Value → H} {w : World} {base : Nat} {spare : Nat → Bool} {held : Bool} {fuel : Nat} {cs : List Value} {x : DataW H × List MemPlace}
theorem list3 {l : List Value} (h : l.length = 3) : ∃ a b c, l = [a, b, c] := by
  match l, h with
  | [a, b, c], _ => exact ⟨a, b, c, rfl⟩
theorem edge_of_trod (h : DataW.trod enc Try.prog w base spare held fuel 46 cs = some x) : ∃ a : Edge, cs = edgeC.cs a ∧ True := by
  obtain ⟨hl, hf⟩ := fields_of_trod Try.underlying46 (by kernel_rfl) (by kernel_rfl) h
  obtain ⟨a, b, c, rfl⟩ := list3 hl
  obtain ⟨v0, y0, n0, e0, h0⟩ := hf 0 _ rfl
  obtain ⟨v1, y1, n1, e1, h1⟩ := hf 1 _ rfl
  obtain ⟨v2, y2, n2, e2, h2⟩ := hf 2 _ rfl
  obtain ⟨s, q0, _⟩ := DataW.trod_int Try.underlying3 h0
  obtain ⟨z, q1, _⟩ := DataW.trod_int Try.underlying3 h1
  obtain ⟨u, q2, _⟩ := DataW.trod_int Try.underlying3 h2
  simp only [List.getElem?_cons_zero, List.getElem?_cons_succ, Option.some.injEq] at e0 e1 e2
  injection q0 with q0
  injection q1 with q1
  injection q2 with q2
  subst e0 e1 e2 q0 q1 q2
  exact ⟨⟨s, z, u⟩, rfl, trivial⟩
theorem edges_of_trod {A : Option Addr} {len cap : Nat} (h : DataW.trod enc Try.prog w base spare held fuel 22 [.slice A len cap] = some x) : (∃ xs, SAt edgeC w A len xs ∧ True) ∧ len ≤ cap := by
  obtain ⟨⟨xs, h1, _⟩, h2⟩ := sat_of_trod (C := edgeC) (fun _ => True) Try.underlying22 (by kernel_rfl) (by decide) (fun _ _ _ h => edge_of_trod h) h
  exact ⟨⟨xs, h1, trivial⟩, h2⟩
end
end Go.Proofs.Ytabhinmodnmllaa
