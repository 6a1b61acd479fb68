/-
  Tables of stops, as they come in.
-/
import Derived.Test.YteifjnckceeldaaStW
namespace Go.Proofs.Yteifjnckceeldaa
open Go.ChangeShapes Go.WideShapes Go.RowKit
section
variable {H : Type} {enc : TypeId × Value → H} {w : World} {base : Nat} {spare : Nat → Bool} {held : Bool} {fuel : Nat} {cs : List Value} {x : DataW H × List MemPlace}
theorem list4 {l : List Value} (h : l.length = 4) : ∃ a b c d, l = [a, b, c, d] := by
  match l, h with
  | [a, b, c, d], _ => exact ⟨a, b, c, d, rfl⟩
theorem stop_of_trod (h : DataW.trod enc Try.prog w base spare held fuel 43 cs = some x) : ∃ a : Stop, cs = stopC.cs a ∧ a.id.size ≤ 9223372036854775807 := by
  obtain ⟨hl, hf⟩ := fields_of_trod Try.underlying43 (by kernel_rfl) (by kernel_rfl) h
  obtain ⟨a, b, c, d, rfl⟩ := list4 hl
  obtain ⟨v0, y0, n0, e0, h0⟩ := hf 0 _ rfl
  obtain ⟨v1, y1, n1, e1, h1⟩ := hf 1 _ rfl
  obtain ⟨v2, y2, n2, e2, h2⟩ := hf 2 _ rfl
  obtain ⟨v3, y3, n3, e3, h3⟩ := hf 3 _ rfl
  obtain ⟨s, q0, _, hs⟩ := DataW.trod_string Try.underlying9 h0
  obtain ⟨z, q1, _⟩ := DataW.trod_int Try.underlying3 h1
  obtain ⟨f, q2, _⟩ := DataW.trod_bool Try.underlying4 h2
  obtain ⟨g, q3, _⟩ := DataW.trod_int Try.underlying3 h3
  simp only [List.getElem?_cons_zero, List.getElem?_cons_succ, Option.some.injEq] at e0 e1 e2 e3
  injection q0 with q0
  injection q1 with q1
  injection q2 with q2
  injection q3 with q3
  subst e0 e1 e2 e3 q0 q1 q2 q3
  exact ⟨⟨s, z, f, g⟩, rfl, by unfold maxLen at hs; exact hs⟩
theorem stops_of_trod {A : Option Addr} {len cap : Nat} (h : DataW.trod enc Try.prog w base spare held fuel 22 [.slice A len cap] = some x) : (∃ xs, SAt stopC w A len xs ∧ Sized xs) ∧ len ≤ cap :=
  sat_of_trod (C := stopC) (fun s => s.id.size ≤ 9223372036854775807) Try.underlying22 (by kernel_rfl) (by decide) (fun _ _ _ h => stop_of_trod h) h
end
end Go.Proofs.Yteifjnckceeldaa
