/-
  Calls, as they come in.
-/
import Derived.Test.YtackadjhgklieaaDlW
namespace Go.Proofs.Ytackadjhgklieaa
open Go.ChangeShapes Go.WideShapes Go.RowKit
section
variable {H : Type} {enc : TypeId × Value → H} {w : World} {base : Nat} {spare : Nat → Bool} {held : Bool} {fuel : Nat} {cs : List Value} {x : DataW H × List MemPlace}
theorem list5 {l : List Value} (h : l.length = 5) : ∃ a b c d e, l = [a, b, c, d, e] := by
  match l, h with
  | [a, b, c, d, e], _ => exact ⟨a, b, c, d, e, rfl⟩
theorem call_of_trod (h : DataW.trod enc Try.prog w base spare held fuel 41 cs = some x) : ∃ a : Call, cs = callC.cs a ∧ True := by
  obtain ⟨hl, hf⟩ := fields_of_trod Try.underlying41 (by kernel_rfl) (by kernel_rfl) h
  obtain ⟨a, b, c, d, e, rfl⟩ := list5 hl
  obtain ⟨v0, y0, n0, e0, h0⟩ := hf 0 _ rfl
  obtain ⟨v1, y1, n1, e1, h1⟩ := hf 1 _ rfl
  obtain ⟨v2, y2, n2, e2, h2⟩ := hf 2 _ rfl
  obtain ⟨v3, y3, n3, e3, h3⟩ := hf 3 _ rfl
  obtain ⟨v4, y4, n4, e4, h4⟩ := hf 4 _ rfl
  obtain ⟨s, q0, _⟩ := DataW.trod_int Try.underlying3 h0
  obtain ⟨z, q1, _⟩ := DataW.trod_int Try.underlying3 h1
  obtain ⟨f, q2, _⟩ := DataW.trod_int Try.underlying3 h2
  obtain ⟨g, q3, _⟩ := DataW.trod_bool Try.underlying4 h3
  obtain ⟨i, q4, _⟩ := DataW.trod_bool Try.underlying4 h4
  simp only [List.getElem?_cons_zero, List.getElem?_cons_succ, Option.some.injEq] at e0 e1 e2 e3 e4
  injection q0 with q0
  injection q1 with q1
  injection q2 with q2
  injection q3 with q3
  injection q4 with q4
  subst e0 e1 e2 e3 e4 q0 q1 q2 q3 q4
  exact ⟨⟨s, z, f, g, i⟩, rfl, trivial⟩
theorem calls_of_trod {A : Option Addr} {len cap : Nat} (h : DataW.trod enc Try.prog w base spare held fuel 22 [.slice A len cap] = some x) : (∃ xs, SAt callC w A len xs ∧ AnyC xs) ∧ len ≤ cap := by
  obtain ⟨⟨xs, h1, _⟩, h2⟩ := sat_of_trod (C := callC) (fun _ => True) Try.underlying22 (by kernel_rfl) (by decide) (fun _ _ _ h => call_of_trod h) h
  exact ⟨⟨xs, h1, trivial⟩, h2⟩
end
end Go.Proofs.Ytackadjhgklieaa
