/-
  Pairs, calls of the heap and strings, as they come in.
-/
import Derived.Test.YtndbdgadijbhnaaHref2
import Derived.Test.YtndbdgadijbhnaaHsortS
import Derived.ChangeArms
namespace Go.Proofs.Ytndbdgadijbhnaa
open Go.ChangeShapes Go.WideShapes Go.RowKit
/-- a call of the heap -/
structure HOp where
  /-- what -/
  what : Int
  /-- the element -/
  x : Pair
/-- how a call lies in memory -/
def opC : Codec HOp where
  cs o := [.int .i64 o.what, .int .i64 o.x.key, .int .i64 o.x.mark]
  sz := 3
  d := ⟨0, ⟨0, 0⟩⟩
  len _ := rfl
  one x u hu := by
    simp at hu
    rcases hu with rfl | rfl | rfl <;> rfl
/-- call k -/
def gop (xs : List HOp) (k : Nat) : HOp := opC.g xs k
theorem op_cells {w : World} {b o n k : Nat} {xs : List HOp} (h : SAt opC w (some ⟨b, o, none⟩) n xs) (hk : k < n) :
    w.cell? ⟨b, o + k * 3, none⟩ = some (.int .i64 (gop xs k).what) ∧ w.cell? ⟨b, o + k * 3 + 1, none⟩ = some (.int .i64 (gop xs k).x.key) ∧ w.cell? ⟨b, o + k * 3 + 2, none⟩ = some (.int .i64 (gop xs k).x.mark) := by
  have hc := h.cells hk
  exact ⟨hc 0 _ rfl, hc 1 _ rfl, hc 2 _ rfl⟩
section
variable {H : Type} {enc : TypeId × Value → H} {w : World} {base : Nat} {spare : Nat → Bool} {held : Bool} {fuel : Nat} {cs : List Value} {x : DataW H × List MemPlace}
theorem list2 {l : List Value} (h : l.length = 2) : ∃ a b, l = [a, b] := by
  match l, h with
  | [a, b], _ => exact ⟨a, b, rfl⟩
theorem list3 {l : List Value} (h : l.length = 3) : ∃ a b c, l = [a, b, c] := by
  match l, h with
  | [a, b, c], _ => exact ⟨a, b, c, rfl⟩
theorem pair_of_trod (h : DataW.trod enc Try.prog w base spare held fuel 28 cs = some x) : ∃ a : Pair, cs = pairC.cs a ∧ True := by
  obtain ⟨hl, hf⟩ := fields_of_trod Try.underlying28 (by kernel_rfl) (by kernel_rfl) h
  obtain ⟨a, b, rfl⟩ := list2 hl
  obtain ⟨v0, y0, n0, e0, h0⟩ := hf 0 _ rfl
  obtain ⟨v1, y1, n1, e1, h1⟩ := hf 1 _ rfl
  obtain ⟨s, q0, _⟩ := DataW.trod_int Try.underlying3 h0
  obtain ⟨z, q1, _⟩ := DataW.trod_int Try.underlying3 h1
  simp only [List.getElem?_cons_zero, List.getElem?_cons_succ, Option.some.injEq] at e0 e1
  injection q0 with q0
  injection q1 with q1
  subst e0 e1 q0 q1
  exact ⟨⟨s, z⟩, rfl, trivial⟩
theorem pairs_of_trod {A : Option Addr} {len cap : Nat} (h : DataW.trod enc Try.prog w base spare held fuel 26 [.slice A len cap] = some x) : (∃ xs, SAt pairC w A len xs ∧ True) ∧ len ≤ cap := by
  obtain ⟨⟨xs, h1, _⟩, h2⟩ := sat_of_trod (C := pairC) (fun _ => True) Try.underlying26 (by kernel_rfl) (by decide) (fun _ _ _ h => pair_of_trod h) h
  exact ⟨⟨xs, h1, trivial⟩, h2⟩
theorem op_of_trod (h : DataW.trod enc Try.prog w base spare held fuel 30 cs = some x) : ∃ a : HOp, cs = opC.cs a ∧ True := by
  obtain ⟨ys, n, _, _, hlen, hyl, hf⟩ := DataW.trod_struct Try.underlying30 h
  obtain ⟨a, b, c, rfl⟩ := list3 (l := cs) (hlen.trans (by kernel_rfl))
  have h0 := hf 0 _ rfl
  have h1 := hf 1 _ rfl
  have hy0 : ys[0]? = some (ys[0]'(by rw [hyl]; decide)) := List.getElem?_eq_getElem _
  have hy1 : ys[1]? = some (ys[1]'(by rw [hyl]; decide)) := List.getElem?_eq_getElem _
  rw [hy0] at h0
  rw [hy1] at h1
  have h0' : DataW.trod enc Try.prog w base spare held n 3 [a] = some (ys[0]'(by rw [hyl]; decide)) := h0
  have h1' : DataW.trod enc Try.prog w base spare held n 28 [b, c] = some (ys[1]'(by rw [hyl]; decide)) := h1
  obtain ⟨s, q0, _⟩ := DataW.trod_int Try.underlying3 h0'
  obtain ⟨z, q1, _⟩ := pair_of_trod h1'
  injection q0 with q0
  subst q0
  have e1 : b = .int .i64 z.key := by injection q1
  have e2 : c = .int .i64 z.mark := by injection q1 with _ q1; injection q1
  subst e1 e2
  exact ⟨⟨s, z⟩, rfl, trivial⟩
theorem ops_of_trod {A : Option Addr} {len cap : Nat} (h : DataW.trod enc Try.prog w base spare held fuel 22 [.slice A len cap] = some x) : (∃ xs, SAt opC w A len xs ∧ True) ∧ len ≤ cap := by
  obtain ⟨⟨xs, h1, _⟩, h2⟩ := sat_of_trod (C := opC) (fun _ => True) Try.underlying22 (by kernel_rfl) (by decide) (fun _ _ _ h => op_of_trod h) h
  exact ⟨⟨xs, h1, trivial⟩, h2⟩
theorem str_of_trod (h : DataW.trod enc Try.prog w base spare held fuel 9 cs = some x) : ∃ a : ByteArray, cs = strC.cs a ∧ a.size ≤ 9223372036854775807 := by
  obtain ⟨s, q0, _, hs⟩ := DataW.trod_string Try.underlying9 h
  exact ⟨s, q0, by unfold maxLen at hs; exact hs⟩
/-- what is known of the strings' lengths -/
def SizedS (l : List ByteArray) : Prop := ∀ s ∈ l, s.size ≤ 9223372036854775807
theorem strs_of_trod {A : Option Addr} {len cap : Nat} (h : DataW.trod enc Try.prog w base spare held fuel 46 [.slice A len cap] = some x) : (∃ xs, SAt strC w A len xs ∧ SizedS xs) ∧ len ≤ cap :=
  sat_of_trod (C := strC) (fun s => s.size ≤ 9223372036854775807) Try.underlying46 (by kernel_rfl) (by decide) (fun _ _ _ h => str_of_trod h) h
end
end Go.Proofs.Ytndbdgadijbhnaa
