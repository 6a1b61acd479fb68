/-
  Routes as they come in; the eight names out of the row's condition.
-/
import Derived.Test.YtokjkllfkjiaiaaDoorRtX
import Derived.Test.YtokjkllfkjiaiaaDoorRows
import Derived.OpenShut
import Derived.ChangeArms
import Derived.FnData
import Derived.MakeChecks
namespace Go.Proofs.YtokjkllfkjiaiaaDoor
open Go.ChangeShapes Go.WideShapes Go.RowKit
theorem names_of_laid {W : World} (h : laidMetH Tryd.prog [("transit/route.names", Rows.laid_transit_route_names)] W) : NamesAt W := by
  intro r hr
  rw [MakeChecks.laidMetH_plain _ _ _ (by kernel_rfl)] at h
  obtain ⟨ps, ⟨g, t, cs, fuel, p, q, hg, ht, hv, hd, _, _⟩, _, _⟩ := h
  obtain rfl := Option.some.inj ((show Tryd.prog.globalNamed "transit/route.names" = some 0 by kernel_rfl).symm.trans hg)
  obtain rfl := Option.some.inj ((show (Tryd.prog.globals[0]?).map (·.type) = some 50 by kernel_rfl).symm.trans ht)
  obtain ⟨xs, m, _, ex, _, hl, hel⟩ := DataW.trod_array Tryd.underlying50 hd
  have c5 : Tryd.prog.cellsOf 9 = 1 := by kernel_rfl
  have hE := hel r hr
  rw [c5, Nat.mul_one, List.getElem?_eq_getElem (by omega)] at hE
  obtain ⟨z, e1, e2, _⟩ := DataW.trod_string Tryd.underlying9 hE
  have e3 : Rows.laid_transit_route_names = DataW.agg (xs.map (·.1)) := (Prod.mk.inj ex).1
  have hs : Rows.laid_transit_route_names = DataW.agg ((List.range 8).map fun k => (DataW.lit (.string (nameOf k).data.toList) : DataW Unit)) := by kernel_rfl
  have e4 : (xs.map (·.1))[r]? = ((List.range 8).map fun k => (DataW.lit (.string (nameOf k).data.toList) : DataW Unit))[r]? := by rw [DataW.agg.inj (e3.symm.trans hs)]
  rw [List.getElem?_map, List.getElem?_map, List.getElem?_eq_getElem (by omega : r < xs.length), List.getElem?_range hr, e2] at e4
  have hz : z = nameOf r := by
    simp only [Option.map_some, Option.some.injEq, DataW.lit.injEq, Lit.string.injEq] at e4
    have e5 : z.data = (nameOf r).data := Array.toList_inj.1 e4
    cases z
    cases hn : nameOf r
    rw [hn] at e5
    simp only at e5
    rw [e5]
  rw [World.var?_cell hg hv r, ← hz]
  have : cs.toList[r]? = some (.string z) := by
    have h0 : ((cs.toList.drop r).take 1)[0]? = some (.string z) := by rw [e1]; rfl
    simpa using h0
  simpa using this
section
variable {H : Type} {enc : TypeId × Value → H} {w : World} {base : Nat} {spare : Nat → Bool} {held : Bool} {fuel : Nat} {cs : List Value} {x : DataW H × List MemPlace}
theorem route3 {l : List Value} (h : l.length = 3) : ∃ a b c, l = [a, b, c] := by
  match l, h with
  | [a, b, c], _ => exact ⟨a, b, c, rfl⟩
theorem route_of_trod (h : DataW.trod enc Tryd.prog w base spare held fuel 52 cs = some x) : ∃ a : Route, cs = routeC.cs a ∧ a.id.size ≤ 9223372036854775807 := by
  obtain ⟨hl, hf⟩ := fields_of_trod Tryd.underlying52 (by kernel_rfl) (by kernel_rfl) h
  obtain ⟨a, b, c, rfl⟩ := route3 hl
  obtain ⟨v0, y0, n0, e0, h0⟩ := hf 0 _ rfl
  obtain ⟨v1, y1, n1, e1, h1⟩ := hf 1 _ rfl
  obtain ⟨v2, y2, n2, e2, h2⟩ := hf 2 _ rfl
  obtain ⟨s, q0, _, w0⟩ := DataW.trod_string Tryd.underlying9 h0
  obtain ⟨z, q1, _⟩ := DataW.trod_int Tryd.underlying3 h1
  obtain ⟨f, q2, _⟩ := DataW.trod_bool Tryd.underlying4 h2
  simp only [List.getElem?_cons_zero, List.getElem?_cons_succ, Option.some.injEq] at e0 e1 e2
  injection q0 with q0
  injection q1 with q1
  injection q2 with q2
  subst e0 e1 e2 q0 q1 q2
  exact ⟨⟨s, z, f⟩, rfl, by unfold maxLen at w0; exact w0⟩
theorem routes_of_trod {A : Option Addr} {len cap : Nat} (h : DataW.trod enc Tryd.prog w base spare held fuel 30 [.slice A len cap] = some x) : (∃ xs, SAt routeC w A len xs ∧ SizedR xs) ∧ len ≤ cap :=
  sat_of_trod (C := routeC) (fun s => s.id.size ≤ 9223372036854775807) Tryd.underlying30 (by kernel_rfl) (by decide) (fun _ _ _ h => route_of_trod h) h
end
end Go.Proofs.YtokjkllfkjiaiaaDoor
