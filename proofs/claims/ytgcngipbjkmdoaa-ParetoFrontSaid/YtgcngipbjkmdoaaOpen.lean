/-
  Arrays of four ints and slices of them, as they come in.
-/
import Derived.Test.YtgcngipbjkmdoaaVecs
import Derived.Deep.Slices
import Derived.Laws.IdiomArrays
import Derived.OpenShut
namespace Go.Proofs.Ytgcngipbjkmdoaa
open Go.ChangeShapes Go.WideShapes Go.RowKit
open Vec (V vi)
section
variable {H : Type} {enc : TypeId × Value → H} {P : Program} {w : World} {base : Nat} {spare : Nat → Bool} {held : Bool} {fuel : Nat} {t s e : TypeId} {cs : List Value} {x : DataW H × List MemPlace}
theorem list4 {l : List Value} (h : l.length = 4) : ∃ a b c d, l = [a, b, c, d] := by
  match l, h with
  | [a, b, c, d], _ => exact ⟨a, b, c, d, rfl⟩
/-- the cells of an array of four ints are a vector -/
theorem vec_of_trod (ht : P.underlying t = some (.array 4 e)) (hce : P.cellsOf e = 1) (hct : P.cellsOf t = 4) (hi : P.underlying e = some (.int .i64)) (h : DataW.trod enc P w base spare held fuel t cs = some x) :
    ∃ v : V, cs = vc v := by
  obtain ⟨xs, m, _, _, hl, _, _⟩ := DataW.trod_array ht h
  rw [hct] at hl
  obtain ⟨a, b, c, d, rfl⟩ := list4 hl
  obtain ⟨y0, y1, y2, y3, n, _, h0, h1, h2, h3⟩ := trod_array4 ht hce h
  obtain ⟨n0, e0, _⟩ := DataW.trod_int hi h0
  obtain ⟨n1, e1, _⟩ := DataW.trod_int hi h1
  obtain ⟨n2, e2, _⟩ := DataW.trod_int hi h2
  obtain ⟨n3, e3, _⟩ := DataW.trod_int hi h3
  injection e0 with e0
  injection e1 with e1
  injection e2 with e2
  injection e3 with e3
  subst e0 e1 e2 e3
  exact ⟨(n0, n1, n2, n3), rfl⟩
theorem spot_none {a : Addr} {v : Value} (h : w.cell? a = some v) : a.spot = none := by
  unfold World.cell? at h
  split at h
  · split at h
    · cases h
    · rename_i hs; simpa using hs
  · cases h
/-- a slice of arrays of four ints reads as a list of vectors -/
theorem vecs_of_trod (hs : P.underlying s = some (.slice t)) (ht : P.underlying t = some (.array 4 e)) (hce : P.cellsOf e = 1) (hct : P.cellsOf t = 4) (hi : P.underlying e = some (.int .i64))
    {A : Option Addr} {len cap : Nat} (h : DataW.trod enc P w base spare held fuel s [.slice A len cap] = some x) : ∃ xs, VecsAt w A len xs := by
  rcases Go.Deep.open_slice hs h with ⟨hcs, _⟩ | ⟨a, l, c, m, n, D, Pl, hcs, hb, hl, _, hmm, _, hel⟩
  · simp at hcs
    obtain ⟨rfl, rfl, rfl⟩ := hcs
    exact ⟨[], VecsAt.nil _ _⟩
  · simp at hcs
    obtain ⟨rfl, rfl, rfl⟩ := hcs
    have hle : len ≤ m := by rw [hmm]; split <;> omega
    have hv : ∀ i, ∃ v : V, i < len → ∀ j, j < 4 → w.cell? ((a.add (i * 4)).add j) = some (.int .i64 (vi v j)) := by
      intro i
      by_cases hil : i < len
      · obtain ⟨cs', h1, h2⟩ := hel i (by omega)
        obtain ⟨v, rfl⟩ := vec_of_trod ht hce hct hi h2
        rw [hct] at h1
        obtain ⟨_, _, h3⟩ := World.cells?_some h1
        exact ⟨v, fun _ j hj => (h3 j hj).trans (vc_at v hj)⟩
      · exact ⟨(0, 0, 0, 0), fun h => absurd h hil⟩
    obtain ⟨f, hf⟩ := Classical.axiomOfChoice hv
    refine ⟨(List.range len).map f, by simp, fun hn => ?_⟩
    have h0 := hf 0 hn 0 (by omega)
    have hsp : a.spot = none := spot_none (by simpa [Addr.add] using h0)
    obtain ⟨b, o, sp⟩ := a
    simp only at hsp
    subst hsp
    refine ⟨b, o, rfl, fun k hk j hj => ?_⟩
    have hk' := hf k hk j hj
    rw [Addr.add_lit, Addr.add_lit] at hk'
    rw [hk']
    congr 3
    simp [gv, hk]
end
/-- an array of four ints by value is a vector -/
theorem vec_of_value {H : Type} {enc : TypeId × Value → H} {P : Program} {w : World} {base : Nat} {spare : Nat → Bool} {held : Bool} {t e : TypeId} {v : Value} {d : DataW H} {ps : List MemPlace} {b2 : Nat} {p : Reach}
    (ht : P.underlying t = some (.array 4 e)) (hce : P.cellsOf e = 1) (hct : P.cellsOf t = 4) (hi : P.underlying e = some (.int .i64))
    (hv : Value.okWide P w p b2 t v) (h : DataW.Trod enc P w base spare held t v d ps) : ∃ x : V, v = .agg #[.int .i64 (vi x 0), .int .i64 (vi x 1), .int .i64 (vi x 2), .int .i64 (vi x 3)] := by
  obtain ⟨cs, rfl, _⟩ : ∃ cs, v = .agg cs ∧ cs.size = P.cellsOf t ∧ Row.okWide P w p b2 t cs := by
    simpa [Value.okWide, ht] using hv
  obtain ⟨fuel, hf⟩ := h
  obtain ⟨x, hx⟩ := vec_of_trod ht hce hct hi hf
  refine ⟨x, ?_⟩
  have : cs = #[.int .i64 (vi x 0), .int .i64 (vi x 1), .int .i64 (vi x 2), .int .i64 (vi x 3)] := by
    apply Array.ext'
    simpa [vc, Value.cells] using hx
  rw [this]
end Go.Proofs.Ytgcngipbjkmdoaa
