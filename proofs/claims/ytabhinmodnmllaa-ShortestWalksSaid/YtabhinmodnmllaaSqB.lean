/-
  Bellman-Ford in plain Lean: its costs are the best. By hand.
-/
import Derived.Test.YtabhinmodnmllaaSqA
namespace Go.Proofs.Ytabhinmodnmllaa

/-- the costs to v of all nodes -/
def costsOf (l : List Edge) (n v : Nat) : List Int := roundsTo l (cost0 n v) n
theorem costs_best {l : List Edge} {n v : Nat} (hn : n ≤ 64) (hv : v < n) (hg : ∀ y ∈ l, GoodE (n : Int) y) {u : Nat} (hu : u < n) {c e : Int} (hb : Best (fromE (turnL l)) (v : Int) (u : Int) c e) (hgr : Graph (fromE (turnL l)) n) : gi (costsOf l n v) u = c * 128 + e := by
  have h := rounds_ok hv hg n
  have hs := best_short hgr ⟨by omega, by omega⟩ hb
  have h1 := h.2 _ _ _ hb.1 (by omega)
  rw [Int.toNat_natCast] at h1
  obtain ⟨c', e', hw, h2⟩ := h.1.2 u hu h1.1
  have h3 := cost_same hgr ⟨by omega, by omega⟩ hn hb hw (by omega)
  show gi (roundsTo l (cost0 n v) n) u = _
  rw [h2, h3.1, h3.2]
theorem costs_none {l : List Edge} {n v : Nat} (hv : v < n) (hg : ∀ y ∈ l, GoodE (n : Int) y) {u : Nat} (hu : u < n) (hno : ∀ c e, ¬ Wk (fromE (turnL l)) (v : Int) (u : Int) c e) : gi (costsOf l n v) u < 0 := by
  have h := rounds_ok hv hg n
  by_cases h0 : gi (costsOf l n v) u < 0
  · exact h0
  · obtain ⟨c, e, hw, _⟩ := h.1.2 u hu (by unfold costsOf at h0; omega)
    exact absurd hw (hno c e)
end Go.Proofs.Ytabhinmodnmllaa
