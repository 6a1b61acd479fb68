/-
  Bellman-Ford in plain Lean: a round is complete. By hand.
-/
import Derived.Test.YtabhinmodnmllaaSpW
namespace Go.Proofs.Ytabhinmodnmllaa

/-- all walks of at most r edges have been counted -/
def FullC (L : Int → List Edge) (v : Int) (cs : List Int) (r : Int) : Prop :=
  ∀ (u c e : Int), Wk L v u c e → e ≤ r → 0 ≤ gi cs u.toNat ∧ gi cs u.toNat ≤ c * 128 + e
/-- a cost is there and no more than x -/
def CapC (cs : List Int) (u : Int) (x : Int) : Prop := 0 ≤ gi cs u.toNat ∧ gi cs u.toNat ≤ x
theorem relax_cap {cs : List Int} {n : Nat} (hl : cs.length = n) {y : Edge} (hg : GoodE (n : Int) y) {u : Int} {x : Int} (h : CapC cs u x) : CapC (relaxE cs y) u x := by
  obtain ⟨⟨a0, a1⟩, ⟨b0, b1⟩, w0, _⟩ := hg
  unfold CapC at *
  unfold relaxE
  by_cases h1 : gi cs y.dst.toNat < 0
  · rw [if_pos h1]; exact h
  · rw [if_neg h1]
    by_cases h2 : gi cs y.src.toNat < 0 ∨ overE cs y < gi cs y.src.toNat
    · rw [if_pos h2, gi_put (by omega)]
      by_cases e : u.toNat = y.src.toNat
      · rw [if_pos e]
        rw [e] at h
        have h3 : 0 ≤ overE cs y := by unfold overE; omega
        omega
      · rw [if_neg e]; exact h
    · rw [if_neg h2]; exact h
theorem relax_new {cs : List Int} {n : Nat} (hl : cs.length = n) {y : Edge} (hg : GoodE (n : Int) y) {x : Int} (h : CapC cs y.dst x) : CapC (relaxE cs y) y.src (x + y.wt * 128 + 1) := by
  obtain ⟨⟨a0, a1⟩, ⟨b0, b1⟩, w0, _⟩ := hg
  unfold CapC at *
  unfold relaxE
  rw [if_neg (by omega)]
  by_cases h2 : gi cs y.src.toNat < 0 ∨ overE cs y < gi cs y.src.toNat
  · rw [if_pos h2, gi_put (by omega), if_pos rfl]
    unfold overE
    omega
  · rw [if_neg h2]
    unfold overE at h2
    omega
end Go.Proofs.Ytabhinmodnmllaa
