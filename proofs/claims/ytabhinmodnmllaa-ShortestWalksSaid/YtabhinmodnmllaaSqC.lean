/-
  Bellman-Ford in plain Lean: the costs stay small. By hand.
-/
import Derived.Test.YtabhinmodnmllaaSqB
namespace Go.Proofs.Ytabhinmodnmllaa

/-- no cost is above b -/
def SmallC (cs : List Int) (b : Int) : Prop := ∀ u : Nat, -1 ≤ gi cs u ∧ gi cs u ≤ b
theorem relax_small {cs : List Int} {n : Nat} (hl : cs.length = n) {y : Edge} (hg : GoodE (n : Int) y) {b : Int} (h : SmallC cs b) : SmallC (relaxE cs y) (b + 137438953473) := by
  obtain ⟨⟨a0, a1⟩, ⟨b0, b1⟩, w0, w1⟩ := hg
  intro u
  have hu := h u
  unfold relaxE
  by_cases h1 : gi cs y.dst.toNat < 0
  · rw [if_pos h1]; omega
  · rw [if_neg h1]
    by_cases h2 : gi cs y.src.toNat < 0 ∨ overE cs y < gi cs y.src.toNat
    · rw [if_pos h2, gi_put (by omega)]
      have hd := h y.dst.toNat
      by_cases e : u = y.src.toNat
      · rw [if_pos e]
        unfold overE
        omega
      · rw [if_neg e]; omega
    · rw [if_neg h2]; omega
theorem relaxTo_small {l : List Edge} {n : Nat} (hg : ∀ y ∈ l, GoodE (n : Int) y) {cs : List Int} (hl : cs.length = n) {b : Int} (h : SmallC cs b) : ∀ k : Nat, k ≤ l.length → SmallC (relaxTo l cs k) (b + (k : Int) * 137438953473)
  | 0, _ => fun u => by have := h u; rw [relaxTo_zero]; omega
  | k + 1, hk => by
    rw [relaxTo_step (by omega)]
    have := relax_small (by rw [relaxTo_len _ _ _ (by omega)]; exact hl) (hg _ (ge_mem (by omega : k < l.length))) (relaxTo_small hg hl h k (by omega))
    intro u
    have h1 := this u
    omega
theorem rounds_small {l : List Edge} {n v : Nat} (hv : v < n) (hg : ∀ y ∈ l, GoodE (n : Int) y) (hm : l.length ≤ 500) : ∀ r : Nat, SmallC (roundsTo l (cost0 n v) r) ((r : Int) * 68719476736500)
  | 0 => fun u => by
    rw [roundsTo]
    by_cases hu : u < n
    · rw [cost0_at hv hu]
      split <;> omega
    · unfold gi
      rw [List.getD_eq_getElem?_getD, List.getElem?_eq_none (by rw [cost0_len]; omega)]
      simp
  | r + 1 => fun u => by
    rw [roundsTo]
    have := relaxTo_small hg (by rw [roundsTo_len, cost0_len]) (rounds_small hv hg hm r) l.length (Nat.le_refl _) u
    omega
end Go.Proofs.Ytabhinmodnmllaa
