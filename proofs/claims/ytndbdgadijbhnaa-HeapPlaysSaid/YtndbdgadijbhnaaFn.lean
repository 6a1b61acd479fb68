/-
  The least number below n with a property. Plain; no program in sight.
-/
namespace Go.Proofs.Ytndbdgadijbhnaa
/-- the least k < n with p k, or n -/
def firstN (p : Nat → Bool) : Nat → Nat
  | 0 => 0
  | n + 1 => if firstN p n < n then firstN p n else if p n then n else n + 1
theorem firstN_le (p : Nat → Bool) (n : Nat) : firstN p n ≤ n := by
  induction n with
  | zero => simp [firstN]
  | succ n ih =>
    unfold firstN
    split
    · omega
    · split <;> omega
theorem firstN_before {p : Nat → Bool} {n k : Nat} (h : k < firstN p n) : p k = false := by
  induction n with
  | zero => simp [firstN] at h
  | succ n ih =>
    unfold firstN at h
    split at h
    · exact ih h
    · rename_i hge
      have hle := firstN_le p n
      split at h
      · exact ih (by omega)
      · rename_i hp
        by_cases e : k = n
        · subst e; simpa using hp
        · exact ih (by omega)
theorem firstN_hit {p : Nat → Bool} {n : Nat} (h : firstN p n < n) : p (firstN p n) = true := by
  induction n with
  | zero => simp at h
  | succ n ih =>
    unfold firstN at h ⊢
    split
    · rename_i h1; exact ih h1
    · split
      · assumption
      · rename_i h1 h2
        rw [if_neg h1, if_neg h2] at h
        omega
theorem firstN_eq {p : Nat → Bool} {n k : Nat} (hk : k < n) (h : p k = true) (hb : ∀ j, j < k → p j = false) : firstN p n = k := by
  rcases Nat.lt_trichotomy (firstN p n) k with h1 | h1 | h1
  · have := firstN_hit (p := p) (n := n) (by omega)
    rw [hb _ h1] at this
    cases this
  · exact h1
  · have := firstN_before (p := p) (n := n) h1
    rw [h] at this
    cases this
theorem firstN_none {p : Nat → Bool} {n : Nat} (hb : ∀ j, j < n → p j = false) : firstN p n = n := by
  have := firstN_le p n
  by_cases h : firstN p n < n
  · have h1 := firstN_hit h
    rw [hb _ h] at h1
    cases h1
  · omega
theorem firstN_le_of {p : Nat → Bool} {n k : Nat} (_hk : k < n) (h : p k = true) : firstN p n ≤ k := by
  by_cases hle : firstN p n ≤ k
  · exact hle
  · have := firstN_before (p := p) (n := n) (k := k) (by omega)
    rw [h] at this
    cases this
theorem firstN_congr {p q : Nat → Bool} {n : Nat} (h : ∀ k, k < n → p k = q k) : firstN p n = firstN q n := by
  induction n with
  | zero => rfl
  | succ n ih =>
    have := ih fun k hk => h k (by omega)
    unfold firstN
    rw [this, h n (by omega)]
end Go.Proofs.Ytndbdgadijbhnaa
