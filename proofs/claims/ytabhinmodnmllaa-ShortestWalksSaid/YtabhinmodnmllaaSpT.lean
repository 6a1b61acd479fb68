/-
  A best walk has fewer edges than there are nodes. By hand.
-/
import Derived.Test.YtabhinmodnmllaaSpM
namespace Go.Proofs.Ytabhinmodnmllaa

/-- every prefix of a best walk is best -/
theorem best_prefix {L : Int → List Edge} {n : Nat} (hg : Graph L n) {s : Int} (hs : 0 ≤ s ∧ s < n) {v c e : Int} (hw : Wk L s v c e) : (∀ c' e', Wk L s v c' e' → LL c e c' e') → ∀ i : Int, 0 ≤ i → i ≤ e → ∃ (u : Int) (c' : Int), (0 ≤ u ∧ u < n) ∧ Best L s u c' i := by
  induction hw with
  | nil =>
    intro hb i h0 h1
    obtain rfl : i = 0 := by omega
    exact ⟨s, 0, hs, .nil, hb⟩
  | step hw hy ih =>
    rename_i v c e y
    intro hb i h0 h1
    by_cases hi : i = e + 1
    · subst hi
      exact ⟨y.dst, _, hg.dst _ _ hy, hw.step hy, hb⟩
    · refine ih (fun c' e' hw' => ?_) i h0 (by omega)
      have := hb _ _ (hw'.step hy)
      unfold LL at *
      omega
/-- an injection of 0 .. m - 1 into the numbers below n -/
theorem pigeon : ∀ (n m : Nat) (f : Nat → Nat), (∀ i, i < m → f i < n) → (∀ i j, i < m → j < m → f i = f j → i = j) → m ≤ n
  | 0, m, f, h, _ => by
    cases m with
    | zero => exact Nat.le_refl _
    | succ m => exact absurd (h 0 (by omega)) (by omega)
  | n + 1, m, f, h, hi => by
    cases m with
    | zero => exact Nat.zero_le _
    | succ m =>
      have := pigeon n m (fun i => if f i = n then f m else f i) (fun i hm => ?_) (fun i j h1 h2 e => ?_)
      · omega
      · show (if f i = n then f m else f i) < n
        by_cases e : f i = n
        · rw [if_pos e]
          have h1 := h m (by omega)
          have h2 : f m ≠ n := fun e2 => by have := hi i m (by omega) (by omega) (e.trans e2.symm); omega
          omega
        · rw [if_neg e]
          have h1 := h i (by omega)
          omega
      · replace e : (if f i = n then f m else f i) = (if f j = n then f m else f j) := e
        by_cases e1 : f i = n
        · by_cases e2 : f j = n
          · exact hi i j (by omega) (by omega) (e1.trans e2.symm)
          · rw [if_pos e1, if_neg e2] at e
            have := hi m j (by omega) (by omega) e
            omega
        · by_cases e2 : f j = n
          · rw [if_neg e1, if_pos e2] at e
            have := hi i m (by omega) (by omega) e
            omega
          · rw [if_neg e1, if_neg e2] at e
            exact hi i j (by omega) (by omega) e
theorem best_short {L : Int → List Edge} {n : Nat} (hg : Graph L n) {s : Int} (hs : 0 ≤ s ∧ s < n) {v c e : Int} (hb : Best L s v c e) : e < n := by
  have he := hb.1.edges
  have hp := best_prefix hg hs hb.1 hb.2
  have hf : ∀ i : Nat, ∃ u : Nat, (i : Int) ≤ e → (u < n ∧ ∃ c', Best L s (u : Int) c' (i : Int)) := fun i => by
    by_cases h : (i : Int) ≤ e
    · obtain ⟨u, c', h1, h2⟩ := hp i (by omega) h
      exact ⟨u.toNat, fun _ => ⟨by omega, c', by rw [Int.toNat_of_nonneg h1.1]; exact h2⟩⟩
    · exact ⟨0, fun h2 => absurd h2 h⟩
  have := pigeon n (e.toNat + 1) (fun i => (hf i).choose) (fun i hi => ((hf i).choose_spec (by omega)).1) (fun i j hi hj e3 => by
    obtain ⟨_, c1, h1⟩ := (hf i).choose_spec (by omega)
    obtain ⟨_, c2, h2⟩ := (hf j).choose_spec (by omega)
    replace e3 : (hf i).choose = (hf j).choose := e3
    rw [e3] at h1
    have := (h1.uniq h2).2
    omega)
  omega
end Go.Proofs.Ytabhinmodnmllaa
