/-
  The edges of all nodes together are no more than the edges. By hand.
-/
import Derived.Test.YtabhinmodnmllaaSpP
namespace Go.Proofs.Ytabhinmodnmllaa

theorem filt_split (l : List Edge) (k : Nat) : (l.filter fun e => decide (0 ≤ e.src ∧ e.src < ((k + 1 : Nat) : Int))).length = (l.filter fun e => decide (0 ≤ e.src ∧ e.src < (k : Int))).length + (fromE l (k : Int)).length := by
  unfold fromE
  induction l with
  | nil => rfl
  | cons y t ih =>
    rw [List.filter_cons, List.filter_cons, List.filter_cons]
    by_cases h : y.src = (k : Int)
    · have a1 : decide (0 ≤ y.src ∧ y.src < ((k + 1 : Nat) : Int)) = true := by rw [decide_eq_true_eq]; omega
      have a2 : decide (0 ≤ y.src ∧ y.src < (k : Int)) = false := by rw [decide_eq_false_iff_not]; omega
      have a3 : (y.src == (k : Int)) = true := by rw [beq_iff_eq]; exact h
      rw [a1, a2, a3]
      simp only [if_true, Bool.false_eq_true, if_false, List.length_cons]
      omega
    · have a3 : (y.src == (k : Int)) = false := by rw [beq_eq_false_iff_ne]; exact h
      by_cases h2 : 0 ≤ y.src ∧ y.src < (k : Int)
      · have a1 : decide (0 ≤ y.src ∧ y.src < ((k + 1 : Nat) : Int)) = true := by rw [decide_eq_true_eq]; omega
        have a2 : decide (0 ≤ y.src ∧ y.src < (k : Int)) = true := by rw [decide_eq_true_eq]; exact h2
        rw [a1, a2, a3]
        simp only [if_true, Bool.false_eq_true, if_false, List.length_cons]
        omega
      · have a1 : decide (0 ≤ y.src ∧ y.src < ((k + 1 : Nat) : Int)) = false := by rw [decide_eq_false_iff_not]; omega
        have a2 : decide (0 ≤ y.src ∧ y.src < (k : Int)) = false := by rw [decide_eq_false_iff_not]; exact h2
        rw [a1, a2, a3]
        simp only [Bool.false_eq_true, if_false]
        exact ih
theorem rem_le (l : List Edge) (n : Nat) : remTo (fromE l) (lab0 n) n ≤ l.length := by
  have h : ∀ k, k ≤ n → remTo (fromE l) (lab0 n) k ≤ (l.filter fun e => decide (0 ≤ e.src ∧ e.src < (k : Int))).length := by
    intro k
    induction k with
    | zero => intro _; exact Nat.zero_le _
    | succ k ih =>
      intro hk
      have := ih (by omega)
      rw [remTo, filt_split]
      split <;> omega
  exact Nat.le_trans (h n (Nat.le_refl n)) (List.length_filter_le _ _)
end Go.Proofs.Ytabhinmodnmllaa
