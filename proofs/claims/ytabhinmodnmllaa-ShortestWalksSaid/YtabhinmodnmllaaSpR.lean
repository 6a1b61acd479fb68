/-
  What a table without an error is. By hand.
-/
import Derived.Test.YtabhinmodnmllaaSpQ
namespace Go.Proofs.Ytabhinmodnmllaa

theorem errTo_all {n : Int} {l : List Edge} : ∀ {k : Nat}, errTo n l k = 0 → ∀ j, j < k → eE n (ge l j) = 0
  | 0, _, j, hj => absurd hj (by omega)
  | k + 1, h, j, hj => by
    rw [errTo] at h
    by_cases h0 : errTo n l k = 0
    · rw [if_neg (by omega)] at h
      by_cases e : j = k
      · rw [e]; exact h
      · exact errTo_all h0 j (by omega)
    · rw [if_pos h0] at h
      exact absurd h h0
/-- an edge without an error -/
def GoodE (n : Int) (y : Edge) : Prop := (0 ≤ y.src ∧ y.src < n) ∧ (0 ≤ y.dst ∧ y.dst < n) ∧ 0 ≤ y.wt ∧ y.wt ≤ 1073741824
theorem eE_good {n : Int} {y : Edge} (h : eE n y = 0) : GoodE n y := by
  unfold eE at h
  by_cases h1 : badN n y.src = true ∨ badN n y.dst = true
  · rw [if_pos h1] at h
    omega
  · rw [if_neg h1] at h
    have a : badN n y.src = false := by cases e : badN n y.src with | true => exact absurd (.inl e) h1 | false => rfl
    have b : badN n y.dst = false := by cases e : badN n y.dst with | true => exact absurd (.inr e) h1 | false => rfl
    by_cases h2 : y.wt < 0 ∨ 1073741824 < y.wt
    · rw [if_pos h2] at h
      omega
    · exact ⟨badN_no a, badN_no b, by omega, by omega⟩
theorem checkI_good {n : Int} {l : List Edge} (h : checkI n l = 0) : 0 ≤ n ∧ n ≤ 64 ∧ l.length ≤ 4096 ∧ ∀ y ∈ l, GoodE n y := by
  unfold checkI at h
  by_cases h1 : n < 0 ∨ 64 < n
  · rw [if_pos h1] at h
    omega
  · rw [if_neg h1] at h
    by_cases h2 : 4096 < l.length
    · rw [if_pos h2] at h
      omega
    · rw [if_neg h2] at h
      refine ⟨by omega, by omega, by omega, fun y hy => ?_⟩
      obtain ⟨k, hk, e⟩ := mem_ge hy
      rw [← e]
      exact eE_good (errTo_all h k hk)
theorem good_graph {n : Nat} {l : List Edge} (h : ∀ y ∈ l, GoodE (n : Int) y) : Graph (fromE l) n :=
  ⟨fun v y hy => (h y (List.mem_filter.1 hy).1).2.1, fun v y hy => (h y (List.mem_filter.1 hy).1).2.2⟩
theorem checkN_good {n : Int} {l : List Edge} {ns : List Int} (h : checkN n l ns = 0) : checkI n l = 0 ∧ ∀ x ∈ ns, 0 ≤ x ∧ x < n := by
  unfold checkN at h
  by_cases h1 : checkI n l = 0
  · rw [if_neg (by omega)] at h
    refine ⟨h1, fun x hx => ?_⟩
    by_cases h2 : ns.any (badN n) = true
    · rw [if_pos h2] at h
      omega
    · apply badN_no
      cases e : badN n x with
      | true => exact absurd (List.any_eq_true.2 ⟨x, hx, e⟩) h2
      | false => rfl
  · rw [if_pos h1] at h
    exact absurd h h1
end Go.Proofs.Ytabhinmodnmllaa
