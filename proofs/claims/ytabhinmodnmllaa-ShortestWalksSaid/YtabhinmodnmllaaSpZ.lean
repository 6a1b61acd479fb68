/-
  Bellman-Ford in plain Lean: its end. By hand.
-/
import Derived.Test.YtabhinmodnmllaaSpY
namespace Go.Proofs.Ytabhinmodnmllaa

theorem from_turn {l : List Edge} {v : Int} {z : Edge} (hz : z ∈ fromE (turnL l) v) : ∃ y ∈ l, z = turnE y ∧ y.dst = v := by
  unfold fromE at hz
  obtain ⟨h1, h2⟩ := List.mem_filter.1 hz
  obtain ⟨y, hy, rfl⟩ := List.mem_map.1 h1
  exact ⟨y, hy, rfl, beq_iff_eq.1 h2⟩
theorem wk_last {L : Int → List Edge} {s v c e : Int} (h : Wk L s v c e) : (v = s ∧ c = 0 ∧ e = 0) ∨ ∃ (u c' e' : Int) (y : Edge), Wk L s u c' e' ∧ y ∈ L u ∧ v = y.dst ∧ c = c' + y.wt ∧ e = e' + 1 := by
  cases h with
  | nil => exact .inl ⟨rfl, rfl, rfl⟩
  | step hw hy => exact .inr ⟨_, _, _, _, hw, hy, rfl, rfl, rfl⟩
theorem round_full {l : List Edge} {n : Nat} (hg : ∀ y ∈ l, GoodE (n : Int) y) {cs : List Int} (hl : cs.length = n) {v r : Int} (h : FullC (fromE (turnL l)) v cs r) (h0 : 0 ≤ r) : FullC (fromE (turnL l)) v (relaxTo l cs l.length) (r + 1) := by
  intro u c e hw he
  rcases wk_last hw with ⟨rfl, rfl, rfl⟩ | ⟨u', c', e', z, hw', hz, rfl, rfl, rfl⟩
  · exact relaxTo_cap hg hl (j := 0) (Nat.zero_le _) (Nat.le_refl _) (h _ _ _ hw h0)
  · obtain ⟨y, hy, rfl, e2⟩ := from_turn hz
    have h1 := h _ _ _ hw' (by omega)
    rw [← e2] at h1
    have h2 := relaxTo_new hg hl hy (x := c' * 128 + e') h1
    have h3 : c' * 128 + e' + y.wt * 128 + 1 = (c' + y.wt) * 128 + (e' + 1) := by omega
    rw [h3] at h2
    exact h2
end Go.Proofs.Ytabhinmodnmllaa
