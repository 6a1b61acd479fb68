/-
  Bellman-Ford in plain Lean: the rounds. By hand.
-/
import Derived.Test.YtabhinmodnmllaaSpX
namespace Go.Proofs.Ytabhinmodnmllaa

theorem relaxTo_sound {l : List Edge} {v : Int} {n : Nat} (hg : ∀ y ∈ l, GoodE (n : Int) y) {cs : List Int} (h : SoundC (fromE (turnL l)) v n cs) : ∀ k, k ≤ l.length → SoundC (fromE (turnL l)) v n (relaxTo l cs k)
  | 0, _ => h
  | k + 1, hk => by
    rw [relaxTo_step (by omega)]
    have hm : ge l k ∈ l := ge_mem (by omega)
    exact relax_sound (relaxTo_sound hg h k (by omega)) hm (hg _ hm)
theorem relaxTo_cap {l : List Edge} {n : Nat} (hg : ∀ y ∈ l, GoodE (n : Int) y) {cs : List Int} (hl : cs.length = n) {u x : Int} : ∀ {j k : Nat}, j ≤ k → k ≤ l.length → CapC (relaxTo l cs j) u x → CapC (relaxTo l cs k) u x
  | j, 0, hj, _, h => by
    obtain rfl : j = 0 := by omega
    exact h
  | j, k + 1, hj, hk, h => by
    by_cases e : j = k + 1
    · rw [← e]; exact h
    · rw [relaxTo_step (by omega)]
      exact relax_cap (by rw [relaxTo_len _ _ _ (by omega)]; exact hl) (hg _ (ge_mem (by omega))) (relaxTo_cap hg hl (by omega) (by omega) h)
theorem relaxTo_new {l : List Edge} {n : Nat} (hg : ∀ y ∈ l, GoodE (n : Int) y) {cs : List Int} (hl : cs.length = n) {y : Edge} (hy : y ∈ l) {x : Int} (h : CapC cs y.dst x) : CapC (relaxTo l cs l.length) y.src (x + y.wt * 128 + 1) := by
  obtain ⟨k, hk, e⟩ := mem_ge hy
  have h1 : CapC (relaxTo l cs k) y.dst x := relaxTo_cap hg hl (Nat.zero_le k) (by omega) h
  refine relaxTo_cap hg hl (j := k + 1) (by omega) (Nat.le_refl _) ?_
  rw [relaxTo_step hk, e]
  exact relax_new (by rw [relaxTo_len _ _ _ (by omega)]; exact hl) (hg _ hy) h1
end Go.Proofs.Ytabhinmodnmllaa
