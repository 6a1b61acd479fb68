/-
  Bellman-Ford in plain Lean: n rounds from the start. By hand.
-/
import Derived.Test.YtabhinmodnmllaaSpZ
namespace Go.Proofs.Ytabhinmodnmllaa

theorem cost0_len (n v : Nat) : (cost0 n v).length = n := by simp [cost0]
theorem cost0_at {n v u : Nat} (hv : v < n) (hu : u < n) : gi (cost0 n v) u = if u = v then 0 else -1 := by
  unfold cost0
  rw [gi_put (by simpa using hv)]
  by_cases e : u = v
  · rw [if_pos e, if_pos e]
  · rw [if_neg e, if_neg e, gi_eq (by simpa using hu)]
    simp
theorem cost0_sound {L : Int → List Edge} {n v : Nat} (hv : v < n) : SoundC L (v : Int) n (cost0 n v) := by
  refine ⟨cost0_len n v, fun u hu h0 => ?_⟩
  rw [cost0_at hv hu] at h0 ⊢
  by_cases e : u = v
  · rw [if_pos e, e]
    exact ⟨0, 0, .nil, rfl⟩
  · rw [if_neg e] at h0
    omega
theorem cost0_full {L : Int → List Edge} {n v : Nat} (hv : v < n) : FullC L (v : Int) (cost0 n v) 0 := by
  intro u c e hw he
  rcases wk_last hw with ⟨rfl, rfl, rfl⟩ | ⟨u', c', e', z, hw', hz, rfl, rfl, rfl⟩
  · rw [Int.toNat_natCast, cost0_at hv hv, if_pos rfl]
    omega
  · have := hw'.edges
    omega
theorem rounds_ok {l : List Edge} {n v : Nat} (hv : v < n) (hg : ∀ y ∈ l, GoodE (n : Int) y) : ∀ r : Nat, SoundC (fromE (turnL l)) (v : Int) n (roundsTo l (cost0 n v) r) ∧ FullC (fromE (turnL l)) (v : Int) (roundsTo l (cost0 n v) r) (r : Int)
  | 0 => ⟨cost0_sound hv, cost0_full hv⟩
  | r + 1 => by
    have h := rounds_ok hv hg r
    exact ⟨relaxTo_sound hg h.1 _ (Nat.le_refl _), round_full hg (by rw [roundsTo_len, cost0_len]) h.2 (by omega)⟩
end Go.Proofs.Ytabhinmodnmllaa
