/-
  Bellman-Ford in plain Lean: what costs computes. By hand.
-/
import Derived.Test.YtabhinmodnmllaaSpT
import Derived.Test.YtabhinmodnmllaaSpQ
namespace Go.Proofs.Ytabhinmodnmllaa

/-- the cost over an edge -/
def overE (cs : List Int) (y : Edge) : Int := gi cs y.dst.toNat + y.wt * 128 + 1
/-- one edge is looked at -/
def relaxE (cs : List Int) (y : Edge) : List Int :=
  if gi cs y.dst.toNat < 0 then cs
  else if gi cs y.src.toNat < 0 ∨ overE cs y < gi cs y.src.toNat then cs.set y.src.toNat (overE cs y) else cs
/-- the first k edges are looked at -/
def relaxTo (l : List Edge) (cs : List Int) (k : Nat) : List Int := (l.take k).foldl relaxE cs
/-- after r rounds -/
def roundsTo (l : List Edge) (cs : List Int) : Nat → List Int
  | 0 => cs
  | r + 1 => relaxTo l (roundsTo l cs r) l.length
/-- the row at the start -/
def cost0 (n v : Nat) : List Int := (List.replicate n (-1)).set v 0
theorem relaxE_len (cs : List Int) (y : Edge) : (relaxE cs y).length = cs.length := by
  unfold relaxE
  split
  · rfl
  · split
    · rw [List.length_set]
    · rfl
theorem relaxTo_zero (l : List Edge) (cs : List Int) : relaxTo l cs 0 = cs := rfl
theorem relaxTo_step {l : List Edge} {k : Nat} (hk : k < l.length) (cs : List Int) : relaxTo l cs (k + 1) = relaxE (relaxTo l cs k) (ge l k) := by
  unfold relaxTo
  rw [edgeC.g_take hk, List.foldl_append]
  rfl
theorem relaxTo_len (l : List Edge) (cs : List Int) : ∀ k, k ≤ l.length → (relaxTo l cs k).length = cs.length
  | 0, _ => rfl
  | k + 1, h => by rw [relaxTo_step (by omega), relaxE_len, relaxTo_len l cs k (by omega)]
theorem roundsTo_len (l : List Edge) (cs : List Int) : ∀ r, (roundsTo l cs r).length = cs.length
  | 0 => rfl
  | r + 1 => by rw [roundsTo, relaxTo_len _ _ _ (Nat.le_refl _), roundsTo_len l cs r]
/-- two walks of which the one costs no more: the costs are the same -/
theorem cost_same {L : Int → List Edge} {n : Nat} (hg : Graph L n) {s : Int} (hs : 0 ≤ s ∧ s < n) (hn : n ≤ 64) {v c e c' e' : Int} (hb : Best L s v c e) (hw : Wk L s v c' e') (h : c' * 128 + e' ≤ c * 128 + e) : c' = c ∧ e' = e := by
  have h1 := best_short hg hs hb
  have h2 := hb.2 _ _ hw
  have h3 := hw.edges
  unfold LL at h2
  omega
end Go.Proofs.Ytabhinmodnmllaa
