/-
  The reference's distances are the program's: plain. By hand.
-/
import Derived.Test.YtabhinmodnmllaaSqC
import Derived.Test.YtabhinmodnmllaaSpS
namespace Go.Proofs.Ytabhinmodnmllaa

theorem turn_turn (l : List Edge) : turnL (turnL l) = l := by
  unfold turnL
  rw [List.map_map]
  exact List.map_id' l
theorem turn_good {n : Int} {l : List Edge} (hg : ∀ y ∈ l, GoodE n y) : ∀ y ∈ turnL l, GoodE n y := fun y hy => by
  obtain ⟨z, hz, rfl⟩ := List.mem_map.1 hy
  obtain ⟨h1, h2, h3⟩ := hg z hz
  exact ⟨h2, h1, h3⟩
theorem costs_len (l : List Edge) (n v : Nat) : (costsOf l n v).length = n := by
  unfold costsOf
  rw [roundsTo_len, cost0_len]
theorem costs_low {l : List Edge} {n v : Nat} (hv : v < n) (hg : ∀ y ∈ l, GoodE (n : Int) y) (hm : l.length ≤ 500) (u : Nat) : -1 ≤ gi (costsOf l n v) u := (rounds_small hv hg hm n u).1
/-- a label and a cost of the same node -/
theorem lab_cost {l : List Edge} {n v : Nat} (hn : n ≤ 64) (hv : v < n) (hg : ∀ y ∈ l, GoodE (n : Int) y) (hm : l.length ≤ 500) {out : List Lab} (h : LabOk (fromE (turnL l)) (v : Int) n out) {u : Nat} (hu : u < n) :
    (Best (fromE (turnL l)) (v : Int) (u : Int) (gl out u).len (gl out u).edges ∧ 0 ≤ (gl out u).edges ∧ (gl out u).edges < n ∧ 0 ≤ (gl out u).len ∧ (gl out u).len ≤ 68719476736 ∧ gi (costsOf l n v) u = (gl out u).len * 128 + (gl out u).edges) ∨
    ((∀ c e, ¬ Wk (fromE (turnL l)) (v : Int) (u : Int) c e) ∧ (gl out u).edges = -1 ∧ (gl out u).len = -1 ∧ gi (costsOf l n v) u = -1) := by
  have hgr : Graph (fromE (turnL l)) n := good_graph (turn_good hg)
  by_cases hs : Seen out (u : Int)
  · left
    have hb := h.seen (u : Int) (by omega) (by omega) hs
    rw [lb, Int.toNat_natCast] at hb
    have h1 := best_short hgr ⟨by omega, by omega⟩ hb
    have h2 := hb.1.len hgr
    have h3 := hb.1.edges
    exact ⟨hb, h3, h1, h2.1, by omega, costs_best hn hv hg hu hb hgr⟩
  · right
    obtain ⟨h1, h2, h3⟩ := h.not (u : Int) (by omega) (by omega) hs
    rw [lb, Int.toNat_natCast] at h1 h2
    have h4 := costs_none hv hg hu h3
    have h5 := costs_low hv hg hm u
    exact ⟨h3, h1, h2, by omega⟩
/-- the distances of the reference -/
def distL (l : List Edge) (n s : Nat) : List Int := (costsOf (turnL l) n s).map fun x => if x < 0 then x else x / 128
theorem gi_map {xs : List Int} {f : Int → Int} {k : Nat} (h : k < xs.length) : gi (xs.map f) k = f (gi xs k) := by
  rw [gi_eq (by rw [List.length_map]; exact h), gi_eq h, List.getElem_map]
theorem distL_len (l : List Edge) (n s : Nat) : (distL l n s).length = n := by
  unfold distL
  rw [List.length_map, costs_len]
theorem gi_ext {xs ys : List Int} (hl : xs.length = ys.length) (h : ∀ k, k < xs.length → gi xs k = gi ys k) : xs = ys := by
  apply List.ext_getElem hl
  intro i h1 h2
  have := h i h1
  rw [gi_eq h1, gi_eq h2] at this
  exact this
theorem dist_plain {l : List Edge} {n s : Nat} (hn : n ≤ 64) (hs : s < n) (hg : ∀ y ∈ l, GoodE (n : Int) y) (hm : l.length ≤ 500) {out : List Lab} (h : LabOk (fromE l) (s : Int) n out) : lens out n = distL l n s := by
  apply gi_ext
  · rw [lens_len, distL_len]
  · intro k hk
    rw [lens_len] at hk
    unfold distL
    rw [lens_at hk, gi_map (by rw [costs_len]; exact hk)]
    rw [← turn_turn l] at h
    rcases lab_cost hn hs (turn_good hg) (by rw [turnL_len]; exact hm) h hk with ⟨_, h1, h2, h3, _, h4⟩ | ⟨_, h1, h2, h3⟩
    · rw [h4, if_neg (by omega)]
      omega
    · rw [h2, h3]
      rfl
end Go.Proofs.Ytabhinmodnmllaa
