/-
  labels: the walk of Dijkstra's search. Printed by gen/sp4.py.
-/
import Derived.Test.YtabhinmodnmllaaSpM
import Derived.Test.YtabhinmodnmllaaSpI
namespace Go.Proofs.Ytabhinmodnmllaa
open Go.RowKit

theorem lab_info : (Try.prog.info? 57).map (fun i => (i.zero, i.size, i.bytes)) = some (some (.agg #[.int .i64 0, .int .i64 0, .int .i64 0]), 3, 24) := by kernel_rfl
theorem made_lab (n : Nat) : (madeCells #[.int .i64 0, .int .i64 0, .int .i64 0] (n * 3)).toList = labC.all (List.replicate n ⟨0, 0, 0⟩) := by
  have h1 : (madeCells #[.int .i64 0, .int .i64 0, .int .i64 0] (n * 3)).toList = List.replicate (n * 3) (Value.int .i64 0) := by
    rw [List.eq_replicate_iff]
    refine ⟨by simp [madeCells], fun b hb => ?_⟩
    simp [madeCells] at hb
    obtain ⟨q, hq, rfl⟩ := hb
    have h3 : q % 3 = 0 ∨ q % 3 = 1 ∨ q % 3 = 2 := by omega
    rcases h3 with h | h | h <;> simp [h]
  have h2 : labC.all (List.replicate n ⟨0, 0, 0⟩) = List.replicate (n * 3) (Value.int .i64 0) := by
    rw [List.eq_replicate_iff]
    refine ⟨by rw [labC.all_len, List.length_replicate]; rfl, fun b hb => ?_⟩
    obtain ⟨x, hx, hb⟩ := List.mem_flatMap.1 hb
    rw [List.eq_of_mem_replicate hx] at hb
    simp [labC] at hb
    exact hb
  rw [h1, h2]
/-- the labels of which the first k are set -/
def labTo (n k : Nat) : List Lab := (List.range n).map fun (i : Nat) => if i < k then ⟨(i : Int), -1, -1⟩ else ⟨0, 0, 0⟩
theorem labTo_len (n k : Nat) : (labTo n k).length = n := by simp [labTo]
theorem labTo_zero (n : Nat) : labTo n 0 = List.replicate n ⟨0, 0, 0⟩ := by
  rw [List.eq_replicate_iff]
  refine ⟨labTo_len n 0, fun b hb => ?_⟩
  obtain ⟨i, _, rfl⟩ := List.mem_map.1 hb
  rfl
theorem labTo_all (n : Nat) : labTo n n = lab0 n := by
  unfold labTo lab0
  apply List.map_congr_left
  intro i hi
  rw [if_pos (List.mem_range.1 hi)]
theorem labTo_set {n k : Nat} (hk : k < n) : (labTo n k).set k ⟨(k : Int), -1, -1⟩ = labTo n (k + 1) := by
  apply List.ext_getElem
  · rw [List.length_set, labTo_len, labTo_len]
  · intro i h1 h2
    rw [labTo_len] at h2
    rw [List.getElem_set]
    by_cases e : k = i
    · subst e
      simp [labTo]
    · rw [if_neg e]
      simp only [labTo, List.getElem_map, List.getElem_range]
      by_cases h3 : i < k
      · rw [if_pos h3, if_pos (by omega)]
      · rw [if_neg h3, if_neg (by omega)]
/-- a label is stored into an own row -/
theorem own_lab {w : World} {base e g n c k : Nat} {xs : List Lab} (h : w.ownsRow base e labC.sz (.slice (some ⟨g, 0, none⟩) n c) n (labC.all xs)) (hk : k < xs.length) (y : Lab) :
    (((w.setCell ⟨g, k * 3, none⟩ (.int .i64 y.node)).setCell ⟨g, k * 3 + 1, none⟩ (.int .i64 y.len)).setCell ⟨g, k * 3 + 2, none⟩ (.int .i64 y.edges)).ownsRow base e labC.sz (.slice (some ⟨g, 0, none⟩) n c) n (labC.all (xs.set k y)) := by
  have gs : ∀ (zs : List Lab) (z : Lab), k < zs.length → labC.g (zs.set k z) k = z := fun zs z hz => by simp [Codec.g, hz]
  have h1 := own_store (j := 0) h hk (by decide) ⟨y.node, (labC.g xs k).len, (labC.g xs k).edges⟩ (.int .i64 y.node) rfl
  have h2 := own_store (j := 1) h1 (by simpa using hk) (by decide) ⟨y.node, y.len, (labC.g xs k).edges⟩ (.int .i64 y.len) (by rw [gs _ _ hk]; rfl)
  rw [List.set_set] at h2
  have h3 := own_store (j := 2) h2 (by simpa using hk) (by decide) y (.int .i64 y.edges) (by rw [gs _ _ hk]; rfl)
  rw [List.set_set] at h3
  exact h3
theorem lab_own_cells {w : World} {base e g n c k : Nat} {xs : List Lab} (h : w.ownsRow base e labC.sz (.slice (some ⟨g, 0, none⟩) n c) n (labC.all xs)) (hk : k < n) :
    (w.cell? ⟨g, k * 3, none⟩ = some (.int .i64 (gl xs k).node) ∧ w.cell? ⟨g, k * 3 + 1, none⟩ = some (.int .i64 (gl xs k).len) ∧ w.cell? ⟨g, k * 3 + 2, none⟩ = some (.int .i64 (gl xs k).edges)) ∧ ∀ j, w.frozen? ⟨g, j, none⟩ = false := by
  have hc := lab_cells (SAt.own h (by decide)) hk
  simp only [Nat.zero_add] at hc
  exact ⟨hc, h.frozenAt⟩
/-- the edges of the nodes without a label -/
def remTo (L : Int → List Edge) (out : List Lab) : Nat → Nat
  | 0 => 0
  | k + 1 => remTo L out k + if (gl out k).edges < 0 then (L (k : Int)).length else 0
theorem gl_set {out : List Lab} {u k n : Nat} (hl : out.length = n) (hu : u < n) (x : Lab) : gl (out.set u x) k = if k = u then x else gl out k := by
  unfold gl Codec.g
  rw [List.getD_eq_getElem?_getD, List.getElem?_set, List.getD_eq_getElem?_getD]
  by_cases e : k = u
  · subst e
    rw [if_pos rfl, if_pos rfl, if_pos (by omega)]
    rfl
  · rw [if_neg e, if_neg (fun e2 => e e2.symm)]
theorem rem_set {L : Int → List Edge} {out : List Lab} {u n : Nat} (hl : out.length = n) (hu : u < n) (h1 : (gl out u).edges < 0) {x : Lab} (hx : 0 ≤ x.edges) : ∀ k, k ≤ n → remTo L (out.set u x) k + (if u < k then (L (u : Int)).length else 0) = remTo L out k := by
  intro k
  induction k with
  | zero => intro _; rfl
  | succ k ih =>
    intro h
    have := ih (by omega)
    rw [remTo, remTo, gl_set hl hu]
    by_cases e : k = u
    · subst e
      have a1 : (if k < k then (L (k : Int)).length else 0) = 0 := if_neg (by omega)
      have a2 : (if k < k + 1 then (L (k : Int)).length else 0) = (L (k : Int)).length := if_pos (by omega)
      have a3 : (if (if k = k then x else gl out k).edges < 0 then (L (k : Int)).length else 0) = 0 := by rw [if_pos rfl]; exact if_neg (by omega)
      have a4 : (if (gl out k).edges < 0 then (L (k : Int)).length else 0) = (L (k : Int)).length := if_pos h1
      rw [a1] at this
      rw [a2, a3, a4]
      omega
    · have a3 : (if k = u then x else gl out k) = gl out k := if_neg e
      have a2 : (if u < k + 1 then (L (u : Int)).length else 0) = (if u < k then (L (u : Int)).length else 0) := by
        by_cases e2 : u < k
        · rw [if_pos e2, if_pos (by omega)]
        · rw [if_neg e2, if_neg (by omega)]
      rw [a2, a3]
      omega
end Go.Proofs.Ytabhinmodnmllaa
