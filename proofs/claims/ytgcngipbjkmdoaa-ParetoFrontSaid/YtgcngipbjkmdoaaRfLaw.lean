/-
  The reference's Front, plain: the least vector that is not dominated and follows the last one found.
-/
import Derived.Test.YtgcngipbjkmdoaaVecs
namespace Go.Proofs.Ytgcngipbjkmdoaa
open Vec (V vi leV eqV domV ltV cmpV dominV frontV)

theorem dominV_iff (l : List V) (x : V) : dominV l x = false ↔ ∀ y ∈ l, domV y x = false := by
  unfold dominV
  rw [List.any_eq_false]
  constructor
  · intro h y hy; simpa using h y hy
  · intro h y hy; simpa using h y hy
theorem mem_front (l : List V) (x : V) : x ∈ frontV l ↔ x ∈ l ∧ dominV l x = false := by
  rw [(Vec.isF_front l).mem, dominV_iff]
/-- is x one of those that may come next behind the first t? -/
def candV (l : List V) (t : Nat) (x : V) : Bool := !dominV l x && (t == 0 || ltV (gv (frontV l) (t - 1)) x)
theorem cand_dom {l : List V} {t : Nat} {x : V} (h : dominV l x = true) : candV l t x = false := by simp [candV, h]
theorem cand_old {l : List V} {t : Nat} {x : V} (ht : 0 < t) (h : ltV (gv (frontV l) (t - 1)) x = false) : candV l t x = false := by
  unfold candV
  rw [h, show (t == 0) = false by simp; omega]
  simp
theorem cand_new {l : List V} {t : Nat} {x : V} (hd : dominV l x = false) (h : t = 0 ∨ ltV (gv (frontV l) (t - 1)) x = true) : candV l t x = true := by
  unfold candV
  rw [hd]
  rcases h with h | h
  · subst h; rfl
  · rw [h]; simp
theorem sorted_at {l : List V} (h : Vec.Sorted l) {i j : Nat} (hij : i < j) (hj : j < l.length) : ltV (gv l i) (gv l j) = true := by
  rw [gv_eq hj, gv_eq (by omega)]
  exact List.pairwise_iff_getElem.1 h i j (by omega) hj hij
theorem cand_iff {l : List V} {t : Nat} (ht : t ≤ (frontV l).length) {x : V} (hx : x ∈ l) : candV l t x = true ↔ ∃ j, t ≤ j ∧ j < (frontV l).length ∧ x = gv (frontV l) j := by
  have hs := (Vec.isF_front l).sorted
  constructor
  · intro h
    unfold candV at h
    simp only [Bool.and_eq_true, Bool.not_eq_true', Bool.or_eq_true, beq_iff_eq] at h
    have hm := (mem_front l x).2 ⟨hx, h.1⟩
    obtain ⟨j, hj, e⟩ := List.mem_iff_getElem.1 hm
    rw [← gv_eq hj] at e
    refine ⟨j, ?_, hj, e.symm⟩
    by_cases hjt : t ≤ j
    · exact hjt
    · exfalso
      rcases h.2 with h0 | h0
      · omega
      · rw [← e] at h0
        by_cases ej : j = t - 1
        · subst ej
          rw [Vec.ltV_irrefl] at h0
          cases h0
        · have := Vec.ltV_asymm h0
          rw [sorted_at hs (by omega) (by omega)] at this
          cases this
  · rintro ⟨j, hj, hjl, rfl⟩
    have hm := (mem_front l (gv (frontV l) j)).1 (by rw [gv_eq hjl]; exact List.getElem_mem hjl)
    apply cand_new hm.2
    by_cases h0 : t = 0
    · exact .inl h0
    · exact .inr (sorted_at hs (by omega) hjl)
/-- what 'best' says after i vectors -/
def Best (l : List V) (t i : Nat) (b : Int) : Prop :=
  (b = -1 ∧ ∀ j, j < i → candV l t (gv l j) = false) ∨
  ∃ m : Nat, m < i ∧ b = m ∧ candV l t (gv l m) = true ∧ ∀ j, j < i → candV l t (gv l j) = true → ltV (gv l j) (gv l m) = false
theorem Best.zero (l : List V) (t : Nat) : Best l t 0 (-1) := .inl ⟨rfl, fun j h => absurd h (by omega)⟩
theorem Best.skip {l : List V} {t i : Nat} {b : Int} (h : Best l t i b) (hc : candV l t (gv l i) = false) : Best l t (i + 1) b := by
  rcases h with ⟨e, h⟩ | ⟨m, hm, e, hcm, h⟩
  · refine .inl ⟨e, fun j hj => ?_⟩
    by_cases ej : j = i
    · subst ej; exact hc
    · exact h j (by omega)
  · refine .inr ⟨m, by omega, e, hcm, fun j hj hcj => ?_⟩
    by_cases ej : j = i
    · subst ej; rw [hc] at hcj; cases hcj
    · exact h j (by omega) hcj
theorem Best.first {l : List V} {t i : Nat} (h : ∀ j, j < i → candV l t (gv l j) = false) (hc : candV l t (gv l i) = true) : Best l t (i + 1) (i : Int) := by
  refine .inr ⟨i, by omega, rfl, hc, fun j hj hcj => ?_⟩
  by_cases ej : j = i
  · subst ej; exact Vec.ltV_irrefl _
  · rw [h j (by omega)] at hcj; cases hcj
theorem Best.less {l : List V} {t i m : Nat} (h : ∀ j, j < i → candV l t (gv l j) = true → ltV (gv l j) (gv l m) = false) (hc : candV l t (gv l i) = true) (hl : ltV (gv l i) (gv l m) = true) : Best l t (i + 1) (i : Int) := by
  refine .inr ⟨i, by omega, rfl, hc, fun j hj hcj => ?_⟩
  by_cases ej : j = i
  · subst ej; exact Vec.ltV_irrefl _
  · rw [← Bool.not_eq_true]
    intro hlt
    have := h j (by omega) hcj
    rw [Vec.ltV_trans hlt hl] at this
    cases this
theorem Best.stay {l : List V} {t i m : Nat} (hm : m < i) (hcm : candV l t (gv l m) = true) (h : ∀ j, j < i → candV l t (gv l j) = true → ltV (gv l j) (gv l m) = false) (hl : ltV (gv l i) (gv l m) = false) : Best l t (i + 1) (m : Int) := by
  refine .inr ⟨m, by omega, rfl, hcm, fun j hj hcj => ?_⟩
  by_cases ej : j = i
  · subst ej; exact hl
  · exact h j (by omega) hcj
theorem mem_gv {l : List V} {x : V} (h : x ∈ l) : ∃ j, j < l.length ∧ x = gv l j := by
  obtain ⟨j, hj, e⟩ := List.mem_iff_getElem.1 h
  exact ⟨j, hj, by rw [gv_eq hj]; exact e.symm⟩
theorem gv_mem {l : List V} {j : Nat} (h : j < l.length) : gv l j ∈ l := by rw [gv_eq h]; exact List.getElem_mem h
theorem Best.none_end {l : List V} {t : Nat} (ht : t ≤ (frontV l).length) (h : ∀ j, j < l.length → candV l t (gv l j) = false) : t = (frontV l).length := by
  by_cases e : t = (frontV l).length
  · exact e
  · exfalso
    have hlt : t < (frontV l).length := by omega
    have hm := ((mem_front l _).1 (gv_mem hlt)).1
    obtain ⟨j, hj, ej⟩ := mem_gv hm
    have := (cand_iff ht hm).2 ⟨t, Nat.le_refl _, hlt, rfl⟩
    rw [ej, h j hj] at this
    cases this
theorem Best.some_end {l : List V} {t m : Nat} (ht : t ≤ (frontV l).length) (hm : m < l.length) (hc : candV l t (gv l m) = true) (h : ∀ j, j < l.length → candV l t (gv l j) = true → ltV (gv l j) (gv l m) = false) : t < (frontV l).length ∧ gv l m = gv (frontV l) t := by
  have hs := (Vec.isF_front l).sorted
  obtain ⟨j, htj, hj, e⟩ := (cand_iff ht (gv_mem hm)).1 hc
  refine ⟨by omega, ?_⟩
  by_cases ej : j = t
  · subst ej; exact e
  · exfalso
    have hlt : t < (frontV l).length := by omega
    have hmem := ((mem_front l _).1 (gv_mem hlt)).1
    obtain ⟨i, hi, ei⟩ := mem_gv hmem
    have hci := (cand_iff ht hmem).2 ⟨t, Nat.le_refl _, hlt, rfl⟩
    rw [ei] at hci
    have h2 := h i hi hci
    rw [← ei, e, sorted_at hs (by omega) hj] at h2
    cases h2
theorem cmp_leq (a b : V) : decide (cmpV a b ≤ 0) = !ltV b a := by
  unfold cmpV
  cases h : ltV a b
  · cases h2 : ltV b a <;> simp
  · rw [Vec.ltV_asymm h]; simp
end Go.Proofs.Ytgcngipbjkmdoaa
