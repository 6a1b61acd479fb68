/-
  A delayed trip stays ordered and recovers: the plain law (the walk is still to be written).
-/
import Derived.Test.YtackadjhgklieaaDlA
namespace Go.Proofs.Ytackadjhgklieaa
open Go.RowKit

theorem nD_both (xs : List Call) (a : Nat) (s : Int) (j : Nat) : nA xs a s j + dwellI (gc xs (a + j)) ≤ nD xs a s j ∧ (gc xs (a + j)).dep ≤ nD xs a s j := by
  unfold nD
  split <;> omega
theorem late_before {xs : List Call} {a i : Nat} {s : Int} (h : i < a) : lateC xs a s i = gc xs i := if_pos h
theorem late_from (xs : List Call) (a : Nat) (s : Int) (j : Nat) : (lateC xs a s (a + j)).arr = nA xs a s j ∧ (lateC xs a s (a + j)).dep = nD xs a s j := by
  unfold lateC
  rw [if_neg (by omega), Nat.add_sub_cancel_left]
  exact ⟨rfl, rfl⟩
theorem late_order {xs : List Call} {n a i : Nat} {s : Int} (h : Ok xs n) (hi : i < n) : (lateC xs a s i).arr ≤ (lateC xs a s i).dep ∧ (gc xs i).dep ≤ (lateC xs a s i).dep ∧ (i ≠ a → (gc xs i).arr ≤ (lateC xs a s i).arr) := by
  have hb := ok_bounds h hi
  by_cases e : i < a
  · rw [late_before e]
    exact ⟨hb.2.1, Int.le_refl _, fun _ => Int.le_refl _⟩
  · obtain ⟨j, rfl⟩ : ∃ j, i = a + j := ⟨i - a, by omega⟩
    obtain ⟨e1, e2⟩ := late_from xs a s j
    obtain ⟨d1, d2⟩ := nD_both xs a s j
    have hd := dwell_bounds (c := gc xs (a + j)) hb.2.1
    rw [e1, e2]
    refine ⟨by omega, d2, fun hne => ?_⟩
    cases j with
    | zero => exact absurd rfl hne
    | succ q =>
      have h2 := (nD_both xs a s q).2
      rw [nA_succ]
      show (gc xs (a + q + 1)).arr ≤ _
      omega
theorem late_prev {xs : List Call} {n a i : Nat} {s : Int} (h : Ok xs n) (ha : a < n) (hi : i + 1 < n) : (lateC xs a s i).dep ≤ (lateC xs a s (i + 1)).arr := by
  have hb := ok_bounds h hi
  rw [prev_succ] at hb
  by_cases e : i + 1 < a
  · rw [late_before e, late_before (by omega)]
    exact hb.2.2.2
  by_cases e2 : i + 1 = a
  · subst e2
    rw [late_before (by omega)]
    have := (late_from xs (i + 1) s 0).1
    rw [Nat.add_zero] at this
    rw [this]
    unfold nA
    rw [prev_succ]
    split <;> omega
  · obtain ⟨j, rfl⟩ : ∃ j, i = a + j := ⟨i - a, by omega⟩
    have h1 := (late_from xs a s j).2
    have h2 := (late_from xs a s (j + 1)).1
    rw [h1, show a + j + 1 = a + (j + 1) by omega, h2, nA_succ]
    omega
theorem late_falls {xs : List Call} {n a i : Nat} {s : Int} (h : Ok xs n) (hi : i + 1 < n) (hai : a < i) : (lateC xs a s (i + 1)).arr - (gc xs (i + 1)).arr ≤ (lateC xs a s i).arr - (gc xs i).arr := by
  have hb := ok_bounds h (k := i) (by omega)
  have hd := dwell_bounds (c := gc xs i) hb.2.1
  have hl := (late_order (a := a) (s := s) h (show i < n by omega)).2.2 (by omega)
  obtain ⟨j, rfl⟩ : ∃ j, i = a + j := ⟨i - a, by omega⟩
  have h1 := late_from xs a s j
  have h2 := (late_from xs a s (j + 1)).1
  rw [h1.1] at hl ⊢
  rw [show a + j + 1 = a + (j + 1) by omega, h2, nA_succ]
  show (gc xs (a + j + 1)).arr + nD xs a s j - (gc xs (a + j)).dep - (gc xs (a + j + 1)).arr ≤ _
  unfold nD
  split <;> omega
/-- behind a call that departs as it should all is as scheduled -/
theorem late_same {xs : List Call} {n a k : Nat} {s : Int} (h : Ok xs n) (hk : nD xs a s k = (gc xs (a + k)).dep) : ∀ j, a + k + j + 1 < n → lateC xs a s (a + k + j + 1) = gc xs (a + k + j + 1)
  | j, hj => by
    have hq : ∀ j, a + k + j < n → nD xs a s (k + j) = (gc xs (a + k + j)).dep ∧ (0 < j → nA xs a s (k + j) = (gc xs (a + k + j)).arr) := by
      intro j
      induction j with
      | zero => exact fun _ => ⟨hk, fun h => absurd h (by omega)⟩
      | succ q ih =>
        intro hq
        have h1 := (ih (by omega)).1
        have hb := ok_bounds h hq
        have hd := dwell_bounds (c := gc xs (a + k + (q + 1))) hb.2.1
        have h2 : nA xs a s (k + (q + 1)) = (gc xs (a + k + (q + 1))).arr := by
          rw [show k + (q + 1) = k + q + 1 by omega, nA_succ, h1, show a + (k + q) + 1 = a + k + (q + 1) by omega, show a + (k + q) = a + k + q by omega]
          omega
        refine ⟨?_, fun _ => h2⟩
        have h3 := nD_ge (xs := xs) (a := a) (s := s) (j := k + (q + 1)) (by rw [h2, show a + (k + (q + 1)) = a + k + (q + 1) by omega]; omega)
        rw [h3, show a + (k + (q + 1)) = a + k + (q + 1) by omega]
    obtain ⟨h1, h2⟩ := hq (j + 1) (by omega)
    unfold lateC
    rw [if_neg (by omega), show a + k + j + 1 - a = k + (j + 1) by omega, h1, h2 (by omega)]
    rfl
/-- what the statement asks of call i -/
def Good (xs L : List Call) (a : Nat) (b : Bool) (m : Int) (i : Nat) : Prop :=
  (gc L i).arr ≤ (gc L i).dep ∧ (0 < i → (gc L (i - 1)).dep ≤ (gc L i).arr) ∧ (gc xs i).dep ≤ (gc L i).dep ∧ (i ≠ a → (gc xs i).arr ≤ (gc L i).arr) ∧
  (i < a ∨ (b = true ∧ m < (i : Int)) → gc L i = gc xs i) ∧ (a + 1 < i → (gc L i).arr - (gc xs i).arr ≤ (gc L (i - 1)).arr - (gc xs (i - 1)).arr) ∧
  0 ≤ (gc xs i).arr ∧ (gc xs i).arr ≤ 3155932800 ∧ 0 ≤ (gc L i).arr ∧ (gc L i).arr ≤ 6311908800
theorem recovers {xs : List Call} {at_ s : Int} {n : Nat} (hl : xs.length = n) (h : propE xs at_ s = 0) : ∃ a : Nat, at_ = (a : Int) ∧ a < n ∧ (propL xs at_ s).length = n ∧
    (recB xs at_ s = true → ∃ m : Nat, recI xs at_ s = (m : Int) ∧ a ≤ m ∧ m < n) ∧ ∀ i, i < n → Good xs (propL xs at_ s) a (recB xs at_ s) (recI xs at_ s) i := by
  obtain ⟨a, rfl, ha, hs1, hs2, ho, ht, e1⟩ := prop_zero h
  have hk := ord_inv hl ho
  rw [hl] at ha e1 ht
  rw [e1, cur_len]
  have hg : ∀ i, i < n → gc (curL xs a s n) i = lateC xs a s i := fun i hi => by rw [cur_at (by omega), if_pos hi]
  have hrec : recB xs a s = true → recI xs a s = (a : Int) + (recN xs a s : Int) ∧ recN xs a s < n - a := fun hb => by
    have hb2 := hb
    unfold recB at hb
    rw [Bool.and_eq_true, decide_eq_true_eq, decide_eq_true_eq, Int.toNat_natCast, hl] at hb
    exact ⟨by unfold recI; rw [hb2, if_pos rfl, Int.toNat_natCast], hb.2⟩
  refine ⟨a, rfl, ha, hl, fun hb => ⟨a + recN xs a s, by rw [(hrec hb).1]; omega, by omega, by have := (hrec hb).2; omega⟩, fun i hi => ?_⟩
  unfold Good
  obtain ⟨o1, o2, o3⟩ := late_order (a := a) (s := s) hk hi
  have hb := ok_bounds hk hi
  rw [hg i hi]
  refine ⟨o1, fun h0 => ?_, o2, o3, fun hc => ?_, fun hai => ?_, by omega, by omega, ?_, ?_⟩
  · rw [hg (i - 1) (by omega)]
    have := late_prev (a := a) (s := s) (i := i - 1) hk ha (by omega)
    rwa [show i - 1 + 1 = i by omega] at this
  · rcases hc with hc | ⟨hb, hm⟩
    · exact late_before hc
    · obtain ⟨h1, h2⟩ := hrec hb
      rw [h1] at hm
      have hit := firstN_hit (p := fun j => decide (depI xs a s (a + j) = (gc xs (a + j)).dep)) (n := xs.length - a) (show recN xs a s < xs.length - a by rw [hl]; exact h2)
      have hit := of_decide_eq_true hit
      have h3 : nD xs a s (recN xs a s) = (gc xs (a + recN xs a s)).dep := by
        have : depI xs a s (a + recN xs a s) = (gc xs (a + recN xs a s)).dep := hit
        unfold depI at this
        rwa [Nat.add_sub_cancel_left] at this
      have := late_same hk h3 (i - (a + recN xs a s) - 1) (by omega)
      rwa [show a + recN xs a s + (i - (a + recN xs a s) - 1) + 1 = i by omega] at this
  · rw [hg (i - 1) (by omega)]
    have := late_falls (a := a) (s := s) (i := i - 1) hk (by omega) (by omega)
    rwa [show i - 1 + 1 = i by omega] at this
  · by_cases e : i < a
    · rw [late_before e]; omega
    · rw [late_at (by omega)]
      exact (arr_bounds hk ha hi hs1 hs2 (fun k hk1 hk2 => ht k hk1 (by omega))).1
  · by_cases e : i < a
    · rw [late_before e]; omega
    · rw [late_at (by omega)]
      exact (arr_bounds hk ha hi hs1 hs2 (fun k hk1 hk2 => ht k hk1 (by omega))).2
end Go.Proofs.Ytackadjhgklieaa
