/-
  Within (both).
-/
import Derived.Test.YtgcngipbjkmdoaaIns
namespace Go.Proofs.Ytgcngipbjkmdoaa
open Go.RowKit
open Vec (V vi leV eqV domV ltV cmpV covV withinV)

theorem within_hit {xs : List V} {v : V} {m : Nat} (hm : m < xs.length) (h : leV (gv xs m) v = true) : withinV (xs.take (m + 1)) v = withinV (xs.take m) v ++ [gv xs m] := by
  unfold withinV
  rw [take_gv hm, List.filter_append]
  simp [h]
theorem within_miss {xs : List V} {v : V} {m : Nat} (hm : m < xs.length) (h : leV (gv xs m) v = false) : withinV (xs.take (m + 1)) v = withinV (xs.take m) v := by
  unfold withinV
  rw [take_gv hm, List.filter_append]
  simp [h]

set_option maxHeartbeats 1000000 in
theorem within_any (A : Option Addr) (n c : Nat) (xs : List V) (v : V) (w : World) (hx : VecsAt w A n xs) (hn : n ≤ 1000) :
    Calls Try.prog 28 #[.slice A n c, .agg #[.int .i64 (vi v 0), .int .i64 (vi v 1), .int .i64 (vi v 2), .int .i64 (vi v 3)]] w fun e w' => MadeVecs w.heap.size w 23 (withinV xs v) e w' := by
  obtain ⟨i0, hi, hz0, hz1, hz2⟩ := info_parts infoV
  have H := Lib.hid hx
  clear hx
  go_enter Try.func28, Try.ntmps28
  go_wp2
  obtain ⟨W, hW⟩ : ∃ W, W = w.alloc (.cells #[.int .i64 (vi v 0), .int .i64 (vi v 1), .int .i64 (vi v 2), .int .i64 (vi v 3)] 23) := ⟨_, rfl⟩
  have HW := Lib.hid hW
  rw [← hW]
  clear hW
  have hWs : W.heap.size = w.heap.size + 1 := by rw [HW.out]; simp
  go_loopw [5, 10] (fun u i wr => ∃ (k : Nat) (fs : List V), k ≤ n ∧ i = .int .i64 k ∧ Hid (fs = withinV (xs.take k) v) ∧ wr.ownsRow W.heap.size 23 4 u fs.length (vcs fs) ∧ Below W.heap.size W wr) (fun _ i _ => n - (intOf i).toNat)
  case atStart => exact ⟨0, [], by omega, rfl, Lib.hid rfl, World.ownsRow_nil _ _ _ _, Below.refl _ _⟩
  case round =>
    obtain ⟨k, fs, hk, rfl, HF, hown, hbel⟩ := hrel
    obtain ⟨e0, e1, e2, e3, hi1⟩ := ins_at HW.out H.out hbel
    by_cases hlt : k < n
    · have k0 : (0 : Int) ≤ (k : Int) := by omega
      have kn : (k : Int) < (n : Int) := by omega
      have hfl : fs.length ≤ 1000 := by
        have := List.length_filter_le (fun u => leV u v) (xs.take k)
        rw [HF.out]
        rw [List.length_take] at this
        unfold withinV
        omega
      obtain ⟨b, o, rfl, c0, c1, c2, c3⟩ := hi1.1.at_ hlt
      have hsz : w.heap.size < wr.heap.size := by have := hbel.size; omega
      have hal := balloc hbel (.cells #[.int .i64 (vi (gv xs k) 0), .int .i64 (vi (gv xs k) 1), .int .i64 (vi (gv xs k) 2), .int .i64 (vi (gv xs k) 3)] 23) (Nat.le_refl _)
      have hown1 := hown.alloc (.cells #[.int .i64 (vi (gv xs k) 0), .int .i64 (vi (gv xs k) 1), .int .i64 (vi (gv xs k) 2), .int .i64 (vi (gv xs k) 3)] 23)
      have g := VBox.new wr 23 (gv xs k)
      go_wp2_with fail
      refine (below_any _ _ _).mono ?_
      rintro e w1 ⟨rfl, hb1⟩
      have hB1 : Below W.heap.size W w1 := bthen hal hb1 (Nat.le_refl _)
      have hown2 := ownsRow_stays hown1 hb1
      have gg : ∀ j, j < 4 → w1.cell? ⟨wr.heap.size, j, none⟩ = some (.int .i64 (vi (gv xs k) j)) := fun j hj => (hb1.cell (p := ⟨wr.heap.size, j, none⟩) (by simp)).trans (g j hj)
      have g0 := gg 0 (by omega)
      have g1 := gg 1 (by omega)
      have g2 := gg 2 (by omega)
      have g3 := gg 3 (by omega)
      have hkl : k < xs.length := by rw [H.out.1]; exact hlt
      clear g gg hown hown1 hb1 hal hi1 c0 c1 c2 c3 e0 e1 e2 e3 hbel
      cases hl : leV (gv xs k) v
      · have HE := Lib.hid (within_miss hkl hl)
        clear hkl
        go_wp2
        go_roundw
        case rel => exact ⟨k + 1, fs, by omega, by go_num, Lib.hid (by rw [HE.out]; exact HF.out), hown2, hB1⟩
        case measure => simp [intOf]; omega
      · have HE := Lib.hid (within_hit hkl hl)
        clear hkl
        go_wp2_with (at_builtin; refine wpList_append_own _ rfl _ _ 32 rfl W.heap.size 23 i0 (.agg #[.int .i64 0, .int .i64 0, .int .i64 0, .int .i64 0]) 4 32 Try.underlying32 hi hz0 hz1 hz2 rfl (by decide) _ _ _ rfl (hown2.alloc _) ⟨w1.heap.size, 0, none⟩ 1 1 (vc (gv xs k)) rfl rfl (vc_new _ _ _) (vc_one _) (by unfold maxLen; omega) (by omega) (by have := hB1.size; simp; omega) ?_; intro v' w2 hown' hgrow _)
        have R : Below W.heap.size W w2 := below_app hB1 hB1.size (Nat.le_refl _) hown2 hgrow
        clear hown2 hgrow g0 g1 g2 g3 hB1
        go_wp2
        go_roundw
        case rel => exact ⟨k + 1, fs ++ [gv xs k], by omega, by go_num, Lib.hid (by rw [HE.out, ← HF.out]), by rw [vcs_app, vcs_one, List.length_append]; exact hown', R⟩
        case measure => simp [intOf]; omega
    · obtain rfl : k = n := by omega
      have hd : ¬ ((k : Int) < (k : Int)) := by omega
      have hf : fs = withinV xs v := by rw [HF.out, List.take_of_length_le (by rw [H.out.1]; omega)]
      subst hf
      go_wp2
      go_ret
      exact ⟨_, rfl, ownsRow_base hown (by omega), bthen (by rw [HW.out]; exact balloc (Below.refl _ w) _ (Nat.le_refl _)) hbel (Nat.le_refl _)⟩

set_option maxHeartbeats 2000000 in
theorem rwithin_any (A : Option Addr) (n c : Nat) (xs : List V) (v : V) (w : World) (hx : VecsAt w A n xs) (hn : n ≤ 1000) :
    Calls Try.prog 29 #[.slice A n c, .agg #[.int .i64 (vi v 0), .int .i64 (vi v 1), .int .i64 (vi v 2), .int .i64 (vi v 3)]] w fun e w' => MadeVecs w.heap.size w 26 (withinV xs v) e w' := by
  obtain ⟨i0, hi, hz0, hz1, hz2⟩ := info_parts infoR
  have H := Lib.hid hx
  clear hx
  go_enter Try.func29, Try.ntmps29
  go_wp2
  obtain ⟨W, hW⟩ : ∃ W, W = w.alloc (.cells #[.int .i64 (vi v 0), .int .i64 (vi v 1), .int .i64 (vi v 2), .int .i64 (vi v 3)] 26) := ⟨_, rfl⟩
  have HW := Lib.hid hW
  rw [← hW]
  clear hW
  have hWs : W.heap.size = w.heap.size + 1 := by rw [HW.out]; simp
  go_loopw [5, 6] (fun u i wr => ∃ (k : Nat) (fs : List V), k ≤ n ∧ i = .int .i64 k ∧ Hid (fs = withinV (xs.take k) v) ∧ wr.ownsRow W.heap.size 26 4 u fs.length (vcs fs) ∧ Below W.heap.size W wr) (fun _ i _ => n - (intOf i).toNat)
  case atStart => exact ⟨0, [], by omega, rfl, Lib.hid rfl, World.ownsRow_nil _ _ _ _, Below.refl _ _⟩
  case round =>
    obtain ⟨k, fs, hk, rfl, HF, hown, hbel⟩ := hrel
    obtain ⟨e0, e1, e2, e3, hi1⟩ := ins_at HW.out H.out hbel
    by_cases hlt : k < n
    · have k0 : (0 : Int) ≤ (k : Int) := by omega
      have kn : (k : Int) < (n : Int) := by omega
      have hfl : fs.length ≤ 1000 := by
        have := List.length_filter_le (fun u => leV u v) (xs.take k)
        rw [HF.out]
        rw [List.length_take] at this
        unfold withinV
        omega
      obtain ⟨b, o, rfl, c0, c1, c2, c3⟩ := hi1.1.at_ hlt
      have hsz : w.heap.size < wr.heap.size := by have := hbel.size; omega
      have hal := balloc hbel (.cells #[.int .i64 (vi (gv xs k) 0), .int .i64 (vi (gv xs k) 1), .int .i64 (vi (gv xs k) 2), .int .i64 (vi (gv xs k) 3)] 26) (Nat.le_refl _)
      have hown1 := hown.alloc (.cells #[.int .i64 (vi (gv xs k) 0), .int .i64 (vi (gv xs k) 1), .int .i64 (vi (gv xs k) 2), .int .i64 (vi (gv xs k) 3)] 26)
      have g := VBox.new wr 26 (gv xs k)
      have hkl : k < xs.length := by rw [H.out.1]; exact hlt
      have g0 := g 0 (by omega)
      have g1 := g 1 (by omega)
      have g2 := g 2 (by omega)
      have g3 := g 3 (by omega)
      clear g hown hbel hi1
      by_cases h0 : ¬ (vi (gv xs k) 0 ≤ vi v 0)
      · have HE := Lib.hid (within_miss (v := v) hkl (Vec.leV_not (k := 0) (by omega) (by omega)))
        clear hkl
        go_wp2
        go_roundw
        case rel => exact ⟨k + 1, fs, by omega, by go_num, Lib.hid (by rw [HE.out]; exact HF.out), hown1, hal⟩
        case measure => simp [intOf]; omega
      rw [Decidable.not_not] at h0
      by_cases h1 : ¬ (vi (gv xs k) 1 ≤ vi v 1)
      · have HE := Lib.hid (within_miss (v := v) hkl (Vec.leV_not (k := 1) (by omega) (by omega)))
        clear hkl
        go_wp2
        go_roundw
        case rel => exact ⟨k + 1, fs, by omega, by go_num, Lib.hid (by rw [HE.out]; exact HF.out), hown1, hal⟩
        case measure => simp [intOf]; omega
      rw [Decidable.not_not] at h1
      by_cases h2 : ¬ (vi (gv xs k) 2 ≤ vi v 2)
      · have HE := Lib.hid (within_miss (v := v) hkl (Vec.leV_not (k := 2) (by omega) (by omega)))
        clear hkl
        go_wp2
        go_roundw
        case rel => exact ⟨k + 1, fs, by omega, by go_num, Lib.hid (by rw [HE.out]; exact HF.out), hown1, hal⟩
        case measure => simp [intOf]; omega
      rw [Decidable.not_not] at h2
      by_cases h3 : ¬ (vi (gv xs k) 3 ≤ vi v 3)
      · have HE := Lib.hid (within_miss (v := v) hkl (Vec.leV_not (k := 3) (by omega) (by omega)))
        clear hkl
        go_wp2
        go_roundw
        case rel => exact ⟨k + 1, fs, by omega, by go_num, Lib.hid (by rw [HE.out]; exact HF.out), hown1, hal⟩
        case measure => simp [intOf]; omega
      rw [Decidable.not_not] at h3
      have HE := Lib.hid (within_hit hkl (by rw [Vec.leV_iff]; exact ⟨h0, h1, h2, h3⟩))
      clear hkl
      go_wp2_with (at_builtin; refine wpList_append_own _ rfl _ _ 36 rfl W.heap.size 26 i0 (.agg #[.int .i64 0, .int .i64 0, .int .i64 0, .int .i64 0]) 4 32 Try.underlying36 hi hz0 hz1 hz2 rfl (by decide) _ _ _ rfl (hown1.alloc _) ⟨wr.heap.size + 1, 0, none⟩ 1 1 (vc (gv xs k)) rfl rfl (by have := vc_new (wr.alloc (.cells #[.int .i64 (vi (gv xs k) 0), .int .i64 (vi (gv xs k) 1), .int .i64 (vi (gv xs k) 2), .int .i64 (vi (gv xs k) 3)] 26)) (gv xs k) 26; rw [World.size_alloc] at this; exact this) (vc_one _) (by unfold maxLen; omega) (by omega) (by have := hal.size; simp at *; omega) ?_; intro v' w2 hown' hgrow _)
      have R : Below W.heap.size W w2 := below_app hal hal.size (Nat.le_refl _) hown1 hgrow
      clear hown1 hgrow g0 g1 g2 g3 hal
      go_wp2
      go_roundw
      case rel => exact ⟨k + 1, fs ++ [gv xs k], by omega, by go_num, Lib.hid (by rw [HE.out, ← HF.out]), by rw [vcs_app, vcs_one, List.length_append]; exact hown', R⟩
      case measure => simp [intOf]; omega
    · obtain rfl : k = n := by omega
      have hd : ¬ ((k : Int) < (k : Int)) := by omega
      have hf : fs = withinV xs v := by rw [HF.out, List.take_of_length_le (by rw [H.out.1]; omega)]
      subst hf
      go_wp2
      go_ret
      exact ⟨_, rfl, ownsRow_base hown (by omega), bthen (by rw [HW.out]; exact balloc (Below.refl _ w) _ (Nat.le_refl _)) hbel (Nat.le_refl _)⟩
end Go.Proofs.Ytgcngipbjkmdoaa
