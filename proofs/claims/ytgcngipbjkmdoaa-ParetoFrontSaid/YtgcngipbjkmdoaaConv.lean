/-
  from, to, turned: slices of vectors, copied.
-/
import Derived.Test.YtgcngipbjkmdoaaPar
import Derived.Test.YtgcngipbjkmdoaaVecs
namespace Go.Proofs.Ytgcngipbjkmdoaa
open Go.RowKit
open Vec (V vi leV eqV domV ltV cmpV)

theorem infoV : (Try.prog.info? 23).map (fun i => (i.zero, i.size, i.bytes)) = some (some (.agg #[.int .i64 0, .int .i64 0, .int .i64 0, .int .i64 0]), 4, 32) := by kernel_rfl
theorem infoR : (Try.prog.info? 26).map (fun i => (i.zero, i.size, i.bytes)) = some (some (.agg #[.int .i64 0, .int .i64 0, .int .i64 0, .int .i64 0]), 4, 32) := by kernel_rfl

set_option maxHeartbeats 1000000 in
theorem from_any (A : Option Addr) (n c : Nat) (xs : List V) (w : World) (hx : VecsAt w A n xs) (hn : n ≤ 1000) :
    Calls Try.prog 14 #[.slice A n c] w fun e w' => MadeVecs w.heap.size w 23 xs e w' := by
  obtain ⟨i0, hi, hz0, hz1, hz2⟩ := info_parts infoV
  have H := Lib.hid hx
  clear hx
  go_enter Try.func14, Try.ntmps14
  go_wp2
  go_loopw [3, 4] (fun v i wr => ∃ k : Nat, k ≤ n ∧ i = .int .i64 k ∧ wr.ownsRow w.heap.size 23 4 v k (vcs (xs.take k)) ∧ Below w.heap.size w wr) (fun v i _ => n - (intOf i).toNat)
  case atStart => exact ⟨0, by omega, rfl, World.ownsRow_nil _ _ _ _, Below.refl _ _⟩
  case round =>
    obtain ⟨k, hk, rfl, hown, hbel⟩ := hrel
    by_cases hlt : k < n
    · obtain ⟨b, o, rfl, c0, c1, c2, c3⟩ := (H.out.stays hbel).at_ hlt
      go_wp2_with (at_builtin; refine wpList_append_own _ rfl _ _ 32 rfl w.heap.size 23 i0 (.agg #[.int .i64 0, .int .i64 0, .int .i64 0, .int .i64 0]) 4 32 Try.underlying32 hi hz0 hz1 hz2 rfl (by decide) _ _ _ rfl (hown.alloc _) ⟨wr.heap.size, 0, none⟩ 1 1 (vc (gv xs k)) rfl rfl (vc_new _ _ _) (vc_one _) (by unfold maxLen; omega) (by omega) (by have := hbel.size; simp; omega) ?_; intro v' w1 hown' hgrow _)
      have R : Below w.heap.size w w1 := below_app hbel hbel.size (Nat.le_refl _) hown hgrow
      clear hown hgrow c0 c1 c2 c3
      go_wp2
      go_roundw
      case rel => exact ⟨k + 1, by omega, by go_num, by rw [take_gv (by rw [H.out.1]; exact hlt), vcs_app, vcs_one]; exact hown', R⟩
      case measure => simp [intOf]; omega
    · go_wp2
      go_ret
      obtain rfl : k = n := by omega
      have hl := H.out.1
      rw [List.take_of_length_le (by omega)] at hown
      exact ⟨_, rfl, by rw [hl]; exact hown, hbel⟩
set_option maxHeartbeats 1000000 in
theorem to_any (A : Option Addr) (n c : Nat) (xs : List V) (w : World) (hx : VecsAt w A n xs) (hn : n ≤ 1000) :
    Calls Try.prog 17 #[.slice A n c] w fun e w' => MadeVecs w.heap.size w 26 xs e w' := by
  obtain ⟨i0, hi, hz0, hz1, hz2⟩ := info_parts infoR
  have H := Lib.hid hx
  clear hx
  go_enter Try.func17, Try.ntmps17
  go_wp2
  go_loopw [3, 4] (fun v i wr => ∃ k : Nat, k ≤ n ∧ i = .int .i64 k ∧ wr.ownsRow w.heap.size 26 4 v k (vcs (xs.take k)) ∧ Below w.heap.size w wr) (fun v i _ => n - (intOf i).toNat)
  case atStart => exact ⟨0, by omega, rfl, World.ownsRow_nil _ _ _ _, Below.refl _ _⟩
  case round =>
    obtain ⟨k, hk, rfl, hown, hbel⟩ := hrel
    by_cases hlt : k < n
    · obtain ⟨b, o, rfl, c0, c1, c2, c3⟩ := (H.out.stays hbel).at_ hlt
      go_wp2_with (at_builtin; refine wpList_append_own _ rfl _ _ 36 rfl w.heap.size 26 i0 (.agg #[.int .i64 0, .int .i64 0, .int .i64 0, .int .i64 0]) 4 32 Try.underlying36 hi hz0 hz1 hz2 rfl (by decide) _ _ _ rfl (hown.alloc _) ⟨wr.heap.size, 0, none⟩ 1 1 (vc (gv xs k)) rfl rfl (vc_new _ _ _) (vc_one _) (by unfold maxLen; omega) (by omega) (by have := hbel.size; simp; omega) ?_; intro v' w1 hown' hgrow _)
      have R : Below w.heap.size w w1 := below_app hbel hbel.size (Nat.le_refl _) hown hgrow
      clear hown hgrow c0 c1 c2 c3
      go_wp2
      go_roundw
      case rel => exact ⟨k + 1, by omega, by go_num, by rw [take_gv (by rw [H.out.1]; exact hlt), vcs_app, vcs_one]; exact hown', R⟩
      case measure => simp [intOf]; omega
    · go_wp2
      go_ret
      obtain rfl : k = n := by omega
      have hl := H.out.1
      rw [List.take_of_length_le (by omega)] at hown
      exact ⟨_, rfl, by rw [hl]; exact hown, hbel⟩
set_option maxHeartbeats 1000000 in
theorem rsame_any (A B : Option Addr) (n m c d : Nat) (xs ys : List V) (w : World) (hx : VecsAt w A n xs) (hy : VecsAt w B m ys) (hn : n ≤ 1000000) (hm : m ≤ 1000000) :
    Calls Try.prog 18 #[.slice A n c, .slice B m d] w fun e w' => e = .returned (.bool (Vec.sameV xs ys)) ∧ ∃ q, w' = w.drewN q := by
  obtain ⟨i0, hi, _, _, _⟩ := info_parts infoInt
  have hne := fun x y w => run_neq_vec w Try.underlying26 Try.underlying3 hi cellsInt x y
  have HX := Lib.hid hx
  have HY := Lib.hid hy
  clear hx hy hi
  by_cases hl : n = m
  · subst hl
    go_enter Try.func18, Try.ntmps18
    go_wp2
    go_loopw [5] (fun k wr => ∃ j q : Nat, j ≤ n ∧ k = .int .i64 j ∧ wr = w.drewN q ∧ ∀ i, i < j → gv xs i = gv ys i) (fun k _ => n - (intOf k).toNat)
    case atStart => exact ⟨0, 0, by omega, rfl, rfl, fun i h => absurd h (by omega)⟩
    case round =>
      obtain ⟨j, q, hj, rfl, rfl, hall⟩ := hrel
      have HA := Lib.hid hall
      clear hall
      by_cases hlt : j < n
      · obtain ⟨b1, o1, rfl, c0, c1, c2, c3⟩ := HX.out.at_ hlt
        obtain ⟨b2, o2, rfl, d0, d1, d2, d3⟩ := HY.out.at_ hlt
        have hlt' : (j : Int) < (n : Int) := by omega
        have hj0 : (0 : Int) ≤ (j : Int) := by omega
        cases he : eqV (gv xs j) (gv ys j)
        · have HE : Hid (gv xs j ≠ gv ys j) := Lib.hid (by simpa [eqV] using he)
          go_wp2
          go_quiet (fail)
          go_wp2
          go_ret
          exact ⟨ret_bool (sameV_at HE.out).symm, _, by simp; rfl⟩
        · have HE : Hid (gv xs j = gv ys j) := Lib.hid (by simpa [eqV] using he)
          go_wp2
          go_quiet (fail)
          go_wp2
          go_roundw
          case rel => exact ⟨j + 1, _, by omega, by go_num, rfl, fun i hi => by
            by_cases e : i = j
            · subst e; exact HE.out
            · exact HA.out i (by omega)⟩
          case measure => simp [intOf]; omega
      · go_wp2
        go_ret
        exact ⟨ret_bool (sameV_all (by rw [HX.out.1, HY.out.1]) (fun k hk => HA.out k (by have := HX.out.1; omega))).symm, _, rfl⟩
  · have hne : ((n : Int) != (m : Int)) = true := by rw [bne_iff_ne]; omega
    go_enter Try.func18, Try.ntmps18
    go_wp2
    go_ret
    exact ⟨ret_bool (sameV_len (by rw [HX.out.1, HY.out.1]; exact hl)).symm, 0, rfl⟩

end Go.Proofs.Ytgcngipbjkmdoaa
