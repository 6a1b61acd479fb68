/-
  turned, the reference's Dominates and Compare, Covers (both), dominated.
-/
import Derived.Test.YtgcngipbjkmdoaaConv
import Derived.WalkMore
import Derived.Deep.LoopGhost
import Derived.StillTailTactics
namespace Go.Proofs.Ytgcngipbjkmdoaa
open Go.RowKit
open Vec (V vi leV eqV domV ltV cmpV)

set_option maxHeartbeats 1000000 in
theorem turned_any (A : Option Addr) (n c : Nat) (xs : List V) (w : World) (hx : VecsAt w A n xs) (hn : n ≤ 1000) :
    Calls Try.prog 26 #[.slice A n c] w fun e w' => MadeVecs w.heap.size w 23 xs.reverse e w' := by
  obtain ⟨i0, hi, hz0, hz1, hz2⟩ := info_parts infoV
  have H := Lib.hid hx
  clear hx
  go_enter Try.func26, Try.ntmps26
  go_wp2
  go_loopw [3, 4] (fun v i wr => ∃ k : Nat, k ≤ n ∧ i = .int .i64 ((k : Int) - 1) ∧ wr.ownsRow w.heap.size 23 4 v (n - k) (vcs (xs.drop k).reverse) ∧ Below w.heap.size w wr) (fun v i _ => (intOf i + 1).toNat)
  case atStart => exact ⟨n, by omega, rfl, by rw [Nat.sub_self, List.drop_of_length_le (by rw [H.out.1]; omega)]; exact World.ownsRow_nil _ _ _ _, Below.refl _ _⟩
  case round =>
    obtain ⟨k, hk, rfl, hown, hbel⟩ := hrel
    by_cases hlt : 0 < k
    · obtain ⟨m, rfl⟩ : ∃ m, k = m + 1 := ⟨k - 1, by omega⟩
      have em : ((m + 1 : Nat) : Int) - 1 = (m : Int) := by omega
      rw [em]
      obtain ⟨b, o, rfl, c0, c1, c2, c3⟩ := (H.out.stays hbel).at_ (show m < n by omega)
      go_wp2_with (at_builtin; refine wpList_append_own _ rfl _ _ 32 rfl w.heap.size 23 i0 (.agg #[.int .i64 0, .int .i64 0, .int .i64 0, .int .i64 0]) 4 32 Try.underlying32 hi hz0 hz1 hz2 rfl (by decide) _ _ _ rfl (hown.alloc _) ⟨wr.heap.size, 0, none⟩ 1 1 (vc (gv xs m)) rfl rfl (vc_new _ _ _) (vc_one _) (by unfold maxLen; omega) (by omega) (by have := hbel.size; simp; omega) ?_; intro v' w1 hown' hgrow _)
      have R : Below w.heap.size w w1 := below_app hbel hbel.size (Nat.le_refl _) hown hgrow
      clear hown hgrow c0 c1 c2 c3
      go_wp2
      go_roundw
      case rel => exact ⟨m, by omega, rfl, by
        have hlm : m < xs.length := by rw [H.out.1]; omega
        rw [List.drop_eq_getElem_cons hlm, List.reverse_cons, vcs_app, ← gv_eq hlm, vcs_one, show n - m = n - (m + 1) + 1 by omega]
        exact hown', R⟩
      case measure => simp [intOf]
    · obtain rfl : k = 0 := by omega
      go_wp2
      go_ret
      have hl := H.out.1
      exact ⟨_, rfl, by rw [List.length_reverse, hl]; exact hown, hbel⟩

set_option maxHeartbeats 1000000 in
theorem rdom_any (x y : V) (w : World) :
    Calls Try.prog 10 #[.agg #[.int .i64 (vi x 0), .int .i64 (vi x 1), .int .i64 (vi x 2), .int .i64 (vi x 3)], .agg #[.int .i64 (vi y 0), .int .i64 (vi y 1), .int .i64 (vi y 2), .int .i64 (vi y 3)]] w fun e w' => e = .returned (.bool (domV x y)) ∧ Below w.heap.size w w' := by
  have r := Nat.le_refl w.heap.size
  go_enter Try.func10, Try.ntmps10
  go_wp2
  have hb : Below w.heap.size w ((w.alloc (.cells #[.int .i64 (vi x 0), .int .i64 (vi x 1), .int .i64 (vi x 2), .int .i64 (vi x 3)] 26)).alloc (.cells #[.int .i64 (vi y 0), .int .i64 (vi y 1), .int .i64 (vi y 2), .int .i64 (vi y 3)] 26)) := balloc (balloc (Below.refl _ w) _ r) _ r
  have hx := (VBox.new w 26 x).alloc (by simp) (.cells #[.int .i64 (vi y 0), .int .i64 (vi y 1), .int .i64 (vi y 2), .int .i64 (vi y 3)] 26)
  have hy := VBox.new (w.alloc (.cells #[.int .i64 (vi x 0), .int .i64 (vi x 1), .int .i64 (vi x 2), .int .i64 (vi x 3)] 26)) 26 y
  rw [World.size_alloc] at hy
  generalize ((w.alloc (.cells #[.int .i64 (vi x 0), .int .i64 (vi x 1), .int .i64 (vi x 2), .int .i64 (vi x 3)] 26)).alloc (.cells #[.int .i64 (vi y 0), .int .i64 (vi y 1), .int .i64 (vi y 2), .int .i64 (vi y 3)] 26)) = W0 at hb hx hy ⊢
  have HX := Lib.hid hx
  have HY := Lib.hid hy
  clear hx hy
  go_loopw [5, 6] (fun l i wr => ∃ k q : Nat, k ≤ 4 ∧ i = .int .i64 k ∧ wr = W0.drewN q ∧ ∃ b, l = .bool b ∧ Vec.DomTo x y k b) (fun _ i _ => 4 - (intOf i).toNat)
  case atStart => exact ⟨0, 0, by omega, rfl, rfl, false, rfl, Vec.domTo_zero x y⟩
  case round =>
    obtain ⟨k, q, hk, rfl, rfl, b, rfl, hall⟩ := hrel
    have HA := Lib.hid hall
    clear hall
    by_cases hlt : k < 4
    · have c1 := HX.out k hlt
      have c2 := HY.out k hlt
      have k0 : (0 : Int) ≤ (k : Int) := by omega
      have k4 : (k : Int) < 4 := by omega
      rcases (show vi y k < vi x k ∨ vi x k < vi y k ∨ vi x k = vi y k from by omega) with h | h | h
      · have hd : decide (vi y k < vi x k) = true := by simpa using h
        have HL := Lib.hid (Vec.dom_not hlt h)
        go_wp2
        go_quiet (fail)
        go_wp2
        go_ret
        exact ⟨ret_bool HL.out.symm, by simpa using bdrewN hb _⟩
      · have hd : decide (vi y k < vi x k) = false := by simp; omega
        have hd2 : decide (vi x k < vi y k) = true := by simpa using h
        have HL := Lib.hid (HA.out.lt h)
        go_wp2
        go_quiet (fail)
        go_wp2
        go_quiet (fail)
        go_wp2
        go_roundw
        case rel => exact ⟨k + 1, _, by omega, by go_num, rfl, true, rfl, HL.out⟩
        case measure => simp [intOf]; omega
      · have hd : decide (vi y k < vi x k) = false := by simp; omega
        have hd2 : decide (vi x k < vi y k) = false := by simp; omega
        have HL := Lib.hid (HA.out.eq h)
        clear h
        go_wp2
        go_quiet (fail)
        go_wp2
        go_quiet (fail)
        go_wp2
        go_roundw
        case rel => exact ⟨k + 1, _, by omega, by go_num, rfl, b, rfl, HL.out⟩
        case measure => simp [intOf]; omega
    · obtain rfl : k = 4 := by omega
      have HL := Lib.hid HA.out.all
      go_wp2
      go_ret
      exact ⟨ret_bool HL.out.symm, bdrewN hb _⟩

set_option maxHeartbeats 1000000 in
theorem rcmp_any (x y : V) (w : World) :
    Calls Try.prog 12 #[.agg #[.int .i64 (vi x 0), .int .i64 (vi x 1), .int .i64 (vi x 2), .int .i64 (vi x 3)], .agg #[.int .i64 (vi y 0), .int .i64 (vi y 1), .int .i64 (vi y 2), .int .i64 (vi y 3)]] w fun e w' => e = .returned (.int .i64 (cmpV x y)) ∧ Below w.heap.size w w' := by
  have r := Nat.le_refl w.heap.size
  go_enter Try.func12, Try.ntmps12
  go_wp2
  have hb : Below w.heap.size w ((w.alloc (.cells #[.int .i64 (vi x 0), .int .i64 (vi x 1), .int .i64 (vi x 2), .int .i64 (vi x 3)] 26)).alloc (.cells #[.int .i64 (vi y 0), .int .i64 (vi y 1), .int .i64 (vi y 2), .int .i64 (vi y 3)] 26)) := balloc (balloc (Below.refl _ w) _ r) _ r
  have hx := (VBox.new w 26 x).alloc (by simp) (.cells #[.int .i64 (vi y 0), .int .i64 (vi y 1), .int .i64 (vi y 2), .int .i64 (vi y 3)] 26)
  have hy := VBox.new (w.alloc (.cells #[.int .i64 (vi x 0), .int .i64 (vi x 1), .int .i64 (vi x 2), .int .i64 (vi x 3)] 26)) 26 y
  rw [World.size_alloc] at hy
  generalize ((w.alloc (.cells #[.int .i64 (vi x 0), .int .i64 (vi x 1), .int .i64 (vi x 2), .int .i64 (vi x 3)] 26)).alloc (.cells #[.int .i64 (vi y 0), .int .i64 (vi y 1), .int .i64 (vi y 2), .int .i64 (vi y 3)] 26)) = W0 at hb hx hy ⊢
  have HX := Lib.hid hx
  have HY := Lib.hid hy
  clear hx hy
  go_loopw [5] (fun i wr => ∃ k q : Nat, k ≤ 4 ∧ i = .int .i64 k ∧ wr = W0.drewN q ∧ ∀ j, j < k → vi x j = vi y j) (fun i _ => 4 - (intOf i).toNat)
  case atStart => exact ⟨0, 0, by omega, rfl, rfl, fun j h => absurd h (by omega)⟩
  case round =>
    obtain ⟨k, q, hk, rfl, rfl, hall⟩ := hrel
    have HA := Lib.hid hall
    clear hall
    by_cases hlt : k < 4
    · have c1 := HX.out k hlt
      have c2 := HY.out k hlt
      have k0 : (0 : Int) ≤ (k : Int) := by omega
      have k4 : (k : Int) < 4 := by omega
      rcases (show vi x k < vi y k ∨ vi y k < vi x k ∨ vi x k = vi y k from by omega) with h | h | h
      · have HL := Lib.hid (Vec.cmp_lt hlt HA.out h)
        have hd : decide (vi x k < vi y k) = true := by simpa using h
        go_wp2
        go_quiet (fail)
        go_wp2
        go_ret
        exact ⟨ret_int HL.out.symm, by simpa using bdrewN hb _⟩
      · have HL := Lib.hid (Vec.cmp_gt hlt HA.out h)
        have hd : decide (vi x k < vi y k) = false := by simp; omega
        have hd2 : decide (vi y k < vi x k) = true := by simpa using h
        go_wp2
        go_quiet (fail)
        go_wp2
        go_quiet (fail)
        go_wp2
        go_ret
        exact ⟨ret_int HL.out.symm, by simpa using bdrewN hb _⟩
      · have hd : decide (vi x k < vi y k) = false := by simp; omega
        have hd2 : decide (vi y k < vi x k) = false := by simp; omega
        have HE := Lib.hid h
        clear h
        go_wp2
        go_quiet (fail)
        go_wp2
        go_quiet (fail)
        go_wp2
        go_roundw
        case rel => exact ⟨k + 1, _, by omega, by go_num, rfl, fun j hj => by
          by_cases e : j = k
          · subst e; exact HE.out
          · exact HA.out j (by omega)⟩
        case measure => simp [intOf]; omega
    · go_wp2
      go_ret
      exact ⟨ret_int (Vec.cmp_all (fun j hj => HA.out j (by omega))).symm, bdrewN hb _⟩

set_option maxHeartbeats 1000000 in
theorem dominated_any (A : Option Addr) (n c : Nat) (xs : List V) (v : V) (w : World) (hx : VecsAt w A n xs) (hn : n ≤ 1000) :
    Calls Try.prog 32 #[.slice A n c, .agg #[.int .i64 (vi v 0), .int .i64 (vi v 1), .int .i64 (vi v 2), .int .i64 (vi v 3)]] w fun e w' => e = .returned (.bool (Vec.dominV xs v)) ∧ Below w.heap.size w w' := by
  have r := Nat.le_refl w.heap.size
  go_enter Try.func32, Try.ntmps32
  go_wp2
  have hb : Below w.heap.size w (w.alloc (.cells #[.int .i64 (vi v 0), .int .i64 (vi v 1), .int .i64 (vi v 2), .int .i64 (vi v 3)] 26)) := balloc (Below.refl _ w) _ r
  have hv := VBox.new w 26 v
  have hs : w.heap.size < (w.alloc (.cells #[.int .i64 (vi v 0), .int .i64 (vi v 1), .int .i64 (vi v 2), .int .i64 (vi v 3)] 26)).heap.size := by simp
  have hx0 := hx.alloc (.cells #[.int .i64 (vi v 0), .int .i64 (vi v 1), .int .i64 (vi v 2), .int .i64 (vi v 3)] 26)
  generalize w.alloc (.cells #[.int .i64 (vi v 0), .int .i64 (vi v 1), .int .i64 (vi v 2), .int .i64 (vi v 3)] 26) = W0 at hb hv hs hx0 ⊢
  have HX := Lib.hid hx0
  have HV := Lib.hid hv
  clear hx hx0 hv
  go_loopw [5] (fun i wr => ∃ k : Nat, k ≤ n ∧ i = .int .i64 k ∧ Below W0.heap.size W0 wr ∧ Vec.dominV (xs.take k) v = false) (fun i _ => n - (intOf i).toNat)
  case atStart => exact ⟨0, by omega, rfl, Below.refl _ _, rfl⟩
  case round =>
    obtain ⟨k, hk, rfl, hbel, hall⟩ := hrel
    have HA := Lib.hid hall
    clear hall
    by_cases hlt : k < n
    · obtain ⟨b, o, rfl, c0, c1, c2, c3⟩ := (HX.out.stays hbel).at_ hlt
      have d0 := (hbel.cell (p := ⟨w.heap.size, 0, none⟩) hs).trans (HV.out 0 (by omega))
      have d1 := (hbel.cell (p := ⟨w.heap.size, 1, none⟩) hs).trans (HV.out 1 (by omega))
      have d2 := (hbel.cell (p := ⟨w.heap.size, 2, none⟩) hs).trans (HV.out 2 (by omega))
      have d3 := (hbel.cell (p := ⟨w.heap.size, 3, none⟩) hs).trans (HV.out 3 (by omega))
      have hk0 : (0 : Int) ≤ (k : Int) := by omega
      have hk1 : (k : Int) < (n : Int) := by omega
      go_wp2
      go_still_tail 5, (by kernel_rfl)
      go_wp2_with fail
      refine (rdom_any _ _ _).mono ?_
      rintro e w1 ⟨rfl, hb1⟩
      have hb2 : Below W0.heap.size W0 w1 := bthen (w1 := wr.drew) (hbel.drew) hb1 (Nat.le_refl _)
      clear c0 c1 c2 c3 d0 d1 d2 d3 hb1
      cases hd : domV (gv xs k) v
      · go_wp2
        go_roundw
        case rel => exact ⟨k + 1, by omega, by go_num, hb2, by
          rw [take_gv (by rw [HX.out.1]; exact hlt)]
          unfold Vec.dominV
          rw [Vec.any_snoc, hd]
          have := HA.out
          unfold Vec.dominV at this
          rw [this]
          rfl⟩
        case measure => simp [intOf]; omega
      · have HD : Hid (Vec.dominV xs v = true) := Lib.hid (Vec.any_take (k := k) (by rw [HX.out.1]; exact hlt) (by rw [← gv_eq]; exact hd))
        go_wp2
        go_ret
        exact ⟨ret_bool HD.out.symm, hb.trans (hb2.mono (by omega))⟩
    · go_wp2
      go_ret
      exact ⟨ret_bool (by rw [← HA.out, List.take_of_length_le (by rw [HX.out.1]; omega)]), hb.trans (hbel.mono (by omega))⟩

set_option maxHeartbeats 1000000 in
theorem rcovers_any (A : Option Addr) (n c : Nat) (xs : List V) (v : V) (w : World) (hx : VecsAt w A n xs) (hn : n ≤ 1000) :
    Calls Try.prog 20 #[.slice A n c, .agg #[.int .i64 (vi v 0), .int .i64 (vi v 1), .int .i64 (vi v 2), .int .i64 (vi v 3)]] w fun e w' => e = .returned (.bool (Vec.covV xs v)) ∧ Below w.heap.size w w' := by
  have r := Nat.le_refl w.heap.size
  obtain ⟨i0, hi, _, _, _⟩ := info_parts infoInt
  have heq := fun x y w => run_eql_vec w Try.underlying26 Try.underlying3 hi cellsInt x y
  clear hi
  go_enter Try.func20, Try.ntmps20
  go_wp2
  have hb : Below w.heap.size w (w.alloc (.cells #[.int .i64 (vi v 0), .int .i64 (vi v 1), .int .i64 (vi v 2), .int .i64 (vi v 3)] 26)) := balloc (Below.refl _ w) _ r
  have hv := VBox.new w 26 v
  have hs : w.heap.size < (w.alloc (.cells #[.int .i64 (vi v 0), .int .i64 (vi v 1), .int .i64 (vi v 2), .int .i64 (vi v 3)] 26)).heap.size := by simp
  have hx0 := hx.alloc (.cells #[.int .i64 (vi v 0), .int .i64 (vi v 1), .int .i64 (vi v 2), .int .i64 (vi v 3)] 26)
  generalize w.alloc (.cells #[.int .i64 (vi v 0), .int .i64 (vi v 1), .int .i64 (vi v 2), .int .i64 (vi v 3)] 26) = W0 at hb hv hs hx0 ⊢
  have HX := Lib.hid hx0
  have HV := Lib.hid hv
  clear hx hx0 hv
  go_loopw [5] (fun i wr => ∃ k : Nat, k ≤ n ∧ i = .int .i64 k ∧ Below W0.heap.size W0 wr ∧ Vec.covV (xs.take k) v = false) (fun i _ => n - (intOf i).toNat)
  case atStart => exact ⟨0, by omega, rfl, Below.refl _ _, rfl⟩
  case round =>
    obtain ⟨k, hk, rfl, hbel, hall⟩ := hrel
    have HA := Lib.hid hall
    clear hall
    by_cases hlt : k < n
    · obtain ⟨b, o, rfl, c0, c1, c2, c3⟩ := (HX.out.stays hbel).at_ hlt
      have d0 := (hbel.cell (p := ⟨w.heap.size, 0, none⟩) hs).trans (HV.out 0 (by omega))
      have d1 := (hbel.cell (p := ⟨w.heap.size, 1, none⟩) hs).trans (HV.out 1 (by omega))
      have d2 := (hbel.cell (p := ⟨w.heap.size, 2, none⟩) hs).trans (HV.out 2 (by omega))
      have d3 := (hbel.cell (p := ⟨w.heap.size, 3, none⟩) hs).trans (HV.out 3 (by omega))
      have hk0 : (0 : Int) ≤ (k : Int) := by omega
      have hk1 : (k : Int) < (n : Int) := by omega
      have hle := Lib.hid (Vec.le_dom (gv xs k) v)
      cases he : eqV (gv xs k) v
      · go_wp2
        go_still_tail 12, (by kernel_rfl)
        go_wp2_with fail
        refine (rdom_any _ _ _).mono ?_
        rintro e w1 ⟨rfl, hb1⟩
        have hb2 : Below W0.heap.size W0 w1 := bthen (w1 := wr.drew) (hbel.drew) hb1 (Nat.le_refl _)
        clear c0 c1 c2 c3 d0 d1 d2 d3 hb1 heq
        cases hd : domV (gv xs k) v
        · go_wp2
          go_roundw
          case rel => exact ⟨k + 1, by omega, by go_num, hb2, by
            rw [take_gv (by rw [HX.out.1]; exact hlt)]
            have := HA.out
            unfold Vec.covV at this ⊢
            rw [Vec.any_snoc, hle.out, hd, he, this]
            rfl⟩
          case measure => simp [intOf]; omega
        · have HD : Hid (Vec.covV xs v = true) := Lib.hid (Vec.any_take (k := k) (by rw [HX.out.1]; exact hlt) (by rw [← gv_eq, hle.out, hd]; simp))
          go_wp2
          go_ret
          exact ⟨ret_bool HD.out.symm, hb.trans (hb2.mono (by omega))⟩
      · have HD : Hid (Vec.covV xs v = true) := Lib.hid (Vec.any_take (k := k) (by rw [HX.out.1]; exact hlt) (by rw [← gv_eq, hle.out, he]; simp))
        go_wp2
        go_quiet (fail)
        go_wp2
        go_ret
        exact ⟨ret_bool HD.out.symm, bdrewN (hb.trans (hbel.mono (by omega))) _⟩
    · go_wp2
      go_ret
      exact ⟨ret_bool (by rw [← HA.out, List.take_of_length_le (by rw [HX.out.1]; omega)]), hb.trans (hbel.mono (by omega))⟩

set_option maxHeartbeats 1000000 in
theorem covers_any (A : Option Addr) (n c : Nat) (xs : List V) (v : V) (w : World) (hx : VecsAt w A n xs) (hn : n ≤ 1000) :
    Calls Try.prog 19 #[.slice A n c, .agg #[.int .i64 (vi v 0), .int .i64 (vi v 1), .int .i64 (vi v 2), .int .i64 (vi v 3)]] w fun e w' => e = .returned (.bool (Vec.covV xs v)) ∧ Below w.heap.size w w' := by
  have r := Nat.le_refl w.heap.size
  go_enter Try.func19, Try.ntmps19
  go_wp2
  go_step3
  go_wp2
  go_step3
  go_wp2
  have hb : Below w.heap.size w (w.alloc (.cells #[.int .i64 (vi v 0), .int .i64 (vi v 1), .int .i64 (vi v 2), .int .i64 (vi v 3)] 23)) := balloc (Below.refl _ w) _ r
  have hv := VBox.new w 23 v
  have hs : w.heap.size < (w.alloc (.cells #[.int .i64 (vi v 0), .int .i64 (vi v 1), .int .i64 (vi v 2), .int .i64 (vi v 3)] 23)).heap.size := by simp
  have hx0 := hx.alloc (.cells #[.int .i64 (vi v 0), .int .i64 (vi v 1), .int .i64 (vi v 2), .int .i64 (vi v 3)] 23)
  generalize w.alloc (.cells #[.int .i64 (vi v 0), .int .i64 (vi v 1), .int .i64 (vi v 2), .int .i64 (vi v 3)] 23) = W0 at hb hv hs hx0 ⊢
  have HX := Lib.hid hx0
  have HV := Lib.hid hv
  clear hx hx0 hv
  go_loopg [5, 11] n (fun g s5 s11 wx => ∃ k : Nat, k + g = n ∧ s11 = .int .i64 k ∧ s5 = .bool false ∧ Below W0.heap.size W0 wx ∧ Hid (Vec.covV (xs.take k) v = false))
  case atStart => exact ⟨0, by omega, rfl, rfl, Below.refl _ _, rfl⟩
  case round =>
    obtain ⟨k, hkg, rfl, rfl, hbel, HA⟩ := hrel
    cases gk with
    | zero =>
      have hkz : ¬ ((k : Int) < (n : Int)) := by omega
      have hend : Hid (Vec.covV xs v = false) := Lib.hid (by have := HA.out; rwa [List.take_of_length_le (by rw [HX.out.1]; omega)] at this)
      go_wp2
      try rw [Exit.noGoto_ret]
      go_ret
      exact ⟨ret_bool hend.out.symm, hb.trans (hbel.mono (by omega))⟩
    | succ g =>
      have hkz : (k : Int) < (n : Int) := by omega
      have hlt : k < n := by omega
      have hk0 : (0 : Int) ≤ (k : Int) := by omega
      obtain ⟨b, o, rfl, c0, c1, c2, c3⟩ := (HX.out.stays hbel).at_ hlt
      have HV2 : Hid (∀ j, j < 4 → wr.cell? ⟨w.heap.size, j, none⟩ = some (.int .i64 (vi v j))) := Lib.hid (fun j hj => (hbel.cell (p := ⟨w.heap.size, j, none⟩) hs).trans (HV.out j hj))
      have hsr : w.heap.size < wr.heap.size := Nat.lt_of_lt_of_le hs hbel.size
      go_wp2
      have hxb := Lib.hid (VBox.new wr 23 (gv xs k))
      have HV3 : Hid (∀ j, j < 4 → (wr.alloc (.cells #[.int .i64 (vi (gv xs k) 0), .int .i64 (vi (gv xs k) 1), .int .i64 (vi (gv xs k) 2), .int .i64 (vi (gv xs k) 3)] 23)).cell? ⟨w.heap.size, j, none⟩ = some (.int .i64 (vi v j))) := Lib.hid (fun j hj => (World.cell?_alloc_lt _ _ _ hsr).trans (HV2.out j hj))
      have hb1 : Below W0.heap.size W0 (wr.alloc (.cells #[.int .i64 (vi (gv xs k) 0), .int .i64 (vi (gv xs k) 1), .int .i64 (vi (gv xs k) 2), .int .i64 (vi (gv xs k) 3)] 23)) := balloc hbel _ (Nat.le_refl _)
      clear c0 c1 c2 c3 HV2
      obtain ⟨q0, hq0⟩ : ∃ q, q = wr.heap.size := ⟨_, rfl⟩
      rw [← hq0] at hxb ⊢
      clear hsr hq0
      generalize wr.alloc (.cells #[.int .i64 (vi (gv xs k) 0), .int .i64 (vi (gv xs k) 1), .int .i64 (vi (gv xs k) 2), .int .i64 (vi (gv xs k) 3)] 23) = W1 at hxb HV3 hb1 ⊢
      go_loopg [15] 4 (fun g2 s15 wy => ∃ j q : Nat, j + g2 = 4 ∧ s15 = .int .i64 j ∧ wy = W1.drewN q ∧ Hid (∀ i, i < j → vi (gv xs k) i ≤ vi v i))
      case atStart => exact ⟨0, 0, by omega, rfl, rfl, fun i h => absurd h (by omega)⟩
      case round =>
        obtain ⟨j, q, hjg, rfl, rfl, HJ⟩ := hrel
        cases gk with
        | zero =>
          have hjz : ¬ ((j : Int) < 4) := by omega
          have hD : Hid (Vec.covV xs v = true) := Lib.hid (Vec.any_take (k := k) (by rw [HX.out.1]; exact hlt) (by rw [← gv_eq]; exact Vec.leV_all (fun i hi => HJ.out i (by omega))))
          go_wp2
          try rw [Exit.noGoto_ret]
          go_ret
          exact ⟨ret_bool hD.out.symm, hb.trans ((bdrewN hb1 q).mono (by omega))⟩
        | succ g2 =>
          have hjz : (j : Int) < 4 := by omega
          have hj4 : j < 4 := by omega
          have hj0 : (0 : Int) ≤ (j : Int) := by omega
          have c1 := hxb.out j hj4
          have c2 := HV3.out j hj4
          by_cases hgt : vi v j < vi (gv xs k) j
          · have hd : decide (vi v j < vi (gv xs k) j) = true := by simpa using hgt
            have hn := Lib.hid (Vec.leV_not hj4 hgt)
            go_wp2
            go_quiet (fail)
            go_wp2
            go_roundg g
            case measure => omega
            case rel => exact ⟨k + 1, by omega, by first | rfl | simp, rfl, by simpa using bdrewN hb1 _, by
              show _ = _
              rw [take_gv (by rw [HX.out.1]; exact hlt)]
              have := HA.out
              unfold Vec.covV at this ⊢
              rw [Vec.any_snoc, hn.out, this]
              rfl⟩
          · have hd : decide (vi v j < vi (gv xs k) j) = false := by simpa using hgt
            go_wp2
            go_quiet (fail)
            go_wp2
            go_roundg g2
            case measure => omega
            case rel => exact ⟨j + 1, _, by omega, by first | rfl | simp, rfl, fun i hi => by
              by_cases e : i = j
              · subst e; omega
              · exact HJ.out i (by omega)⟩
end Go.Proofs.Ytgcngipbjkmdoaa
