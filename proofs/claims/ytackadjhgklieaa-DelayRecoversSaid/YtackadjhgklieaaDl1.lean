/-
  Ordered, dwell: both; first.
-/
import Derived.Test.YtackadjhgklieaaRows
import Derived.Test.YtackadjhgklieaaDelay
import Derived.WalkSpells
import Derived.WalkLawsBesides
import Derived.Deep.QuietTactic
import Derived.BigQuiet
namespace Go.Proofs.Ytackadjhgklieaa
open Go.RowKit

theorem wrap64 {a : Int} (h1 : -1000000000000 ≤ a) (h2 : a ≤ 1000000000000) : IntKind.i64.wrap a = a := by
  simp [IntKind.wrap, IntKind.bits, IntKind.signed]
  omega

set_option maxHeartbeats 1000000 in
theorem ordered_any (A : Option Addr) (n c : Nat) (xs : List Call) (w : World) (hx : SAt callC w A n xs) (hn : n ≤ 1000) :
    Calls Try.prog 21 #[.slice A n c] w fun e w' => e = .returned (.bool (ordB xs)) ∧ Below w.heap.size w w' := by
  have H := Lib.hid hx
  clear hx
  go_enter Try.func21, Try.ntmps21
  go_wp2
  go_loopw [3, 8] (fun u i wr => ∃ k : Nat, k ≤ n ∧ i = .int .i64 k ∧ u = .int .i64 (prevD xs k) ∧ Hid (Ok xs k) ∧ Below w.heap.size w wr) (fun _ i _ => n - (intOf i).toNat)
  case atStart => exact ⟨0, by omega, rfl, rfl, Lib.hid (fun j hj => absurd hj (by omega)), Below.refl _ _⟩
  case round =>
    obtain ⟨k, hk, rfl, rfl, HA, hbel⟩ := hrel
    by_cases hlt : k < n
    · have k0 : (0 : Int) ≤ (k : Int) := by omega
      have kn : (k : Int) < (n : Int) := by omega
      obtain ⟨b, o, hA, _⟩ := H.out.at_ hlt
      subst hA
      obtain ⟨c0, c1, c2, c3, c4⟩ := call_cells (H.out.stays hbel) hlt
      have hbx := balloc hbel (.cells #[.int .i64 (gc xs k).stop, .int .i64 (gc xs k).arr, .int .i64 (gc xs k).dep, .bool (gc xs k).board, .bool (gc xs k).alight] 41) (Nat.le_refl _)
      by_cases h1 : (gc xs k).arr < prevD xs k
      · have HF := Lib.hid (ord_bad H.out.1 hlt (ok_not (by omega)))
        go_wp2
        go_ret
        exact ⟨ret_bool HF.out.symm, hbx⟩
      · by_cases h2 : (gc xs k).dep < (gc xs k).arr
        · have HF := Lib.hid (ord_bad H.out.1 hlt (ok_not (by omega)))
          go_wp2
          go_ret
          exact ⟨ret_bool HF.out.symm, hbx⟩
        · by_cases h3 : 3155932800 < (gc xs k).dep
          · have HF := Lib.hid (ord_bad H.out.1 hlt (ok_not (by omega)))
            go_wp2
            go_ret
            exact ⟨ret_bool HF.out.symm, hbx⟩
          · have HF := Lib.hid (HA.out.step (ok_mk (by omega) (by omega) (by omega)))
            have HP := Lib.hid (prev_succ xs k)
            go_wp2
            go_roundw
            case rel => exact ⟨k + 1, by omega, by go_num, by rw [HP.out], HF, hbx⟩
            case measure => simp [intOf]; omega
    · obtain rfl : k = n := by omega
      have hd : ¬ ((k : Int) < (k : Int)) := by omega
      have HF := Lib.hid (ord_ok H.out.1 HA.out)
      go_wp2
      go_ret
      exact ⟨ret_bool HF.out.symm, hbel⟩

theorem prev_pos {xs : List Call} {k q : Nat} (h : k = q + 1) : prevD xs k = (gc xs q).dep := by subst h; simp [prevD]
theorem prev_zero {xs : List Call} {k : Nat} (h : k = 0) : prevD xs k = 0 := by subst h; simp [prevD]

set_option maxHeartbeats 2000000 in
theorem rordered_any (A : Option Addr) (n c : Nat) (xs : List Call) (w : World) (hx : SAt callC w A n xs) (hn : n ≤ 1000) :
    Calls Try.prog 23 #[.slice A n c] w fun e w' => e = .returned (.bool (ordB xs)) ∧ ∃ q, w' = w.drewN q := by
  have H := Lib.hid hx
  clear hx
  go_enter Try.func23, Try.ntmps23
  go_wp2
  go_loopw [3] (fun i wr => ∃ k q : Nat, k ≤ n ∧ i = .int .i64 k ∧ wr = w.drewN q ∧ Hid (Ok xs k)) (fun i _ => n - (intOf i).toNat)
  case atStart => exact ⟨0, 0, by omega, rfl, rfl, Lib.hid (fun j hj => absurd hj (by omega))⟩
  case round =>
    obtain ⟨k, q, hk, rfl, rfl, HA⟩ := hrel
    by_cases hlt : k < n
    · have k0 : (0 : Int) ≤ (k : Int) := by omega
      have kn : (k : Int) < (n : Int) := by omega
      obtain ⟨b, o, hA, _⟩ := H.out.at_ hlt
      subst hA
      obtain ⟨c0, c1, c2, c3, c4⟩ := call_cells H.out hlt
      by_cases h1 : (gc xs k).arr < 0
      · have HF := Lib.hid (ord_bad H.out.1 hlt (ok_not (fun h => by have := prev_nonneg HA.out; omega)))
        have d1 : decide ((gc xs k).arr < 0) = true := decide_eq_true h1
        go_wp2
        go_quiet (fail)
        go_wp2
        go_ret
        exact ⟨ret_bool HF.out.symm, _, by rw [World.drewN_drewN]⟩
      · have d1 : decide ((gc xs k).arr < 0) = false := decide_eq_false h1
        by_cases h2 : (gc xs k).dep < (gc xs k).arr
        · have HF := Lib.hid (ord_bad H.out.1 hlt (ok_not (by omega)))
          have d2 : decide ((gc xs k).dep < (gc xs k).arr) = true := decide_eq_true h2
          go_wp2
          go_quiet (fail)
          go_wp2
          go_ret
          exact ⟨ret_bool HF.out.symm, _, by rw [World.drewN_drewN]⟩
        · have d2 : decide ((gc xs k).dep < (gc xs k).arr) = false := decide_eq_false h2
          by_cases h3 : 3155932800 < (gc xs k).dep
          · have HF := Lib.hid (ord_bad H.out.1 hlt (ok_not (by omega)))
            have d3 : decide (3155932800 < (gc xs k).dep) = true := decide_eq_true h3
            go_wp2
            go_quiet (fail)
            go_wp2
            go_ret
            exact ⟨ret_bool HF.out.symm, _, by rw [World.drewN_drewN]⟩
          · have d3 : decide (3155932800 < (gc xs k).dep) = false := decide_eq_false h3
            by_cases hz : k = 0
            · have HF := Lib.hid (HA.out.step (ok_mk (by rw [prev_zero hz]; omega) (by omega) (by omega)))
              have d4 : decide ((0 : Int) < (k : Int)) = false := decide_eq_false (by omega)
              have d4' : decide (0 < k) = false := decide_eq_false (by omega)
              clear hz
              go_wp2
              go_quiet (fail)
              go_wp2
              go_roundw
              case rel => exact ⟨k + 1, _, by omega, by go_num, rfl, HF⟩
              case measure => simp [intOf]; omega
            · obtain ⟨m, hm⟩ : ∃ m, k = m + 1 := ⟨k - 1, by omega⟩
              have d4 : decide ((0 : Int) < (k : Int)) = true := decide_eq_true (by omega)
              have d4' : decide (0 < k) = true := decide_eq_true (by omega)
              have m0 : (0 : Int) ≤ (m : Int) := by omega
              have mn : (m : Int) < (n : Int) := by omega
              have hw : IntKind.i64.wrap ((k : Int) - 1) = (m : Int) := by rw [show (k : Int) - 1 = (m : Int) by omega]; exact wrap64 (by omega) (by omega)
              have hp := prev_pos (xs := xs) hm
              obtain ⟨e0, e1, e2, e3, e4⟩ := call_cells H.out (show m < n by omega)
              have HMK := Lib.hid hm
              clear hm hz
              by_cases h5 : (gc xs k).arr < (gc xs m).dep
              · have HF := Lib.hid (ord_bad H.out.1 hlt (ok_not (by rw [hp]; omega)))
                have d5 : decide ((gc xs k).arr < (gc xs m).dep) = true := decide_eq_true h5
                clear hp
                go_wp2
                go_quiet (fail)
                go_wp2
                go_ret
                exact ⟨ret_bool HF.out.symm, _, by rw [World.drewN_drewN]⟩
              · have HF := Lib.hid (HA.out.step (ok_mk (by rw [hp]; omega) (by omega) (by omega)))
                have d5 : decide ((gc xs k).arr < (gc xs m).dep) = false := decide_eq_false h5
                clear hp
                go_wp2
                go_quiet (fail)
                go_wp2
                go_roundw
                case rel => exact ⟨k + 1, _, by omega, by go_num, rfl, HF⟩
                case measure => simp [intOf]; omega
    · obtain rfl : k = n := by omega
      have hd : ¬ ((k : Int) < (k : Int)) := by omega
      have HF := Lib.hid (ord_ok H.out.1 HA.out)
      go_wp2
      go_ret
      exact ⟨ret_bool HF.out.symm, _, rfl⟩

/-- a call's numbers are in their ranges -/
def Sane (c : Call) : Prop := 0 ≤ c.arr ∧ c.arr ≤ c.dep ∧ c.dep ≤ 3155932800

set_option maxHeartbeats 400000 in
theorem dwell_any (x : Call) (w : World) (hx : Sane x) :
    Calls Try.prog 22 #[.agg #[.int .i64 x.stop, .int .i64 x.arr, .int .i64 x.dep, .bool x.board, .bool x.alight]] w fun e w' => e = .returned (.int .i64 (dwellI x)) ∧ Below w.heap.size w w' := by
  obtain ⟨h0, h1, h2⟩ := hx
  have HB := Lib.hid (balloc (Below.refl w.heap.size w) (.cells #[.int .i64 x.stop, .int .i64 x.arr, .int .i64 x.dep, .bool x.board, .bool x.alight] 41) (Nat.le_refl _))
  by_cases h : x.dep - x.arr ≤ 30
  · have HD : Hid (dwellI x = x.dep - x.arr) := Lib.hid (by unfold dwellI; split <;> omega)
    go_enter Try.func22, Try.ntmps22
    go_wp2
    go_ret
    exact ⟨ret_int HD.out.symm, HB.out⟩
  · have HD : Hid (dwellI x = 30) := Lib.hid (by unfold dwellI; split <;> omega)
    go_enter Try.func22, Try.ntmps22
    go_wp2
    go_ret
    exact ⟨ret_int HD.out.symm, HB.out⟩

set_option maxHeartbeats 400000 in
theorem rdwell_any (x : Call) (w : World) (hx : Sane x) :
    Calls Try.prog 25 #[.agg #[.int .i64 x.stop, .int .i64 x.arr, .int .i64 x.dep, .bool x.board, .bool x.alight]] w fun e w' => e = .returned (.int .i64 (dwellI x)) ∧ Below w.heap.size w w' := by
  obtain ⟨h0, h1, h2⟩ := hx
  have HB := Lib.hid (balloc (Below.refl w.heap.size w) (.cells #[.int .i64 x.stop, .int .i64 x.arr, .int .i64 x.dep, .bool x.board, .bool x.alight] 41) (Nat.le_refl _))
  by_cases h : x.dep - x.arr < 30
  · have HD : Hid (dwellI x = x.dep - x.arr) := Lib.hid (by unfold dwellI; split <;> omega)
    go_enter Try.func25, Try.ntmps25
    go_wp2
    go_ret
    exact ⟨ret_int HD.out.symm, HB.out⟩
  · have HD : Hid (dwellI x = 30) := Lib.hid (by unfold dwellI; split <;> omega)
    go_enter Try.func25, Try.ntmps25
    go_wp2
    go_ret
    exact ⟨ret_int HD.out.symm, HB.out⟩
end Go.Proofs.Ytackadjhgklieaa
