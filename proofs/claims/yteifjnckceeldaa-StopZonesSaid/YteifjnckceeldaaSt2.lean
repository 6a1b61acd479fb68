/-
  small, Find: both.
-/
import Derived.Test.YteifjnckceeldaaSt1
namespace Go.Proofs.Yteifjnckceeldaa
open Go.RowKit

theorem str_yes {s t : ByteArray} (h : s = t) : (s.toList == t.toList) = true := by subst h; simp
theorem str_no {s t : ByteArray} (h : s ≠ t) : (s.toList == t.toList) = false := by
  rw [beq_eq_false_iff_ne]
  intro e
  rw [ByteArray.toList_eq, ByteArray.toList_eq] at e
  apply h
  cases s
  cases t
  congr 1
  exact Array.ext' e
theorem find_hit {xs : List Stop} {id : ByteArray} {k n : Nat} (hl : xs.length = n) (hk : k < n) (h : (gs xs k).id = id) (hb : ∀ j, j < k → (gs xs j).id ≠ id) : findI xs id = k ∧ findB xs id = true ∧ rfindI xs id = k := by
  have : findN xs id = k := firstN_eq (by omega) (by simp [h]) (fun j hj => by simp [hb j hj])
  unfold findI findB rfindI
  rw [this, if_pos (by omega), if_pos (by omega), decide_eq_true (by omega)]
  exact ⟨rfl, rfl, rfl⟩
theorem find_miss {xs : List Stop} {id : ByteArray} {n : Nat} (hl : xs.length = n) (hb : ∀ j, j < n → (gs xs j).id ≠ id) : findI xs id = 0 ∧ findB xs id = false ∧ rfindI xs id = -1 := by
  have : findN xs id = xs.length := firstN_none (fun j hj => by simp [hb j (by omega)])
  unfold findI findB rfindI
  rw [this, if_neg (by omega), if_neg (by omega), decide_eq_false (by omega)]
  exact ⟨rfl, rfl, rfl⟩
theorem ret_ib {i j : Int} {a b : Bool} (h : i = j) (h2 : a = b) : Ending.returned (.tuple #[.int .i64 i, .bool a]) = .returned (.tuple #[.int .i64 j, .bool b]) := by rw [h, h2]
theorem ret_ii {i j a b : Int} (h : i = j) (h2 : a = b) : Ending.returned (.tuple #[.int .i64 i, .int .i64 a]) = .returned (.tuple #[.int .i64 j, .int .i64 b]) := by rw [h, h2]
theorem step_ne {xs : List Stop} {id : ByteArray} {k : Nat} (h : ∀ j, j < k → (gs xs j).id ≠ id) (h2 : (gs xs k).id ≠ id) : ∀ j, j < k + 1 → (gs xs j).id ≠ id := fun j hj => by
  by_cases e : j = k
  · subst e; exact h2
  · exact h j (by omega)

set_option maxHeartbeats 1000000 in
theorem find_any (A : Option Addr) (n c : Nat) (xs : List Stop) (id : ByteArray) (w : World) (hx : SAt stopC w A n xs) (hn : n ≤ 1000) :
    Calls Try.prog 14 #[.slice A n c, .string id] w fun e w' => e = .returned (.tuple #[.int .i64 (findI xs id), .bool (findB xs id)]) ∧ Below w.heap.size w w' := by
  have H := Lib.hid hx
  clear hx
  go_enter Try.func14, Try.ntmps14
  go_wp2
  go_loopw [10] (fun i wr => ∃ k : Nat, k ≤ n ∧ i = .int .i64 k ∧ Hid (∀ j, j < k → (gs xs j).id ≠ id) ∧ Below w.heap.size w wr) (fun i _ => n - (intOf i).toNat)
  case atStart => exact ⟨0, by omega, rfl, Lib.hid (fun j hj => absurd hj (by omega)), Below.refl _ _⟩
  case round =>
    obtain ⟨k, hk, rfl, HA, hbel⟩ := hrel
    by_cases hlt : k < n
    · have k0 : (0 : Int) ≤ (k : Int) := by omega
      have kn : (k : Int) < (n : Int) := by omega
      obtain ⟨b, o, hA, _⟩ := H.out.at_ hlt
      subst hA
      obtain ⟨c0, c1, c2, c3⟩ := stop_cells (H.out.stays hbel) hlt
      have hbx := balloc hbel (.cells #[.string (gs xs k).id, .int .i64 (gs xs k).zone, .bool (gs xs k).free, .int .i64 (gs xs k).change] 43) (Nat.le_refl _)
      by_cases he : (gs xs k).id = id
      · have hs := str_yes he
        have HF := Lib.hid (find_hit H.out.1 hlt he HA.out)
        clear he
        go_wp2
        go_ret2
        exact ⟨ret_ib HF.out.1.symm HF.out.2.1.symm, hbx⟩
      · have hs := str_no he
        have HF := Lib.hid (step_ne HA.out he)
        clear he
        go_wp2
        go_roundw
        case rel => exact ⟨k + 1, by omega, by go_num, HF, hbx⟩
        case measure => simp [intOf]; omega
    · obtain rfl : k = n := by omega
      have hd : ¬ ((k : Int) < (k : Int)) := by omega
      have HF := Lib.hid (find_miss H.out.1 HA.out)
      go_wp2
      go_ret2
      exact ⟨ret_ib HF.out.1.symm HF.out.2.1.symm, hbel⟩

set_option maxHeartbeats 1000000 in
theorem rfind_any (A : Option Addr) (n c : Nat) (xs : List Stop) (id : ByteArray) (w : World) (hx : SAt stopC w A n xs) (hn : n ≤ 1000) :
    Calls Try.prog 15 #[.slice A n c, .string id] w fun e w' => e = .returned (.int .i64 (rfindI xs id)) ∧ w = w' := by
  have H := Lib.hid hx
  clear hx
  go_enter Try.func15, Try.ntmps15
  go_wp2
  go_loop [5] (fun i => ∃ k : Nat, k ≤ n ∧ i = .int .i64 k ∧ Hid (∀ j, j < k → (gs xs j).id ≠ id)) (fun i => n - (intOf i).toNat)
  case atStart => exact ⟨0, by omega, rfl, Lib.hid (fun j hj => absurd hj (by omega))⟩
  case round =>
    obtain ⟨k, hk, rfl, HA⟩ := hrel
    by_cases hlt : k < n
    · have k0 : (0 : Int) ≤ (k : Int) := by omega
      have kn : (k : Int) < (n : Int) := by omega
      obtain ⟨b, o, hA, _⟩ := H.out.at_ hlt
      subst hA
      obtain ⟨c0, c1, c2, c3⟩ := stop_cells H.out hlt
      by_cases he : (gs xs k).id = id
      · have hs := str_yes he
        have HF := Lib.hid (find_hit H.out.1 hlt he HA.out)
        clear he
        go_wp2
        go_ret
        exact ⟨ret_int HF.out.2.2.symm, rfl⟩
      · have hs := str_no he
        have HF := Lib.hid (step_ne HA.out he)
        clear he
        go_wp2
        go_round
        case rel => exact ⟨k + 1, by omega, by go_num, HF⟩
        case measure => simp [intOf]; omega
    · obtain rfl : k = n := by omega
      have hd : ¬ ((k : Int) < (k : Int)) := by omega
      have HF := Lib.hid (find_miss H.out.1 HA.out)
      go_wp2
      go_ret
      exact ⟨ret_int HF.out.2.2.symm, rfl⟩

theorem small_bad {xs : List Stop} {k : Nat} (hk : k < xs.length) (h : 256 < (gs xs k).id.size) : smallB xs = false := by
  have := firstN_le_of (p := fun k => decide (256 < (gs xs k).id.size)) hk (by simp [h])
  unfold smallB
  rw [decide_eq_false (p := firstN _ _ = _) (by omega), Bool.and_false]
theorem small_ok {xs : List Stop} (hl : xs.length ≤ 200) (h : ∀ k, k < xs.length → ¬ 256 < (gs xs k).id.size) : smallB xs = true := by
  unfold smallB
  rw [decide_eq_true hl, firstN_none (fun j hj => by simp; have := h j hj; omega)]
  simp
theorem small_big {xs : List Stop} (hl : 200 < xs.length) : smallB xs = false := by
  unfold smallB
  rw [decide_eq_false (by omega), Bool.false_and]

set_option maxHeartbeats 1000000 in
theorem small_any (A : Option Addr) (n c : Nat) (xs : List Stop) (w : World) (hx : SAt stopC w A n xs) (hs : ∀ k, k < n → (gs xs k).id.size ≤ 9223372036854775807) :
    Calls Try.prog 10 #[.slice A n c] w fun e w' => e = .returned (.bool (smallB xs)) ∧ Below w.heap.size w w' := by
  have H := Lib.hid hx
  have HS := Lib.hid hs
  clear hx hs
  by_cases hn : n ≤ 200
  · have hn' : ¬ (200 : Int) < (n : Int) := by omega
    go_enter Try.func10, Try.ntmps10
    go_wp2
    go_loopw [10] (fun i wr => ∃ k : Nat, k ≤ n ∧ i = .int .i64 k ∧ Hid (∀ j, j < k → ¬ 256 < (gs xs j).id.size) ∧ Below w.heap.size w wr) (fun i _ => n - (intOf i).toNat)
    case atStart => exact ⟨0, by omega, rfl, Lib.hid (fun j hj => absurd hj (by omega)), Below.refl _ _⟩
    case round =>
      obtain ⟨k, hk, rfl, HA, hbel⟩ := hrel
      by_cases hlt : k < n
      · have k0 : (0 : Int) ≤ (k : Int) := by omega
        have kn : (k : Int) < (n : Int) := by omega
        obtain ⟨b, o, hA, _⟩ := H.out.at_ hlt
        subst hA
        obtain ⟨c0, c1, c2, c3⟩ := stop_cells (H.out.stays hbel) hlt
        have hsz := HS.out k hlt
        have hbx := balloc hbel (.cells #[.string (gs xs k).id, .int .i64 (gs xs k).zone, .bool (gs xs k).free, .int .i64 (gs xs k).change] 43) (Nat.le_refl _)
        by_cases he : 256 < (gs xs k).id.size
        · have he' : (256 : Int) < ((gs xs k).id.size : Int) := by omega
          have HF := Lib.hid (small_bad (by rw [H.out.1]; exact hlt) he)
          go_wp2
          go_ret
          exact ⟨ret_bool HF.out.symm, hbx⟩
        · have he' : ¬ (256 : Int) < ((gs xs k).id.size : Int) := by omega
          have HF : Hid (∀ j, j < k + 1 → ¬ 256 < (gs xs j).id.size) := Lib.hid fun j hj => by
            by_cases e : j = k
            · subst e; exact he
            · exact HA.out j (by omega)
          go_wp2
          go_roundw
          case rel => exact ⟨k + 1, by omega, by go_num, HF, hbx⟩
          case measure => simp [intOf]; omega
      · obtain rfl : k = n := by omega
        have hd : ¬ ((k : Int) < (k : Int)) := by omega
        have HF := Lib.hid (small_ok (by rw [H.out.1]; exact hn) (fun j hj => HA.out j (by rw [H.out.1] at hj; exact hj)))
        go_wp2
        go_ret
        exact ⟨ret_bool HF.out.symm, hbel⟩
  · have hn' : (200 : Int) < (n : Int) := by omega
    have HF := Lib.hid (small_big (xs := xs) (by rw [H.out.1]; omega))
    go_enter Try.func10, Try.ntmps10
    go_wp2
    go_ret
    exact ⟨ret_bool HF.out.symm, Below.refl _ _⟩
end Go.Proofs.Yteifjnckceeldaa
