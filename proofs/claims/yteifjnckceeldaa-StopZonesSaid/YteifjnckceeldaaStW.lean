/-
  The walks of the statements on stops.
-/
import Derived.Test.YteifjnckceeldaaSt5
namespace Go.Proofs.Yteifjnckceeldaa
open Go.RowKit

theorem small_len {xs : List Stop} (h : smallB xs = true) : xs.length ≤ 200 := by
  unfold smallB at h
  rw [Bool.and_eq_true] at h
  exact of_decide_eq_true h.1
/-- what is known of the identifiers' lengths -/
def Sized (xs : List Stop) : Prop := ∀ s ∈ xs, s.id.size ≤ 9223372036854775807
theorem Sized.at_ {xs : List Stop} {n : Nat} (h : Sized xs) (hl : xs.length = n) : ∀ k, k < n → (gs xs k).id.size ≤ 9223372036854775807 := fun _ hk => h _ (gs_mem (by omega))
theorem find_cases (xs : List Stop) (id : ByteArray) : (∃ f : Nat, findI xs id = f ∧ findB xs id = true ∧ rfindI xs id = f) ∨ (findI xs id = 0 ∧ findB xs id = false ∧ rfindI xs id = -1) := by
  unfold findI findB rfindI
  by_cases h : findN xs id < xs.length
  · left
    rw [if_pos h, if_pos h, decide_eq_true h]
    exact ⟨_, rfl, rfl, rfl⟩
  · right
    rw [if_neg h, if_neg h, decide_eq_false h]
    exact ⟨rfl, rfl, rfl⟩
theorem Sized.take {xs : List Stop} (h : Sized xs) (m : Nat) : Sized (xs.take m) := fun s hs => h s (List.mem_of_mem_take hs)

set_option maxHeartbeats 1000000 in
theorem checks_walk (A : Option Addr) (n c : Nat) (xs : List Stop) (w : World) (hx : SAt stopC w A n xs) (hs : Sized xs) :
    Calls Try.prog 3 #[.slice A n c] w fun e w' => e = .returned (.bool true) ∧ Below w.heap.size w w' := by
  have r := Nat.le_refl w.heap.size
  have R := Lib.hid hx
  have HN := Lib.hid hx.1
  have HS := Lib.hid (hs.at_ hx.1)
  have HB := Lib.hid (Below.refl w.heap.size w)
  clear hx hs
  cases hsm : smallB xs
  · go_enter Try.func3, Try.ntmps3
    go_wp2_with fail
    refine (small_any _ _ _ xs _ R.out HS.out).mono ?_
    rintro e w1 ⟨rfl, hb⟩
    have R := Lib.hid (R.out.stays hb)
    have HB := Lib.hid (bthen HB.out hb r)
    clear hb
    go_wp2_with fail
    refine (example_any _).mono ?_
    rintro e w2 ⟨rfl, hb⟩
    have R := Lib.hid (R.out.stays hb)
    have HB := Lib.hid (bthen HB.out hb r)
    clear hb
    go_wp2
    go_ret
    exact ⟨rfl, HB.out⟩
  · have hl := small_len hsm
    have hn : n ≤ 1000 := by have := HN.out; omega
    clear hl
    go_enter Try.func3, Try.ntmps3
    go_wp2_with fail
    refine (small_any _ _ _ xs _ R.out HS.out).mono ?_
    rintro e w1 ⟨rfl, hb⟩
    have R := Lib.hid (R.out.stays hb)
    have HB := Lib.hid (bthen HB.out hb r)
    clear hb
    go_wp2_with fail
    refine (check_any _ _ _ xs _ R.out HS.out).mono ?_
    rintro e w2 ⟨rfl, hb⟩
    have R := Lib.hid (R.out.stays hb)
    have HB := Lib.hid (bthen HB.out hb r)
    clear hb
    go_wp2_with fail
    refine (rcheck_any _ _ _ xs _ R.out hn HS.out).mono ?_
    rintro e w' ⟨rfl, rfl⟩
    go_wp2_with fail
    refine (example_any _).mono ?_
    rintro e w3 ⟨rfl, hb⟩
    have R := Lib.hid (R.out.stays hb)
    have HB := Lib.hid (bthen HB.out hb r)
    clear hb
    go_wp2
    go_ret
    exact ⟨rfl, HB.out⟩

set_option maxHeartbeats 1000000 in
theorem finds_walk (A : Option Addr) (n c : Nat) (xs : List Stop) (id : ByteArray) (w : World) (hx : SAt stopC w A n xs) (hs : Sized xs) (hi : id.size ≤ 9223372036854775807) :
    Calls Try.prog 4 #[.slice A n c, .string id] w fun e w' => e = .returned (.bool true) ∧ Below w.heap.size w w' := by
  have r := Nat.le_refl w.heap.size
  have R := Lib.hid hx
  have HN := Lib.hid hx.1
  have HS := Lib.hid (hs.at_ hx.1)
  have HB := Lib.hid (Below.refl w.heap.size w)
  clear hx hs
  cases hsm : smallB xs
  · go_enter Try.func4, Try.ntmps4
    go_wp2_with fail
    refine (small_any _ _ _ xs _ R.out HS.out).mono ?_
    rintro e w1 ⟨rfl, hb⟩
    have R := Lib.hid (R.out.stays hb)
    have HB := Lib.hid (bthen HB.out hb r)
    clear hb
    go_wp2_with fail
    refine (example_any _).mono ?_
    rintro e w2 ⟨rfl, hb⟩
    have R := Lib.hid (R.out.stays hb)
    have HB := Lib.hid (bthen HB.out hb r)
    clear hb
    go_wp2
    go_ret
    exact ⟨rfl, HB.out⟩
  · have hl := small_len hsm
    have hn : n ≤ 1000 := by have := HN.out; omega
    clear hl
    by_cases h256 : (256 : Int) < (id.size : Int)
    · go_enter Try.func4, Try.ntmps4
      go_wp2_with fail
      refine (small_any _ _ _ xs _ R.out HS.out).mono ?_
      rintro e w1 ⟨rfl, hb⟩
      have R := Lib.hid (R.out.stays hb)
      have HB := Lib.hid (bthen HB.out hb r)
      clear hb
      go_wp2_with fail
      refine (example_any _).mono ?_
      rintro e w2 ⟨rfl, hb⟩
      have R := Lib.hid (R.out.stays hb)
      have HB := Lib.hid (bthen HB.out hb r)
      clear hb
      go_wp2
      go_ret
      exact ⟨rfl, HB.out⟩
    · have hfa := fun A n c w h h2 => find_any A n c xs id w h h2
      have hrf := fun A n c w h h2 => rfind_any A n c xs id w h h2
      rcases find_cases xs id with ⟨f, e1, e2, e3⟩ | ⟨e1, e2, e3⟩
      all_goals
        rw [e1, e2] at hfa
        rw [e3] at hrf
        clear e1 e2 e3
        go_enter Try.func4, Try.ntmps4
        go_wp2_with fail
        refine (small_any _ _ _ xs _ R.out HS.out).mono ?_
        rintro e w1 ⟨rfl, hb⟩
        have R := Lib.hid (R.out.stays hb)
        have HB := Lib.hid (bthen HB.out hb r)
        clear hb
        go_wp2_with fail
        refine (hfa _ _ _ _ R.out hn).mono ?_
        rintro e w2 ⟨rfl, hb⟩
        have R := Lib.hid (R.out.stays hb)
        have HB := Lib.hid (bthen HB.out hb r)
        clear hb
        go_wp2_with fail
        refine (hrf _ _ _ _ R.out hn).mono ?_
        rintro e w' ⟨rfl, rfl⟩
        go_wp2_with fail
        refine (example_any _).mono ?_
        rintro e w3 ⟨rfl, hb⟩
        have R := Lib.hid (R.out.stays hb)
        have HB := Lib.hid (bthen HB.out hb r)
        clear hb
        go_wp2
        go_ret
        exact ⟨rfl, HB.out⟩

set_option maxHeartbeats 1000000 in
theorem lists_walk (A : Option Addr) (n c : Nat) (xs : List Stop) (z : Int) (w : World) (hx : SAt stopC w A n xs) (hs : Sized xs) (_hz : I64 z) :
    Calls Try.prog 5 #[.slice A n c, .int .i64 z] w fun e w' => e = .returned (.bool true) ∧ Below w.heap.size w w' := by
  have r := Nat.le_refl w.heap.size
  have R := Lib.hid hx
  have HN := Lib.hid hx.1
  have HS := Lib.hid (hs.at_ hx.1)
  have HB := Lib.hid (Below.refl w.heap.size w)
  clear hx hs
  by_cases hn2 : (200 : Int) < (n : Int)
  · go_enter Try.func5, Try.ntmps5
    go_wp2_with fail
    refine (example_any _).mono ?_
    rintro e w1 ⟨rfl, hb⟩
    have R := Lib.hid (R.out.stays hb)
    have HB := Lib.hid (bthen HB.out hb r)
    clear hb
    go_wp2
    go_ret
    exact ⟨rfl, HB.out⟩
  · have hn : n ≤ 1000 := by omega
    have hil := in_len xs z xs.length
    have hil2 : (inTo xs z xs.length).length ≤ 1000 := by have := HN.out; omega
    clear hil
    go_enter Try.func5, Try.ntmps5
    go_wp2_with fail
    refine (zones_any _ _ _ xs _ R.out hn).mono ?_
    rintro e w1 ⟨rfl, hb⟩
    have R := Lib.hid (R.out.stays hb)
    have HB := Lib.hid (bthen HB.out hb r)
    clear hb
    go_wp2_with fail
    refine (rzones_any _ _ _ xs _ R.out hn).mono ?_
    rintro e w' ⟨rfl, rfl⟩
    go_wp2_with fail
    refine (inzone_any _ _ _ xs z _ R.out hn).mono ?_
    rintro e w2 ⟨AI, cI, rfl, hi, _, _, hb, _⟩
    have RI := Lib.hid hi
    have R := Lib.hid (R.out.stays hb)
    have HB := Lib.hid (bthen HB.out hb r)
    clear hb hi
    go_wp2_with fail
    refine (rinzone_any _ _ _ xs z _ R.out hn).mono ?_
    rintro e w3 ⟨AJ, cJ, rfl, hi, _, _, hb, _⟩
    have RI := Lib.hid (RI.out.stays hb)
    have RJ := Lib.hid hi
    have R := Lib.hid (R.out.stays hb)
    have HB := Lib.hid (bthen HB.out hb r)
    clear hb hi
    go_wp2_with fail
    refine (same_self _ _ _ _ _ _ _ _ _ rfl RI.out RJ.out hil2).mono ?_
    rintro e w7 ⟨rfl, q, rfl⟩
    have HB := Lib.hid (bdrewN HB.out q)
    go_wp2_with fail
    refine (example_any _).mono ?_
    rintro e w8 ⟨rfl, hb⟩
    have HB := Lib.hid (bthen HB.out hb r)
    clear hb
    go_wp2
    go_ret
    exact ⟨rfl, HB.out⟩

set_option maxHeartbeats 1000000 in
theorem access_walk (A : Option Addr) (n c : Nat) (xs : List Stop) (w : World) (hx : SAt stopC w A n xs) (hs : Sized xs) :
    Calls Try.prog 6 #[.slice A n c] w fun e w' => e = .returned (.bool true) ∧ Below w.heap.size w w' := by
  have r := Nat.le_refl w.heap.size
  have R := Lib.hid hx
  have HN := Lib.hid hx.1
  have HS := Lib.hid (hs.at_ hx.1)
  have HB := Lib.hid (Below.refl w.heap.size w)
  clear hx hs
  by_cases hn2 : (200 : Int) < (n : Int)
  · go_enter Try.func6, Try.ntmps6
    go_wp2_with fail
    refine (example_any _).mono ?_
    rintro e w1 ⟨rfl, hb⟩
    have R := Lib.hid (R.out.stays hb)
    have HB := Lib.hid (bthen HB.out hb r)
    clear hb
    go_wp2
    go_ret
    exact ⟨rfl, HB.out⟩
  · have hn : n ≤ 1000 := by omega
    go_enter Try.func6, Try.ntmps6
    go_wp2_with fail
    refine (free_any _ _ _ xs _ R.out hn).mono ?_
    rintro e w1 ⟨rfl, hb⟩
    have R := Lib.hid (R.out.stays hb)
    have HB := Lib.hid (bthen HB.out hb r)
    clear hb
    go_wp2_with fail
    refine (rfree_any _ _ _ xs _ R.out hn).mono ?_
    rintro e w' ⟨rfl, rfl⟩
    go_wp2_with fail
    refine (example_any _).mono ?_
    rintro e w2 ⟨rfl, hb⟩
    have R := Lib.hid (R.out.stays hb)
    have HB := Lib.hid (bthen HB.out hb r)
    clear hb
    go_wp2
    go_ret
    exact ⟨rfl, HB.out⟩
end Go.Proofs.Yteifjnckceeldaa
