/-
  The walks of the statements on stops, without the reference.
-/
import Derived.Test.YteifjnckceeldaaStW
namespace Go.Proofs.Yteifjnckceeldaa
open Go.RowKit

theorem chk_fine {xs : List Stop} {n : Nat} (hl : xs.length = n) (hn : n ≤ 64) (h : chkE xs = 0) : Fine xs n ∧ chkI xs = 0 := by
  have hb : ¬ badN xs < xs.length := fun hlt => by
    have h1 := firstN_hit (p := fun k => decide (errI xs k ≠ 0)) hlt
    unfold chkE at h
    rw [if_pos (by omega), if_pos hlt] at h
    change decide (errI xs (badN xs) ≠ 0) = true at h1
    exact of_decide_eq_true h1 h
  refine ⟨fun j hj => ?_, by unfold chkI; rw [if_neg (by omega)]⟩
  have := firstN_before (p := fun k => decide (errI xs k ≠ 0)) (n := xs.length) (k := j) (by unfold badN at hb; omega)
  simpa using this
theorem err_zero_inv {xs : List Stop} {k : Nat} (h : errI xs k = 0) : validB (gs xs k).id = true ∧ dupB xs k = false ∧ outB (gs xs k) = false := by
  unfold errI at h
  cases hv : validB (gs xs k).id
  · simp [hv] at h
  · cases hd : dupB xs k
    · cases ho : outB (gs xs k)
      · exact ⟨rfl, rfl, rfl⟩
      · simp [hv, hd, ho] at h
    · simp [hv, hd] at h
theorem fine_find {xs : List Stop} {n k : Nat} (hl : xs.length = n) (h : Fine xs n) (hk : k < n) : findI xs (gs xs k).id = k ∧ findB xs (gs xs k).id = true := by
  have hd := (err_zero_inv (h k hk)).2.1
  have : findN xs (gs xs k).id = k := by
    have h1 : findN xs (gs xs k).id ≤ k := firstN_le_of (by omega) (by simp)
    unfold dupB at hd
    have := of_decide_eq_false hd
    omega
  unfold findI findB
  rw [this, if_pos (by omega), decide_eq_true (by omega)]
  exact ⟨rfl, rfl⟩
theorem take_err {xs : List Stop} {m k : Nat} (hk : k < m) (hm : m ≤ xs.length) : errI (xs.take m) k = errI xs k := by
  have e1 : gs (xs.take m) k = gs xs k := gs_take hk
  have e2 : dupB (xs.take m) k = dupB xs k := by
    rw [← seen_dup (xs := xs.take m) (by rw [List.length_take]; omega), ← seen_dup (xs := xs) (by omega), e1]
    unfold seenB
    apply decide_eq_decide.2
    constructor
    · rintro ⟨j, hj, e⟩; exact ⟨j, hj, by rwa [gs_take (by omega)] at e⟩
    · rintro ⟨j, hj, e⟩; exact ⟨j, hj, by rwa [gs_take (by omega)]⟩
  unfold errI
  rw [e1, e2]
theorem first_facts {xs : List Stop} {n : Nat} (hl : xs.length = n) (hn : n ≤ 64) (h : chkE xs ≠ 0) : ∃ (f : Nat) (e : Int), f < n ∧ e ≠ 0 ∧ chkI xs = f ∧ chkE xs = e ∧ chkE (xs.take f) = 0 ∧ chkI (xs.take f) = 0 ∧ chkI (xs.take (f + 1)) = f ∧ chkE (xs.take (f + 1)) = e := by
  by_cases hb : badN xs < xs.length
  · have h1 := firstN_hit (p := fun k => decide (errI xs k ≠ 0)) hb
    have hbf : ∀ j, j < badN xs → errI xs j = 0 := fun j hj => by
      have := firstN_before (p := fun k => decide (errI xs k ≠ 0)) hj
      simpa using this
    change decide (errI xs (badN xs) ≠ 0) = true at h1
    have h2 : errI xs (badN xs) ≠ 0 := of_decide_eq_true h1
    have hx := err_at (xs := xs) (by omega) hb rfl h2 hbf
    have ht := err_none (xs := xs.take (badN xs)) (by rw [List.length_take]; omega) (fun j hj => by
      rw [List.length_take] at hj
      rw [take_err (by omega) (by omega)]
      exact hbf j (by omega))
    have hu := err_at (xs := xs.take (badN xs + 1)) (k := badN xs) (e := errI xs (badN xs)) (by rw [List.length_take]; omega) (by rw [List.length_take]; omega) (take_err (by omega) (by omega)) h2 (fun j hj => by
      rw [take_err (by omega) (by omega)]
      exact hbf j hj)
    exact ⟨badN xs, errI xs (badN xs), by omega, h2, hx.1, hx.2, ht.2, ht.1, hu.1, hu.2⟩
  · exact absurd (by unfold chkE; rw [if_pos (by omega), if_neg hb]) h

set_option maxHeartbeats 1000000 in
theorem names_walk (A : Option Addr) (n c : Nat) (xs : List Stop) (w : World) (hx : SAt stopC w A n xs) (hs : Sized xs) :
    Calls Try.prog 7 #[.slice A n c] w fun e w' => e = .returned (.bool true) ∧ Below w.heap.size w w' := by
  have r := Nat.le_refl w.heap.size
  have R := Lib.hid hx
  have HN := Lib.hid hx.1
  have HS := Lib.hid (hs.at_ hx.1)
  have HB := Lib.hid (Below.refl w.heap.size w)
  clear hx hs
  cases hsm : smallB xs
  · go_enter Try.func7, Try.ntmps7
    go_wp2_with fail
    refine (small_any _ _ _ xs _ R.out HS.out).mono ?_
    rintro e w1 ⟨rfl, hb⟩
    have R := Lib.hid (R.out.stays hb)
    have HB := Lib.hid (bthen HB.out hb r)
    clear hb
    go_wp2_with fail
    refine (example_any _).mono ?_
    rintro e w2 ⟨rfl, hb⟩
    have R := Lib.hid (R.out.stays hb)
    have HB := Lib.hid (bthen HB.out hb r)
    clear hb
    go_wp2
    go_ret
    exact ⟨rfl, HB.out⟩
  by_cases h64 : (64 : Int) < (n : Int)
  · go_enter Try.func7, Try.ntmps7
    go_wp2_with fail
    refine (small_any _ _ _ xs _ R.out HS.out).mono ?_
    rintro e w1 ⟨rfl, hb⟩
    have R := Lib.hid (R.out.stays hb)
    have HB := Lib.hid (bthen HB.out hb r)
    clear hb
    go_wp2_with fail
    refine (example_any _).mono ?_
    rintro e w2 ⟨rfl, hb⟩
    have R := Lib.hid (R.out.stays hb)
    have HB := Lib.hid (bthen HB.out hb r)
    clear hb
    go_wp2
    go_ret
    exact ⟨rfl, HB.out⟩
  have h64' : n ≤ 64 := by omega
  have hn : n ≤ 1000 := by omega
  have hck := fun A n c w h h2 => check_any A n c xs w h h2
  by_cases he : chkE xs = 0
  · have HF := Lib.hid (chk_fine HN.out h64' he)
    rw [he, HF.out.2] at hck
    clear he
    go_enter Try.func7, Try.ntmps7
    go_wp2_with fail
    refine (small_any _ _ _ xs _ R.out HS.out).mono ?_
    rintro e w1 ⟨rfl, hb⟩
    have R := Lib.hid (R.out.stays hb)
    have HB := Lib.hid (bthen HB.out hb r)
    clear hb
    go_wp2_with fail
    refine (hck _ _ _ _ R.out HS.out).mono ?_
    rintro e w2 ⟨rfl, hb⟩
    have R := Lib.hid (R.out.stays hb)
    have HB := Lib.hid (bthen HB.out hb r)
    clear hb
    clear hck
    go_wp2
    go_loopw [28] (fun i wr => ∃ k : Nat, k ≤ n ∧ i = .int .i64 k ∧ Below w2.heap.size w2 wr) (fun i _ => n - (intOf i).toNat)
    case atStart => exact ⟨0, by omega, rfl, Below.refl _ _⟩
    case round =>
      obtain ⟨k, hk, rfl, hbel⟩ := hrel
      by_cases hlt : k < n
      · have k0 : (0 : Int) ≤ (k : Int) := by omega
        have kn : (k : Int) < (n : Int) := by omega
        obtain ⟨b, o, hA, _⟩ := R.out.at_ hlt
        subst hA
        obtain ⟨c0, c1, c2, c3⟩ := stop_cells (R.out.stays hbel) hlt
        have hbx := balloc hbel (.cells #[.string (gs xs k).id, .int .i64 (gs xs k).zone, .bool (gs xs k).free, .int .i64 (gs xs k).change] 43) (Nat.le_refl _)
        have hfa := fun w h => find_any (some ⟨b, o, none⟩) n c xs (gs xs k).id w h hn
        rw [(fine_find HN.out HF.out.1 hlt).1, (fine_find HN.out HF.out.1 hlt).2] at hfa
        go_wp2_with fail
        refine (hfa _ (R.out.stays hbx)).mono ?_
        rintro e w4 ⟨rfl, hb⟩
        have hbx := bthen hbx hb (Nat.le_refl _)
        clear hfa hb c0 c1 c2 c3
        go_wp2
        go_roundw
        case rel => exact ⟨k + 1, by omega, by go_num, hbx⟩
        case measure => simp [intOf]; omega
      · obtain rfl : k = n := by omega
        have hd : ¬ ((k : Int) < (k : Int)) := by omega
        have HB := Lib.hid (bthen HB.out hbel r)
        clear hbel
        go_wp2_with fail
        refine (example_any _).mono ?_
        rintro e w5 ⟨rfl, hb⟩
        have HB := Lib.hid (bthen HB.out hb r)
        clear hb
        go_wp2
        go_ret
        exact ⟨rfl, HB.out⟩
  · have he' : (chkE xs != 0) = true := by simpa using he
    clear he
    go_enter Try.func7, Try.ntmps7
    go_wp2_with fail
    refine (small_any _ _ _ xs _ R.out HS.out).mono ?_
    rintro e w1 ⟨rfl, hb⟩
    have R := Lib.hid (R.out.stays hb)
    have HB := Lib.hid (bthen HB.out hb r)
    clear hb
    go_wp2_with fail
    refine (hck _ _ _ _ R.out HS.out).mono ?_
    rintro e w2 ⟨rfl, hb⟩
    have R := Lib.hid (R.out.stays hb)
    have HB := Lib.hid (bthen HB.out hb r)
    clear hb
    clear hck
    go_wp2_with fail
    refine (example_any _).mono ?_
    rintro e w3 ⟨rfl, hb⟩
    have R := Lib.hid (R.out.stays hb)
    have HB := Lib.hid (bthen HB.out hb r)
    clear hb
    go_wp2
    go_ret
    exact ⟨rfl, HB.out⟩

set_option maxHeartbeats 1000000 in
theorem first_walk (A : Option Addr) (n c : Nat) (xs : List Stop) (w : World) (hx : SAt stopC w A n xs) (hs : Sized xs) (hc : n ≤ c) :
    Calls Try.prog 8 #[.slice A n c] w fun e w' => e = .returned (.bool true) ∧ Below w.heap.size w w' := by
  have r := Nat.le_refl w.heap.size
  have R := Lib.hid hx
  have HN := Lib.hid hx.1
  have HS := Lib.hid (hs.at_ hx.1)
  have HB := Lib.hid (Below.refl w.heap.size w)
  clear hx hs
  cases hsm : smallB xs
  · go_enter Try.func8, Try.ntmps8
    go_wp2_with fail
    refine (small_any _ _ _ xs _ R.out HS.out).mono ?_
    rintro e w1 ⟨rfl, hb⟩
    have R := Lib.hid (R.out.stays hb)
    have HB := Lib.hid (bthen HB.out hb r)
    clear hb
    go_wp2_with fail
    refine (example_any _).mono ?_
    rintro e w2 ⟨rfl, hb⟩
    have R := Lib.hid (R.out.stays hb)
    have HB := Lib.hid (bthen HB.out hb r)
    clear hb
    go_wp2
    go_ret
    exact ⟨rfl, HB.out⟩
  by_cases h64 : (64 : Int) < (n : Int)
  · go_enter Try.func8, Try.ntmps8
    go_wp2_with fail
    refine (small_any _ _ _ xs _ R.out HS.out).mono ?_
    rintro e w1 ⟨rfl, hb⟩
    have R := Lib.hid (R.out.stays hb)
    have HB := Lib.hid (bthen HB.out hb r)
    clear hb
    go_wp2_with fail
    refine (example_any _).mono ?_
    rintro e w2 ⟨rfl, hb⟩
    have R := Lib.hid (R.out.stays hb)
    have HB := Lib.hid (bthen HB.out hb r)
    clear hb
    go_wp2
    go_ret
    exact ⟨rfl, HB.out⟩
  have h64' : n ≤ 64 := by omega
  have hn : n ≤ 1000 := by omega
  have hck := fun A n c w h h2 => check_any A n c xs w h h2
  by_cases he : chkE xs = 0
  · have HF := Lib.hid (chk_fine HN.out h64' he)
    rw [he, HF.out.2] at hck
    clear he
    go_enter Try.func8, Try.ntmps8
    go_wp2_with fail
    refine (small_any _ _ _ xs _ R.out HS.out).mono ?_
    rintro e w1 ⟨rfl, hb⟩
    have R := Lib.hid (R.out.stays hb)
    have HB := Lib.hid (bthen HB.out hb r)
    clear hb
    go_wp2_with fail
    refine (hck _ _ _ _ R.out HS.out).mono ?_
    rintro e w2 ⟨rfl, hb⟩
    have R := Lib.hid (R.out.stays hb)
    have HB := Lib.hid (bthen HB.out hb r)
    clear hb
    clear hck
    go_wp2_with fail
    refine (example_any _).mono ?_
    rintro e w3 ⟨rfl, hb⟩
    have R := Lib.hid (R.out.stays hb)
    have HB := Lib.hid (bthen HB.out hb r)
    clear hb
    go_wp2
    go_ret
    exact ⟨rfl, HB.out⟩
  · obtain ⟨f, e, hf, e0, a1, a2, a3, a4, a5, a6⟩ := first_facts HN.out h64' he
    rw [a1, a2] at hck
    have hc1 := fun A c w h h2 => check_any A f c (xs.take f) w h h2
    rw [a3, a4] at hc1
    have hc2 := fun A c w h h2 => check_any A (f + 1) c (xs.take (f + 1)) w h h2
    rw [a5, a6] at hc2
    have hs1 : ∀ k, k < f → (gs (xs.take f) k).id.size ≤ 9223372036854775807 := fun k hk => by rw [gs_take hk]; exact HS.out k (by omega)
    have hs2 : ∀ k, k < f + 1 → (gs (xs.take (f + 1)) k).id.size ≤ 9223372036854775807 := fun k hk => by rw [gs_take hk]; exact HS.out k (by omega)
    have HS1 := Lib.hid hs1
    have HS2 := Lib.hid hs2
    have e1 : (e == 0) = false := by simpa using e0
    have f0 : (0 : Int) ≤ (f : Int) := by omega
    have fn : (f : Int) < (n : Int) := by omega
    have fc : (f : Int) ≤ (c : Int) := by omega
    have fc1 : (f : Int) + 1 ≤ (c : Int) := by omega
    obtain ⟨b, o, hA, _⟩ := R.out.at_ hf
    subst hA
    clear he a1 a2 a3 a4 a5 a6 hs1 hs2 e0
    go_enter Try.func8, Try.ntmps8
    go_wp2_with fail
    refine (small_any _ _ _ xs _ R.out HS.out).mono ?_
    rintro e w1 ⟨rfl, hb⟩
    have R := Lib.hid (R.out.stays hb)
    have HB := Lib.hid (bthen HB.out hb r)
    clear hb
    go_wp2_with fail
    refine (hck _ _ _ _ R.out HS.out).mono ?_
    rintro e w2 ⟨rfl, hb⟩
    have R := Lib.hid (R.out.stays hb)
    have HB := Lib.hid (bthen HB.out hb r)
    clear hb
    clear hck
    go_wp2_with fail
    refine (hc1 _ _ _ (R.out.take (Nat.le_of_lt hf)) HS1.out).mono ?_
    rintro e w3 ⟨rfl, hb⟩
    have R := Lib.hid (R.out.stays hb)
    have HB := Lib.hid (bthen HB.out hb r)
    clear hb
    clear hc1
    go_wp2_with fail
    refine (hc2 _ _ _ (R.out.take hf) HS2.out).mono ?_
    rintro e w4 ⟨rfl, hb⟩
    have R := Lib.hid (R.out.stays hb)
    have HB := Lib.hid (bthen HB.out hb r)
    clear hb
    clear hc2
    go_wp2_with fail
    refine (example_any _).mono ?_
    rintro e w5 ⟨rfl, hb⟩
    have R := Lib.hid (R.out.stays hb)
    have HB := Lib.hid (bthen HB.out hb r)
    clear hb
    go_wp2
    go_ret
    exact ⟨rfl, HB.out⟩
end Go.Proofs.Yteifjnckceeldaa
