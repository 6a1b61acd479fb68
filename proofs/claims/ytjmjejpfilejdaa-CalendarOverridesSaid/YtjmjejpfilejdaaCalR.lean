/-
  Days, Reason, Active: both.
-/
import Derived.Test.YtjmjejpfilejdaaCal
import Derived.Test.YtjmjejpfilejdaaBox
import Derived.WalkMore
import Derived.Deep.LoopGhost
namespace Go.Proofs.Ytjmjejpfilejdaa
open Go.RowKit

theorem ret_ib {i j : Int} {a b : Bool} (h : i = j) (h2 : a = b) : Ending.returned (.tuple #[.int .i64 i, .bool a]) = .returned (.tuple #[.int .i64 j, .bool b]) := by rw [h, h2]
theorem ret_ii {i j a b : Int} (h : i = j) (h2 : a = b) : Ending.returned (.tuple #[.int .i64 i, .int .i64 a]) = .returned (.tuple #[.int .i64 j, .int .i64 b]) := by rw [h, h2]

theorem day_any (d : Int) (w : World) : Calls Try.prog 31 #[.int .i64 d] w fun e w' => e = .returned (.bool (dayB d)) ∧ w = w' := by
  by_cases h0 : 0 ≤ d
  · by_cases h1 : d ≤ 36524
    · have H := Lib.hid (day_yes h0 h1)
      go_enter Try.func31, Try.ntmps31
      go_wp2
      go_ret
      exact ⟨ret_bool H.out.symm, rfl⟩
    · have H := Lib.hid (day_high (d := d) (by omega))
      go_enter Try.func31, Try.ntmps31
      go_wp2
      go_ret
      exact ⟨ret_bool H.out.symm, rfl⟩
  · have H := Lib.hid (day_low (d := d) (by omega))
    go_enter Try.func31, Try.ntmps31
    go_wp2
    go_ret
    exact ⟨ret_bool H.out.symm, rfl⟩
theorem rday_any (d : Int) (w : World) : Calls Try.prog 33 #[.int .i64 d] w fun e w' => e = .returned (.bool (dayB d)) ∧ w = w' := by
  by_cases h0 : 0 ≤ d
  · by_cases h1 : d ≤ 36524
    · have H := Lib.hid (day_yes h0 h1)
      go_enter Try.func33, Try.ntmps33
      go_wp2
      go_ret
      exact ⟨ret_bool H.out.symm, rfl⟩
    · have H := Lib.hid (day_high (d := d) (by omega))
      go_enter Try.func33, Try.ntmps33
      go_wp2
      go_ret
      exact ⟨ret_bool H.out.symm, rfl⟩
  · have H := Lib.hid (day_low (d := d) (by omega))
    go_enter Try.func33, Try.ntmps33
    go_wp2
    go_ret
    exact ⟨ret_bool H.out.symm, rfl⟩
theorem week_any (d : Int) (w : World) (h : dayB d = true) : Calls Try.prog 34 #[.int .i64 d] w fun e w' => e = .returned (.tuple #[.int .i64 (wdN d), .bool true]) ∧ w = w' := by
  obtain ⟨h0, h1⟩ := day_inv h
  have H := Lib.hid (wd_eq d)
  go_enter Try.func34, Try.ntmps34
  go_wp2_with (go_at_call 31; refine (day_any _ _).mono ?_; rintro e w' ⟨rfl, rfl⟩)
  go_ret2
  exact ⟨ret_ib H.out rfl, rfl⟩
theorem rweek_any (d : Int) (w : World) (h : dayB d = true) : Calls Try.prog 35 #[.int .i64 d] w fun e w' => e = .returned (.tuple #[.int .i64 (wdN d), .bool true]) ∧ w = w' := by
  obtain ⟨h0, h1⟩ := day_inv h
  have H := Lib.hid (wd_eq d)
  go_enter Try.func35, Try.ntmps35
  go_wp2_with (go_at_call 33; refine (rday_any _ _).mono ?_; rintro e w' ⟨rfl, rfl⟩)
  go_ret2
  exact ⟨ret_ib H.out rfl, rfl⟩

set_option maxHeartbeats 2000000 in
theorem reason_any (A B : Option Addr) (n c m g : Nat) (l : List Cal) (x : List Exc) (i d : Int) (w : World) (hl : SAt calC w A n l) (hx : SAt excC w B m x) (_hn : n ≤ 1000) (hm : m ≤ 1000) :
    Calls Try.prog 18 #[.slice A n c, .slice B m g, .int .i64 i, .int .i64 d] w fun e w' => e = .returned (.int .i64 (reasonI l x i d)) ∧ Below w.heap.size w w' := by
  have r := Nat.le_refl w.heap.size
  have L := Lib.hid hl
  have X := Lib.hid hx
  clear hl hx
  by_cases i0 : i < 0
  · have H := Lib.hid (reason_low (l := l) (x := x) (d := d) i0)
    go_enter Try.func18, Try.ntmps18
    go_wp2
    go_step3
    go_wp2
    try rw [Exit.noGoto_ret]
    go_ret
    exact ⟨ret_int H.out.symm, Below.refl _ _⟩
  by_cases i1 : (n : Int) ≤ i
  · have H := Lib.hid (reason_high (x := x) (d := d) L.out.1 i1)
    go_enter Try.func18, Try.ntmps18
    go_wp2
    go_step3
    go_wp2
    try rw [Exit.noGoto_ret]
    go_ret
    exact ⟨ret_int H.out.symm, Below.refl _ _⟩
  obtain ⟨a, rfl⟩ : ∃ a : Nat, i = (a : Int) := ⟨i.toNat, by omega⟩
  have ha : a < n := by omega
  cases hd : dayB d
  · have H := Lib.hid (reason_day (l := l) (x := x) (i := (a : Int)) hd)
    go_enter Try.func18, Try.ntmps18
    go_wp2
    go_step3
    go_wp2_with (go_at_call 31; refine (day_any _ _).mono ?_; rintro e w' ⟨rfl, rfl⟩)
    try rw [Exit.noGoto_ret]
    go_ret
    exact ⟨ret_int H.out.symm, Below.refl _ _⟩
  obtain ⟨d0, d1⟩ := day_inv hd
  have a0 : (0 : Int) ≤ (a : Int) := by omega
  have an : (a : Int) < (n : Int) := by omega
  have na : ¬ n ≤ a := by omega
  have na0 : ¬ (a : Int) < 0 := by omega
  clear i0 i1
  obtain ⟨b, o, hA, _⟩ := L.out.at_ ha
  subst hA
  obtain ⟨c0, c1, c2, c3, c4, c5, c6, c7, c8, c9⟩ := cal_cells L.out ha
  go_enter Try.func18, Try.ntmps18
  go_wp2
  go_step3
  go_wp2_with (go_at_call 31; refine (day_any _ _).mono ?_; rintro e w' ⟨rfl, rfl⟩)
  go_step3
  go_wp2
  obtain ⟨W, hW, hbox, hbw⟩ := box_new (C := calC) w (gcal l a) (calA (gcal l a)) 50 rfl
  rw [← hW]
  have BX := Lib.hid hbox
  have HB := Lib.hid hbw
  have X := Lib.hid (X.out.stays HB.out)
  clear hW hbox hbw c0 c1 c2 c3 c4 c5 c6 c7 c8 c9
  go_loopg [9, 34] m (fun g s9 s34 wx => ∃ k : Nat, k + g = m ∧ s34 = .int .i64 k ∧ s9 = .int .i64 5 ∧ Hid (NoHit x a d k) ∧ Hid (Below W.heap.size W wx))
  case atStart => exact ⟨0, by omega, rfl, rfl, Lib.hid (NoHit.zero _ _ _), Lib.hid (Below.refl _ _)⟩
  case round =>
    obtain ⟨k, hkg, rfl, rfl, HN, HW⟩ := hrel
    have BX := Lib.hid (BX.out.stays HW.out)
    have X := Lib.hid (X.out.stays HW.out)
    have HB := Lib.hid (bthen HB.out HW.out r)
    by_cases hlt : k < m
    · have k0 : (0 : Int) ≤ (k : Int) := by omega
      have kn : (k : Int) < (m : Int) := by omega
      obtain ⟨b', o', hA, _⟩ := X.out.at_ hlt
      subst hA
      obtain ⟨e0, e1, e2⟩ := exc_cells X.out hlt
      by_cases hc : (gx x k).cal = (a : Int)
      · by_cases hy : (gx x k).day = d
        · have HH := Lib.hid (hit_yes hc hy)
          cases had : (gx x k).add
          · have HR := Lib.hid (reason_hit L.out.1 ha hd X.out.1 hlt HN.out HH.out had)
            go_wp2
            try rw [Exit.noGoto_ret]
            go_ret
            exact ⟨ret_int HR.out.symm, balloc HB.out _ r⟩
          · have HR := Lib.hid (reason_hit L.out.1 ha hd X.out.1 hlt HN.out HH.out had)
            go_wp2
            try rw [Exit.noGoto_ret]
            go_ret
            exact ⟨ret_int HR.out.symm, balloc HB.out _ r⟩
        · have HS := Lib.hid (HN.out.step (hit_day hy))
          go_wp2
          go_roundg (m - (k + 1))
          case measure => omega
          case rel => exact ⟨k + 1, by omega, by go_num, rfl, HS, Lib.hid (balloc HW.out _ (Nat.le_refl _))⟩
      · have HS := Lib.hid (HN.out.step (hit_cal hc))
        go_wp2
        go_roundg (m - (k + 1))
        case measure => omega
        case rel => exact ⟨k + 1, by omega, by go_num, rfl, HS, Lib.hid (balloc HW.out _ (Nat.le_refl _))⟩
    · obtain rfl : k = m := by omega
      have hkk : ¬ ((k : Int) < (k : Int)) := by omega
      have f8 := BX.out 8 _ rfl
      have f9 := BX.out 9 _ rfl
      by_cases ho1 : d < (gcal l a).frm
      · have HR := Lib.hid (reason_out L.out.1 ha hd X.out.1 HN.out (Or.inl ho1))
        go_wp2
        try rw [Exit.noGoto_ret]
        go_ret
        exact ⟨ret_int HR.out.symm, HB.out⟩
      · by_cases ho2 : (gcal l a).til < d
        · have HR := Lib.hid (reason_out L.out.1 ha hd X.out.1 HN.out (Or.inr ho2))
          go_wp2
          try rw [Exit.noGoto_ret]
          go_ret
          exact ⟨ret_int HR.out.symm, HB.out⟩
        · obtain ⟨q, hq⟩ : ∃ q, q = wdN d := ⟨_, rfl⟩
          have hq7 := wd_lt d
          rw [← hq] at hq7
          have q0 : (0 : Int) ≤ (q : Int) := by omega
          have q7 : (q : Int) < 7 := by omega
          have hwk := fun w => week_any d w hd
          rw [← hq] at hwk
          have fq : wr.cell? ⟨w.heap.size, 1 + q, none⟩ = some (.bool ((gcal l a).wk q)) := BX.out (1 + q) _ (cal_wk _ hq7)
          cases hb : (gcal l a).wk q
          · have HR := Lib.hid (reason_week (b := false) L.out.1 ha hd X.out.1 HN.out ho1 ho2 (by rw [← hq]; exact hb))
            rw [hb] at fq
            clear hq
            go_wp2_with (go_at_call 34; refine (hwk _).mono ?_; rintro e w' ⟨rfl, rfl⟩)
            try rw [Exit.noGoto_ret]
            go_ret
            exact ⟨ret_int HR.out.symm, HB.out⟩
          · have HR := Lib.hid (reason_week (b := true) L.out.1 ha hd X.out.1 HN.out ho1 ho2 (by rw [← hq]; exact hb))
            rw [hb] at fq
            clear hq
            go_wp2_with (go_at_call 34; refine (hwk _).mono ?_; rintro e w' ⟨rfl, rfl⟩)
            try rw [Exit.noGoto_ret]
            go_ret
            exact ⟨ret_int HR.out.symm, HB.out⟩
end Go.Proofs.Ytjmjejpfilejdaa
