/-
  The reference's functions on sets, Of, Range, Len: what each returns.
-/
import Derived.Test.YthcdiddiemkjnaaBit
import Derived.Deep.QuietTactic
import Derived.BigQuiet
import Derived.WalkMore
import Derived.ScopeJumps
namespace Go.Proofs.Ythcdiddiemkjnaa
open Go.RowKit
open Bs (U64 oneN hasB withN withoutN minusN pw ofN rangeTo unionTo minusTo)

set_option maxHeartbeats 400000 in
theorem rhas_any (s : Nat) (i : Int) (w : World) (hs : U64 s) :
    Calls Try.prog 19 #[.int .u64 s, .int .i64 i] w fun e w' => e = .returned (.bool (hasB s i)) ∧ w = w' := by
  by_cases h : 0 ≤ i ∧ i ≤ 63
  · obtain ⟨h0, h1⟩ := h
    obtain ⟨n, rfl⟩ := Int.eq_ofNat_of_zero_le h0
    have hn : n ≤ 63 := by omega
    have hp := Bs.pw_pos n
    go_enter Try.func19, Try.ntmps19
    go_wp2_with (go_at_call 38; refine (power_any _ _ (by omega)).mono ?_; rintro e w' ⟨rfl, rfl⟩)
    go_ret
    exact ⟨ret_bool (Bs.has_quo' hs hn), rfl⟩
  · have hx := Lib.hid (Bs.has_out (s := s) h)
    rcases (show i < 0 ∨ 63 < i from by omega) with h1 | h1
    · clear h
      go_enter Try.func19, Try.ntmps19
      go_wp2
      go_ret
      exact ⟨ret_bool (by rw [hx.out]), rfl⟩
    · have h2 : 0 ≤ i := by omega
      clear h
      go_enter Try.func19, Try.ntmps19
      go_wp2
      go_ret
      exact ⟨ret_bool (by rw [hx.out]), rfl⟩

set_option maxHeartbeats 400000 in
theorem rwith_any (s : Nat) (i : Int) (w : World) (hs : U64 s) :
    Calls Try.prog 21 #[.int .u64 s, .int .i64 i] w fun e w' => e = .returned (.int .u64 (withN s i : Nat)) ∧ w = w' := by
  by_cases h : 0 ≤ i ∧ i ≤ 63
  · obtain ⟨h0, h1⟩ := h
    obtain ⟨n, rfl⟩ := Int.eq_ofNat_of_zero_le h0
    have hn : n ≤ 63 := by omega
    cases hb : hasB s n
    · have hw := Bs.with_new hn hs hb
      go_enter Try.func21, Try.ntmps21
      go_wp2_with (first | (go_at_call 19; refine (rhas_any _ _ _ hs).mono ?_; rintro e w' ⟨rfl, rfl⟩) | (go_at_call 38; refine (power_any _ _ (by omega)).mono ?_; rintro e w' ⟨rfl, rfl⟩))
      go_ret
      exact ⟨rfl, rfl⟩
    · have hw := Lib.hid (Bs.with_has hb)
      go_enter Try.func21, Try.ntmps21
      go_wp2_with (first | (go_at_call 19; refine (rhas_any _ _ _ hs).mono ?_; rintro e w' ⟨rfl, rfl⟩))
      go_ret
      exact ⟨ret_int (by rw [hw.out]), rfl⟩
  · have hx := Lib.hid (Bs.with_out (s := s) h)
    rcases (show i < 0 ∨ 63 < i from by omega) with h1 | h1
    · clear h
      go_enter Try.func21, Try.ntmps21
      go_wp2
      go_ret
      exact ⟨ret_int (by rw [hx.out]), rfl⟩
    · have h2 : 0 ≤ i := by omega
      clear h
      go_enter Try.func21, Try.ntmps21
      go_wp2
      go_ret
      exact ⟨ret_int (by rw [hx.out]), rfl⟩

set_option maxHeartbeats 400000 in
theorem rwithout_any (s : Nat) (i : Int) (w : World) (hs : U64 s) :
    Calls Try.prog 23 #[.int .u64 s, .int .i64 i] w fun e w' => e = .returned (.int .u64 (withoutN s i : Nat)) ∧ w = w' := by
  cases hb : hasB s i
  · have hw := Lib.hid (Bs.without_not hs hb)
    go_enter Try.func23, Try.ntmps23
    go_wp2_with (first | (go_at_call 19; refine (rhas_any _ _ _ hs).mono ?_; rintro e w' ⟨rfl, rfl⟩))
    go_ret
    exact ⟨ret_int (by rw [hw.out]), rfl⟩
  · obtain ⟨h0, h1, _⟩ := (Bs.has_bool s i).1 hb
    obtain ⟨n, rfl⟩ := Int.eq_ofNat_of_zero_le h0
    have hn : n ≤ 63 := by omega
    have hw := Bs.without_had hs hb
    go_enter Try.func23, Try.ntmps23
    go_wp2_with (first | (go_at_call 19; refine (rhas_any _ _ _ hs).mono ?_; rintro e w' ⟨rfl, rfl⟩) | (go_at_call 38; refine (power_any _ _ (by omega)).mono ?_; rintro e w' ⟨rfl, rfl⟩))
    go_ret
    exact ⟨rfl, rfl⟩

set_option maxHeartbeats 400000 in
theorem of_any (A : Option Addr) (n c : Nat) (xs : List Int) (w : World) (hx : IntsAt w A n xs) (hn : n ≤ 1000000) :
    Calls Try.prog 11 #[.slice A n c] w fun e w' => e = .returned (.int .u64 (ofN xs : Nat)) ∧ w = w' := by
  have H := Lib.hid hx
  clear hx
  go_enter Try.func11, Try.ntmps11
  go_wp2
  go_loop [3, 8] (fun s k => ∃ m : Nat, m ≤ n ∧ k = .int .i64 m ∧ s = .int .u64 (ofN (xs.take m) : Nat)) (fun _ k => n - (intOf k).toNat)
  case atStart => exact ⟨0, by omega, rfl, rfl⟩
  case round =>
    obtain ⟨m, hm, rfl, rfl⟩ := hrel
    by_cases hlt : m < n
    · obtain ⟨ad, rfl, hc⟩ := H.out.2 m hlt
      have hb := Bs.bOr (Bs.uOf (xs.take m)) (Bs.uOne (gi xs m))
      go_wp2_with (go_at_call 35; refine (one_any _ _).mono ?_; rintro e w' ⟨rfl, rfl⟩)
      go_round
      case rel => exact ⟨m + 1, by omega, by go_num, by rw [take_gi (by rw [H.out.1]; exact hlt), Bs.ofN_snoc]; rfl⟩
      case measure => simp [intOf]; omega
    · go_wp2
      go_ret
      exact ⟨ret_int (by rw [List.take_of_length_le (by rw [H.out.1]; omega)]), rfl⟩

set_option maxHeartbeats 400000 in
theorem rof_any (A : Option Addr) (n c : Nat) (xs : List Int) (w : World) (hx : IntsAt w A n xs) (hn : n ≤ 1000000) :
    Calls Try.prog 12 #[.slice A n c] w fun e w' => e = .returned (.int .u64 (ofN xs : Nat)) ∧ w = w' := by
  have H := Lib.hid hx
  clear hx
  go_enter Try.func12, Try.ntmps12
  go_wp2
  go_loop [3, 4] (fun s k => ∃ m : Nat, m ≤ n ∧ k = .int .i64 m ∧ s = .int .u64 (ofN (xs.take m) : Nat)) (fun _ k => n - (intOf k).toNat)
  case atStart => exact ⟨0, by omega, rfl, rfl⟩
  case round =>
    obtain ⟨m, hm, rfl, rfl⟩ := hrel
    by_cases hlt : m < n
    · obtain ⟨ad, rfl, hc⟩ := H.out.2 m hlt
      have hb := Bs.uOf (xs.take m)
      go_wp2_with (go_at_call 21; refine (rwith_any _ _ _ hb).mono ?_; rintro e w' ⟨rfl, rfl⟩)
      go_round
      case rel => exact ⟨m + 1, by omega, by go_num, by rw [take_gi (by rw [H.out.1]; exact hlt), Bs.ofN_snoc]⟩
      case measure => simp [intOf]; omega
    · go_wp2
      go_ret
      exact ⟨ret_int (by rw [List.take_of_length_le (by rw [H.out.1]; omega)]), rfl⟩
set_option maxHeartbeats 400000 in
theorem range_any (f t : Int) (w : World) (hf : f ≤ 9223372036854775807) :
    Calls Try.prog 13 #[.int .i64 f, .int .i64 t] w fun e w' => e = .returned (.int .u64 (rangeTo f t 64 : Nat)) ∧ w = w' := by
  obtain ⟨n, hn, h0⟩ : ∃ n : Nat, (max f 0 = n ∧ ((n : Int) ≤ f ∨ n = 0)) ∧ Bs.rangeTo f t n = 0 := by
    refine ⟨(max f 0).toNat, by omega, ?_⟩
    rcases (show f < 0 ∨ 0 ≤ f from by omega) with h | h
    · rw [show (max f 0).toNat = 0 from by omega]; rfl
    · exact Bs.rangeTo_low f t _ (by omega)
  obtain ⟨hm, hnf⟩ := hn
  have H0 := Lib.hid h0
  clear h0
  rcases (show f < 0 ∨ 0 ≤ f from by omega) with h | h
  all_goals
    go_enter Try.func13, Try.ntmps13
    go_wp2
    go_loop [5, 6] (fun s k => ∃ m : Nat, n ≤ m ∧ (m ≤ 64 ∨ m = n) ∧ k = .int .i64 m ∧ s = .int .u64 (rangeTo f t m : Nat)) (fun _ k => 64 - (intOf k).toNat)
    case atStart =>
      refine ⟨n, by omega, by omega, ?_, by rw [H0.out]; rfl⟩
      first | rw [show n = 0 by omega]; rfl | rw [show (n : Int) = f by omega]
    case round =>
      obtain ⟨m, hnm, hm64, rfl, rfl⟩ := hrel
      have hb := Bs.bOr (Bs.uRange f t m) (Bs.uOne m)
      by_cases h64 : m < 64
      · by_cases h2 : (m : Int) < t
        · rcases (show t ≤ 64 ∨ 64 < t from by omega) with h3 | h3
          all_goals
            go_wp2_with (go_at_call 35; refine (one_any _ _).mono ?_; rintro e w' ⟨rfl, rfl⟩)
            go_round
            case rel => exact ⟨m + 1, by omega, by omega, by go_num, by rw [rangeTo, if_pos (by omega)]; rfl⟩
            case measure => simp [intOf]; omega
        · go_wp2
          go_ret
          exact ⟨ret_int (by rw [Bs.rangeTo_end f t m (by omega) (by omega)]), rfl⟩
      · rcases (show t ≤ 64 ∨ 64 < t from by omega) with h3 | h3
        all_goals
          go_wp2
          go_ret
          exact ⟨ret_int (by rw [Bs.rangeTo_end f t m (by omega) (by omega)]), rfl⟩

set_option maxHeartbeats 400000 in
theorem rrange_any (f t : Int) (w : World) :
    Calls Try.prog 14 #[.int .i64 f, .int .i64 t] w fun e w' => e = .returned (.int .u64 (rangeTo f t 64 : Nat)) ∧ w = w' := by
  go_enter Try.func14, Try.ntmps14
  go_wp2
  go_loop [5, 6] (fun s k => ∃ m : Nat, m ≤ 64 ∧ k = .int .i64 m ∧ s = .int .u64 (rangeTo f t m : Nat)) (fun _ k => 64 - (intOf k).toNat)
  case atStart => exact ⟨0, by omega, rfl, rfl⟩
  case round =>
    obtain ⟨m, hm, rfl, rfl⟩ := hrel
    by_cases hlt : m < 64
    · have hb := Bs.uRange f t m
      by_cases h1 : f ≤ m
      · by_cases h2 : (m : Int) < t
        · go_wp2_with (go_at_call 21; refine (rwith_any _ _ _ hb).mono ?_; rintro e w' ⟨rfl, rfl⟩)
          go_round
          case rel => exact ⟨m + 1, by omega, by go_num, by rw [rangeTo, if_pos ⟨h1, h2⟩]⟩
          case measure => simp [intOf]; omega
        · go_wp2
          go_round
          case rel => exact ⟨m + 1, by omega, by go_num, by rw [rangeTo, if_neg (by omega)]⟩
          case measure => simp [intOf]; omega
      · go_wp2
        go_round
        case rel => exact ⟨m + 1, by omega, by go_num, by rw [rangeTo, if_neg (by omega)]⟩
        case measure => simp [intOf]; omega
    · go_wp2
      go_ret
      obtain rfl : m = 64 := by omega
      exact ⟨rfl, rfl⟩

set_option maxHeartbeats 400000 in
theorem runion_any (s t : Nat) (w : World) (hs : U64 s) (ht : U64 t) :
    Calls Try.prog 29 #[.int .u64 s, .int .u64 t] w fun e w' => e = .returned (.int .u64 (s ||| t : Nat)) ∧ w = w' := by
  have hend := Lib.hid (Bs.unionTo_eq s t hs ht)
  go_enter Try.func29, Try.ntmps29
  go_wp2
  go_loop [0, 5] (fun x k => ∃ m : Nat, m ≤ 64 ∧ k = .int .i64 m ∧ x = .int .u64 (unionTo s t m : Nat)) (fun _ k => 64 - (intOf k).toNat)
  case atStart => exact ⟨0, by omega, rfl, rfl⟩
  case round =>
    obtain ⟨m, hm, rfl, rfl⟩ := hrel
    by_cases hlt : m < 64
    · have hu := Bs.uUnion t hs m
      cases hb : hasB t m
      · go_wp2_with (first | (go_at_call 19; refine (rhas_any _ _ _ ht).mono ?_; rintro e w' ⟨rfl, rfl⟩) | (go_at_call 21; refine (rwith_any _ _ _ hu).mono ?_; rintro e w' ⟨rfl, rfl⟩))
        go_round
        case rel => exact ⟨m + 1, by omega, by go_num, by rw [unionTo, if_neg (by simp [hb])]⟩
        case measure => simp [intOf]; omega
      · go_wp2_with (first | (go_at_call 19; refine (rhas_any _ _ _ ht).mono ?_; rintro e w' ⟨rfl, rfl⟩) | (go_at_call 21; refine (rwith_any _ _ _ hu).mono ?_; rintro e w' ⟨rfl, rfl⟩))
        go_round
        case rel => exact ⟨m + 1, by omega, by go_num, by rw [unionTo, if_pos hb]⟩
        case measure => simp [intOf]; omega
    · go_wp2
      go_ret
      obtain rfl : m = 64 := by omega
      exact ⟨ret_int (by rw [hend.out]), rfl⟩

set_option maxHeartbeats 400000 in
theorem rminus_any (s t : Nat) (w : World) (hs : U64 s) (ht : U64 t) :
    Calls Try.prog 33 #[.int .u64 s, .int .u64 t] w fun e w' => e = .returned (.int .u64 (minusN s t : Nat)) ∧ w = w' := by
  have hend := Lib.hid (Bs.minusTo_eq s t hs ht)
  go_enter Try.func33, Try.ntmps33
  go_wp2
  go_loop [0, 5] (fun x k => ∃ m : Nat, m ≤ 64 ∧ k = .int .i64 m ∧ x = .int .u64 (minusTo s t m : Nat)) (fun _ k => 64 - (intOf k).toNat)
  case atStart => exact ⟨0, by omega, rfl, rfl⟩
  case round =>
    obtain ⟨m, hm, rfl, rfl⟩ := hrel
    by_cases hlt : m < 64
    · have hu := Bs.uMinusTo t hs m
      cases hb : hasB t m
      · go_wp2_with (first | (go_at_call 19; refine (rhas_any _ _ _ ht).mono ?_; rintro e w' ⟨rfl, rfl⟩) | (go_at_call 23; refine (rwithout_any _ _ _ hu).mono ?_; rintro e w' ⟨rfl, rfl⟩))
        go_round
        case rel => exact ⟨m + 1, by omega, by go_num, by rw [minusTo, if_neg (by simp [hb])]⟩
        case measure => simp [intOf]; omega
      · go_wp2_with (first | (go_at_call 19; refine (rhas_any _ _ _ ht).mono ?_; rintro e w' ⟨rfl, rfl⟩) | (go_at_call 23; refine (rwithout_any _ _ _ hu).mono ?_; rintro e w' ⟨rfl, rfl⟩))
        go_round
        case rel => exact ⟨m + 1, by omega, by go_num, by rw [minusTo, if_pos hb]⟩
        case measure => simp [intOf]; omega
    · go_wp2
      go_ret
      obtain rfl : m = 64 := by omega
      exact ⟨ret_int (by rw [hend.out]), rfl⟩

set_option maxHeartbeats 400000 in
theorem rinter_any (s t : Nat) (w : World) (hs : U64 s) (ht : U64 t) :
    Calls Try.prog 31 #[.int .u64 s, .int .u64 t] w fun e w' => e = .returned (.int .u64 (s &&& t : Nat)) ∧ w = w' := by
  have hend := Lib.hid (Bs.inter_eq s t hs ht)
  have hu := Bs.uMinus t hs
  go_enter Try.func31, Try.ntmps31
  go_wp2_with fail
  refine (rminus_any _ _ _ hs ht).mono ?_
  rintro e w' ⟨rfl, rfl⟩
  go_wp2_with fail
  refine (rminus_any _ _ _ hs hu).mono ?_
  rintro e w' ⟨rfl, rfl⟩
  go_wp2_with fail
  go_ret
  exact ⟨ret_int (by rw [hend.out]), rfl⟩

set_option maxHeartbeats 400000 in
theorem len_any (s : Nat) (w : World) (hs : U64 s) :
    Calls Try.prog 26 #[.int .u64 s] w fun e w' => e = .returned (.int .i64 (Bs.cnt s : Nat)) ∧ w = w' := by
  have hle := Bs.cnt_le s
  go_enter Try.func26, Try.ntmps26
  go_wp2
  refine wp_scope_jumps 0 (fun a' w' => w = w' ∧ ∃ (m j : Nat) (u4 u5 u6 u7 u8 u9 u10 u11 u12 : Value), a' = { tmps := #[.int .u64 m, undef, .int .i64 0, .int .i64 j, u4, u5, u6, u7, u8, u9, u10, u11, u12], defers := [] } ∧ Hid (Bs.cnt m + j = Bs.cnt s) ∧ U64 m) (fun a' _ => (intOf (a'.tmps.getD 0 undef)).toNat) rfl ?_ ?_
  · by_cases h0 : s = 0
    · subst h0
      go_wp2
      go_step3
      go_wp2
      simp only [Exit.jump]
      go_ret
      exact ⟨rfl, rfl⟩
    · have h1 : ((s : Int) == 0) = false := by rw [beq_eq_false_iff_ne]; omega
      have hw := Bs.wrap_sub_one hs h0
      have hb := Bs.bAnd hs (Bs.u_sub_one hs)
      have hc := Lib.hid (Bs.cnt_strike s h0 hs)
      have hu := Bs.uAnd (s - 1) hs
      go_wp2
      go_step3
      go_wp2
      go_step3
      refine ⟨rfl, rfl, s &&& (s - 1), 1, _, _, _, _, _, _, _, _, _, rfl, Lib.hid (by have := hc.out; omega), hu⟩
  · rintro a' w' ⟨rfl, m, j, u4, u5, u6, u7, u8, u9, u10, u11, u12, rfl, hc0, hm⟩
    by_cases h0 : m = 0
    · subst h0
      go_wp2
      simp only [Exit.jump]
      go_ret
      exact ⟨ret_int (by have := hc0.out; rw [Bs.cnt_zero] at this; omega), rfl⟩
    · have h1 : ((m : Int) == 0) = false := by rw [beq_eq_false_iff_ne]; omega
      have hw := Bs.wrap_sub_one hm h0
      have hb := Bs.bAnd hm (Bs.u_sub_one hm)
      have hc := Lib.hid (Bs.cnt_strike m h0 hm)
      have hu := Bs.uAnd (m - 1) hm
      have hj : j ≤ 64 := by have := hc0.out; omega
      have hlt := Bs.strike_lt m h0
      go_wp2
      go_step3
      refine ⟨rfl, ⟨rfl, m &&& (m - 1), j + 1, _, _, _, _, _, _, _, _, _, rfl, Lib.hid (by have := hc.out; have := hc0.out; omega), hu⟩, ?_⟩
      simp [intOf]
      omega
end Go.Proofs.Ythcdiddiemkjnaa
