/-
  The small functions of the package bitset, and of its reference: what each returns, as a function on words (Bs); the world is as it was.
-/
import Derived.Test.YthcdiddiemkjnaaRows
import Derived.Test.YthcdiddiemkjnaaBs
import Derived.Test.YthcdiddiemkjnaaMem
import Derived.WalkKit
import Derived.WalkSpells
import Derived.WalkLawsBesides
import Derived.Lib.Hide
namespace Go.Proofs.Ythcdiddiemkjnaa
open Go.RowKit
open Bs (U64 oneN hasB withN withoutN minusN pw)


set_option maxHeartbeats 400000 in
theorem one_any (i : Int) (w : World) :
    Calls Try.prog 35 #[.int .i64 i] w fun e w' => e = .returned (.int .u64 (oneN i : Nat)) ∧ w = w' := by
  by_cases h : 0 ≤ i ∧ i ≤ 63
  · obtain ⟨h1, h2⟩ := h
    go_enter Try.func35, Try.ntmps35
    go_wp2
    go_ret
    exact ⟨ret_int (Bs.one_shl h1 h2), rfl⟩
  · have h0 := Lib.hid (Bs.one_out h)
    rcases (show i < 0 ∨ 63 < i from by omega) with h1 | h1
    · clear h
      go_enter Try.func35, Try.ntmps35
      go_wp2
      go_ret
      exact ⟨ret_int (by rw [h0.out]; rfl), rfl⟩
    · have h2 : ¬ i < 0 := by omega
      clear h
      go_enter Try.func35, Try.ntmps35
      go_wp2
      go_ret
      exact ⟨ret_int (by rw [h0.out]; rfl), rfl⟩

set_option maxHeartbeats 400000 in
theorem has_any (s : Nat) (i : Int) (w : World) (hs : U64 s) :
    Calls Try.prog 18 #[.int .u64 s, .int .i64 i] w fun e w' => e = .returned (.bool (hasB s i)) ∧ w = w' := by
  have hb := Bs.bAnd hs (Bs.uOne i)
  go_enter Try.func18, Try.ntmps18
  go_wp2_with (go_at_call 35; refine (one_any _ _).mono ?_; rintro e w' ⟨rfl, rfl⟩)
  go_ret
  exact ⟨ret_bool (Bs.has_int s i), rfl⟩

set_option maxHeartbeats 400000 in
theorem with_any (s : Nat) (i : Int) (w : World) (hs : U64 s) :
    Calls Try.prog 20 #[.int .u64 s, .int .i64 i] w fun e w' => e = .returned (.int .u64 (withN s i : Nat)) ∧ w = w' := by
  have hb := Bs.bOr hs (Bs.uOne i)
  go_enter Try.func20, Try.ntmps20
  go_wp2_with (go_at_call 35; refine (one_any _ _).mono ?_; rintro e w' ⟨rfl, rfl⟩)
  go_ret
  exact ⟨rfl, rfl⟩

set_option maxHeartbeats 400000 in
theorem without_any (s : Nat) (i : Int) (w : World) (hs : U64 s) :
    Calls Try.prog 22 #[.int .u64 s, .int .i64 i] w fun e w' => e = .returned (.int .u64 (withoutN s i : Nat)) ∧ w = w' := by
  have hb := Bs.bNot hs (Bs.uOne i)
  go_enter Try.func22, Try.ntmps22
  go_wp2_with (go_at_call 35; refine (one_any _ _).mono ?_; rintro e w' ⟨rfl, rfl⟩)
  go_ret
  exact ⟨rfl, rfl⟩

set_option maxHeartbeats 400000 in
theorem union_any (s t : Nat) (w : World) (hs : U64 s) (ht : U64 t) :
    Calls Try.prog 28 #[.int .u64 s, .int .u64 t] w fun e w' => e = .returned (.int .u64 (s ||| t : Nat)) ∧ w = w' := by
  have hb := Bs.bOr hs ht
  go_enter Try.func28, Try.ntmps28
  go_wp2
  go_ret
  exact ⟨rfl, rfl⟩

set_option maxHeartbeats 400000 in
theorem inter_any (s t : Nat) (w : World) (hs : U64 s) (ht : U64 t) :
    Calls Try.prog 30 #[.int .u64 s, .int .u64 t] w fun e w' => e = .returned (.int .u64 (s &&& t : Nat)) ∧ w = w' := by
  have hb := Bs.bAnd hs ht
  go_enter Try.func30, Try.ntmps30
  go_wp2
  go_ret
  exact ⟨rfl, rfl⟩

set_option maxHeartbeats 400000 in
theorem minus_any (s t : Nat) (w : World) (hs : U64 s) (ht : U64 t) :
    Calls Try.prog 32 #[.int .u64 s, .int .u64 t] w fun e w' => e = .returned (.int .u64 (minusN s t : Nat)) ∧ w = w' := by
  have hb := Bs.bNot hs ht
  go_enter Try.func32, Try.ntmps32
  go_wp2
  go_ret
  exact ⟨rfl, rfl⟩

set_option maxHeartbeats 400000 in
theorem within_any (s t : Nat) (w : World) (hs : U64 s) (ht : U64 t) :
    Calls Try.prog 34 #[.int .u64 s, .int .u64 t] w fun e w' => e = .returned (.bool (((minusN s t : Nat) : Int) == 0)) ∧ w = w' := by
  have hb := Bs.bNot hs ht
  go_enter Try.func34, Try.ntmps34
  go_wp2
  go_ret
  exact ⟨rfl, rfl⟩

set_option maxHeartbeats 400000 in
theorem power_any (i : Nat) (w : World) (hi : i ≤ 63) :
    Calls Try.prog 38 #[.int .i64 i] w fun e w' => e = .returned (.int .u64 (pw i : Nat)) ∧ w = w' := by
  go_enter Try.func38, Try.ntmps38
  go_wp2
  go_loop [3, 4] (fun p k => ∃ n : Nat, n ≤ i ∧ k = .int .i64 n ∧ p = .int .u64 (pw n : Nat)) (fun _ k => i - (intOf k).toNat)
  case atStart => exact ⟨0, by omega, rfl, rfl⟩
  case round =>
    obtain ⟨n, hn, rfl, rfl⟩ := hrel
    by_cases hlt : n < i
    · have hp := Bs.pw_succ (k := n) (by omega)
      go_wp2
      go_round
      case rel => exact ⟨n + 1, by omega, by go_num, rfl⟩
      case measure => simp [intOf]; omega
    · go_wp2
      go_ret
      obtain rfl : n = i := by omega
      exact ⟨rfl, rfl⟩
end Go.Proofs.Ythcdiddiemkjnaa
