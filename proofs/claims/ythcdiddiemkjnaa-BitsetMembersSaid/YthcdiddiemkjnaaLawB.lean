/-
  The walk of BitsetMembers.
-/
import Derived.Test.YthcdiddiemkjnaaExam
namespace Go.Proofs.Ythcdiddiemkjnaa
open Go.RowKit Go.Shelf
open Bs (U64 ofN rangeTo listN withN withoutN minusN hasB oneN)

/-- the facts by which one walk goes its way -/
def Mem (s t : Nat) (i : Int) (a b d : Bool) : Prop :=
  hasB s i = a ∧ hasB t i = b ∧ hasB (s ||| t) i = (a || b) ∧ hasB (s &&& t) i = (a && b) ∧ hasB (minusN s t) i = (a && !b) ∧ hasB (withN s i) i = d ∧ hasB (withoutN s i) i = false ∧ hasB (ofN [i]) i = d
theorem Mem.mk' (s t : Nat) (i : Int) (ht : U64 t) : Mem s t i (hasB s i) (hasB t i) (decide (0 ≤ i ∧ i ≤ 63)) := by
  refine ⟨rfl, rfl, Bs.has_or s t i, Bs.has_and s t i, Bs.has_minus s t i ht, Bs.has_with s i, Bs.has_without s i, Bs.has_of1 i⟩

set_option maxHeartbeats 4000000 in
theorem members_low (s t : Nat) (i : Int) (w : World) (hs : U64 s) (ht : U64 t) (a b : Bool) (h : Mem s t i a b false) (hi : i < 0) :
    Calls Try.prog 8 #[.int .u64 s, .int .u64 t, .int .i64 i] w fun e w' => e = .returned (.bool true) ∧ Below w.heap.size w w' := by
  obtain ⟨ha, hb, h1, h2, h3, h4, h5, h6⟩ := h
  have u1 := Bs.uOr hs ht
  have u2 := Bs.uAnd t hs
  have u3 := Bs.uMinus t hs
  have u4 := Bs.uWith i hs
  have u5 := Bs.uWithout i hs
  have u6 := Bs.uOf [i]
  have r := Nat.le_refl w.heap.size
  cases a <;> cases b
  all_goals
    simp only [Bool.or_true, Bool.or_false, Bool.and_true, Bool.and_false, Bool.not_true, Bool.not_false] at h1 h2 h3
    go_enter Try.func8, Try.ntmps8
    go_wp2_with (first | (go_at_call 18; refine (has_any _ _ _ (by assumption)).mono ?_; rintro e w' ⟨rfl, rfl⟩) | (go_at_call 28; refine (union_any _ _ _ hs ht).mono ?_; rintro e w' ⟨rfl, rfl⟩) | (go_at_call 30; refine (inter_any _ _ _ hs ht).mono ?_; rintro e w' ⟨rfl, rfl⟩) | (go_at_call 32; refine (minus_any _ _ _ hs ht).mono ?_; rintro e w' ⟨rfl, rfl⟩) | (go_at_call 20; refine (with_any _ _ _ hs).mono ?_; rintro e w' ⟨rfl, rfl⟩) | (go_at_call 22; refine (without_any _ _ _ hs).mono ?_; rintro e w' ⟨rfl, rfl⟩) | (go_at_call 11; refine (of_any _ 1 1 [i] _ (IntsAt.lit _ _ [i]) (by omega)).mono ?_; rintro e w' ⟨rfl, rfl⟩) | (go_at_call 10; refine (ex_any _).mono ?_; rintro e w1 ⟨rfl, hbe⟩))
    go_ret
    exact ⟨rfl, bthen (balloc (Below.refl _ w) _ r) hbe r⟩

set_option maxHeartbeats 4000000 in
theorem members_mid (s t : Nat) (i : Int) (w : World) (hs : U64 s) (ht : U64 t) (a b : Bool) (h : Mem s t i a b true) (hi : 0 ≤ i) (hi2 : i ≤ 63) :
    Calls Try.prog 8 #[.int .u64 s, .int .u64 t, .int .i64 i] w fun e w' => e = .returned (.bool true) ∧ Below w.heap.size w w' := by
  obtain ⟨ha, hb, h1, h2, h3, h4, h5, h6⟩ := h
  have u1 := Bs.uOr hs ht
  have u2 := Bs.uAnd t hs
  have u3 := Bs.uMinus t hs
  have u4 := Bs.uWith i hs
  have u5 := Bs.uWithout i hs
  have u6 := Bs.uOf [i]
  have r := Nat.le_refl w.heap.size
  cases a <;> cases b
  all_goals
    simp only [Bool.or_true, Bool.or_false, Bool.and_true, Bool.and_false, Bool.not_true, Bool.not_false] at h1 h2 h3
    go_enter Try.func8, Try.ntmps8
    go_wp2_with (first | (go_at_call 18; refine (has_any _ _ _ (by assumption)).mono ?_; rintro e w' ⟨rfl, rfl⟩) | (go_at_call 28; refine (union_any _ _ _ hs ht).mono ?_; rintro e w' ⟨rfl, rfl⟩) | (go_at_call 30; refine (inter_any _ _ _ hs ht).mono ?_; rintro e w' ⟨rfl, rfl⟩) | (go_at_call 32; refine (minus_any _ _ _ hs ht).mono ?_; rintro e w' ⟨rfl, rfl⟩) | (go_at_call 20; refine (with_any _ _ _ hs).mono ?_; rintro e w' ⟨rfl, rfl⟩) | (go_at_call 22; refine (without_any _ _ _ hs).mono ?_; rintro e w' ⟨rfl, rfl⟩) | (go_at_call 11; refine (of_any _ 1 1 [i] _ (IntsAt.lit _ _ [i]) (by omega)).mono ?_; rintro e w' ⟨rfl, rfl⟩) | (go_at_call 10; refine (ex_any _).mono ?_; rintro e w1 ⟨rfl, hbe⟩))
    go_ret
    exact ⟨rfl, bthen (balloc (Below.refl _ w) _ r) hbe r⟩

set_option maxHeartbeats 4000000 in
theorem members_high (s t : Nat) (i : Int) (w : World) (hs : U64 s) (ht : U64 t) (a b : Bool) (h : Mem s t i a b false) (hi2 : 63 < i) :
    Calls Try.prog 8 #[.int .u64 s, .int .u64 t, .int .i64 i] w fun e w' => e = .returned (.bool true) ∧ Below w.heap.size w w' := by
  obtain ⟨ha, hb, h1, h2, h3, h4, h5, h6⟩ := h
  have u1 := Bs.uOr hs ht
  have u2 := Bs.uAnd t hs
  have u3 := Bs.uMinus t hs
  have u4 := Bs.uWith i hs
  have u5 := Bs.uWithout i hs
  have u6 := Bs.uOf [i]
  have r := Nat.le_refl w.heap.size
  have hi : 0 ≤ i := by omega
  have hd : decide (i < 64) = false := by simp; omega
  cases a <;> cases b
  all_goals
    simp only [Bool.or_true, Bool.or_false, Bool.and_true, Bool.and_false, Bool.not_true, Bool.not_false] at h1 h2 h3
    go_enter Try.func8, Try.ntmps8
    go_wp2_with (first | (go_at_call 18; refine (has_any _ _ _ (by assumption)).mono ?_; rintro e w' ⟨rfl, rfl⟩) | (go_at_call 28; refine (union_any _ _ _ hs ht).mono ?_; rintro e w' ⟨rfl, rfl⟩) | (go_at_call 30; refine (inter_any _ _ _ hs ht).mono ?_; rintro e w' ⟨rfl, rfl⟩) | (go_at_call 32; refine (minus_any _ _ _ hs ht).mono ?_; rintro e w' ⟨rfl, rfl⟩) | (go_at_call 20; refine (with_any _ _ _ hs).mono ?_; rintro e w' ⟨rfl, rfl⟩) | (go_at_call 22; refine (without_any _ _ _ hs).mono ?_; rintro e w' ⟨rfl, rfl⟩) | (go_at_call 11; refine (of_any _ 1 1 [i] _ (IntsAt.lit _ _ [i]) (by omega)).mono ?_; rintro e w' ⟨rfl, rfl⟩) | (go_at_call 10; refine (ex_any _).mono ?_; rintro e w1 ⟨rfl, hbe⟩))
    go_ret
    exact ⟨rfl, bthen (balloc (Below.refl _ w) _ r) hbe r⟩

theorem members_walk (s t : Nat) (i : Int) (w : World) (hs : U64 s) (ht : U64 t) (_ : I64 i) :
    Calls Try.prog 8 #[.int .u64 s, .int .u64 t, .int .i64 i] w fun e w' => e = .returned (.bool true) ∧ Below w.heap.size w w' := by
  have h := Mem.mk' s t i ht
  by_cases h1 : i < 0
  · rw [decide_eq_false (show ¬ (0 ≤ i ∧ i ≤ 63) by omega)] at h
    exact members_low s t i w hs ht _ _ h h1
  · by_cases h2 : i ≤ 63
    · rw [decide_eq_true (show 0 ≤ i ∧ i ≤ 63 by omega)] at h
      exact members_mid s t i w hs ht _ _ h (by omega) h2
    · rw [decide_eq_false (show ¬ (0 ≤ i ∧ i ≤ 63) by omega)] at h
      exact members_high s t i w hs ht _ _ h (by omega)
end Go.Proofs.Ythcdiddiemkjnaa
