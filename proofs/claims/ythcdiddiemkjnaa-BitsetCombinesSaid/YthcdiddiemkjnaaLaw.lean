/-
  The walks of the seven statements about package bitset: each returns true.
-/
import Derived.Test.YthcdiddiemkjnaaExam
namespace Go.Proofs.Ythcdiddiemkjnaa
open Go.RowKit Go.Shelf
open Bs (U64 ofN rangeTo listN withN withoutN minusN hasB oneN)

set_option maxHeartbeats 1000000 in
theorem elements_walk (s : Nat) (i : Int) (w : World) (hs : U64 s) (_ : I64 i) :
    Calls Try.prog 5 #[.int .u64 s, .int .i64 i] w fun e w' => e = .returned (.bool true) ∧ Below w.heap.size w w' := by
  go_enter Try.func5, Try.ntmps5
  go_wp2_with (first | (go_at_call 18; refine (has_any _ _ _ hs).mono ?_; rintro e w' ⟨rfl, rfl⟩) | (go_at_call 19; refine (rhas_any _ _ _ hs).mono ?_; rintro e w' ⟨rfl, rfl⟩) | (go_at_call 20; refine (with_any _ _ _ hs).mono ?_; rintro e w' ⟨rfl, rfl⟩) | (go_at_call 21; refine (rwith_any _ _ _ hs).mono ?_; rintro e w' ⟨rfl, rfl⟩) | (go_at_call 22; refine (without_any _ _ _ hs).mono ?_; rintro e w' ⟨rfl, rfl⟩) | (go_at_call 23; refine (rwithout_any _ _ _ hs).mono ?_; rintro e w' ⟨rfl, rfl⟩) | (go_at_call 10; refine (ex_any _).mono ?_; rintro e w1 ⟨rfl, hb⟩))
  go_ret
  exact ⟨rfl, hb⟩

set_option maxHeartbeats 1000000 in
theorem combines_walk (s t : Nat) (w : World) (hs : U64 s) (ht : U64 t) :
    Calls Try.prog 7 #[.int .u64 s, .int .u64 t] w fun e w' => e = .returned (.bool true) ∧ Below w.heap.size w w' := by
  go_enter Try.func7, Try.ntmps7
  go_wp2_with (first | (go_at_call 28; refine (union_any _ _ _ hs ht).mono ?_; rintro e w' ⟨rfl, rfl⟩) | (go_at_call 29; refine (runion_any _ _ _ hs ht).mono ?_; rintro e w' ⟨rfl, rfl⟩) | (go_at_call 30; refine (inter_any _ _ _ hs ht).mono ?_; rintro e w' ⟨rfl, rfl⟩) | (go_at_call 31; refine (rinter_any _ _ _ hs ht).mono ?_; rintro e w' ⟨rfl, rfl⟩) | (go_at_call 32; refine (minus_any _ _ _ hs ht).mono ?_; rintro e w' ⟨rfl, rfl⟩) | (go_at_call 33; refine (rminus_any _ _ _ hs ht).mono ?_; rintro e w' ⟨rfl, rfl⟩) | (go_at_call 34; refine (within_any _ _ _ hs ht).mono ?_; rintro e w' ⟨rfl, rfl⟩) | (go_at_call 10; refine (ex_any _).mono ?_; rintro e w1 ⟨rfl, hb⟩))
  go_ret
  exact ⟨rfl, hb⟩

set_option maxHeartbeats 1000000 in
theorem makes_walk (A : Option Addr) (n c : Nat) (xs : List Int) (f t : Int) (w : World) (hx : IntsAt w A n xs) (hf0 : I64 f) (_ : I64 t) :
    Calls Try.prog 3 #[.slice A n c, .int .i64 f, .int .i64 t] w fun e w' => e = .returned (.bool true) ∧ Below w.heap.size w w' := by
  have hf := hf0.2
  have H := Lib.hid hx
  clear hx
  by_cases hn : n ≤ 200
  · go_enter Try.func3, Try.ntmps3
    go_wp2_with (first | (go_at_call 11; refine (of_any _ _ _ xs _ H.out (by omega)).mono ?_; rintro e w' ⟨rfl, rfl⟩) | (go_at_call 12; refine (rof_any _ _ _ xs _ H.out (by omega)).mono ?_; rintro e w' ⟨rfl, rfl⟩) | (go_at_call 13; refine (range_any _ _ _ hf).mono ?_; rintro e w' ⟨rfl, rfl⟩) | (go_at_call 14; refine (rrange_any _ _ _).mono ?_; rintro e w' ⟨rfl, rfl⟩) | (go_at_call 10; refine (ex_any _).mono ?_; rintro e w1 ⟨rfl, hb⟩))
    go_ret
    exact ⟨rfl, hb⟩
  · go_enter Try.func3, Try.ntmps3
    go_wp2_with (first | (go_at_call 10; refine (ex_any _).mono ?_; rintro e w1 ⟨rfl, hb⟩))
    go_ret
    exact ⟨rfl, hb⟩
set_option maxHeartbeats 1000000 in
theorem lists_walk (s : Nat) (w : World) (hs : U64 s) :
    Calls Try.prog 6 #[.int .u64 s] w fun e w' => e = .returned (.bool true) ∧ Below w.heap.size w w' := by
  have hl64 : (listN s).length ≤ 1000000 := Nat.le_trans (Bs.listTo_len s 64) (by omega)
  have hcnt : (Bs.cnt s : Int) = ((listN s).length : Int) := rfl
  have hse := sameB_self (listN s)
  go_enter Try.func6, Try.ntmps6
  go_wp2_with fail
  refine (rlist_any s _ hs).mono ?_
  rintro e w1 ⟨A, c, rfl, hx, _, _, hb1, _⟩
  have HX := Lib.hid hx
  clear hx
  go_wp2_with fail
  refine (min_any s _ hs).mono ?_
  rintro e w2 ⟨rfl, hb2⟩
  go_wp2_with fail
  refine (rmin_any s _ hs).mono ?_
  rintro e w3 ⟨rfl, hb3⟩
  go_wp2_with fail
  refine (len_any s _ hs).mono ?_
  rintro e w' ⟨rfl, rfl⟩
  go_wp2_with fail
  refine (list_any s _ hs).mono ?_
  rintro e w4 ⟨A4, c4, rfl, hx4, _, _, hb4, _⟩
  go_wp2_with fail
  refine (same_any _ _ _ _ _ _ (listN s) (listN s) _ hx4 (((HX.out.stays hb2).stays hb3).stays hb4) hl64 hl64).mono ?_
  rintro e w5 ⟨rfl, q, rfl⟩
  clear hx4
  go_wp2_with fail
  refine (ex_any _).mono ?_
  rintro e w6 ⟨rfl, hb6⟩
  go_wp2_with fail
  go_ret
  have r := Nat.le_refl w.heap.size
  exact ⟨rfl, bthen (bdrewN (bthen (bthen (bthen hb1 hb2 r) hb3 r) hb4 r) q) hb6 r⟩

set_option maxHeartbeats 1000000 in
theorem iterates_at (s : Nat) (n : Int) (n0 : Int) (hn0 : (n0 < 1 ∧ n = 1) ∨ (1 ≤ n0 ∧ n = n0)) (w : World) (hs : U64 s) :
    Calls Try.prog 4 #[.int .u64 s, .int .i64 n0] w fun e w' => e = .returned (.bool true) ∧ Below w.heap.size w w' := by
  have hl64 : (listN s).length ≤ 64 := Bs.listTo_len s 64
  have r := Nat.le_refl w.heap.size
  obtain ⟨k, hk, hk1⟩ : ∃ k : Nat, n = k ∧ 1 ≤ k := ⟨n.toNat, by omega, by omega⟩
  subst hk
  obtain ⟨ys, hys⟩ : ∃ ys, ys = (listN s).take k := ⟨_, rfl⟩
  have hyl : ys.length ≤ 64 := by rw [hys, List.length_take]; omega
  have hse := Lib.hid (sameB_self ys)
  have hfin : ∀ (A4 A : Option Addr) (c4 c m : Nat) (wx : World) (_ : IntsAt wx A4 ys.length ys) (_ : IntsAt wx A m ys) (_ : Below w.heap.size w wx),
      Calls Try.prog 16 #[.slice A4 ys.length c4, .slice A m c] wx fun e w' => e = .returned (.bool true) ∧ Below w.heap.size w w' := by
    intro A4 A c4 c m wx h1 h2 hb
    refine (same_any _ _ _ _ _ _ _ _ _ h1 h2 (by omega) (by have := h2.1; omega)).mono ?_
    rintro e w5 ⟨rfl, q, rfl⟩
    exact ⟨by rw [hse.out], bdrewN hb q⟩
  have HF := Lib.hid hfin
  clear hfin
  have hfirst : ∀ w, Calls Try.prog 17 #[.int .u64 s, .int .i64 (k : Int)] w fun e w' => MadeInts w ys e w' := fun w => by
    have := first_any s (k : Int) w hs (by omega)
    rw [Int.toNat_natCast, ← hys] at this
    exact this
  have hfirst := Lib.hid hfirst
  have HY := Lib.hid hys
  clear hys
  rcases hn0 with ⟨h1, h2⟩ | ⟨h1, h2⟩
  · obtain rfl : k = 1 := by omega
    clear h2
    rcases (show 1 < (listN s).length ∨ (listN s).length ≤ 1 from by omega) with h3 | h3
    · go_enter Try.func4, Try.ntmps4
      go_wp2_with fail
      refine (rlist_any s _ hs).mono ?_
      rintro e w1 ⟨A, c, rfl, hx, _, hc, hb1, _⟩
      have HX := Lib.hid hx
      clear hx
      go_wp2_with fail
      refine (hfirst.out _).mono ?_
      rintro e w2 ⟨A2, c2, rfl, hx2, _, hc2, hb2, _⟩
      have H2 := Lib.hid hx2
      clear hx2
      go_wp2_with fail
      have hx2 := H2.out
      have hx3 : IntsAt w2 A 1 ys := by rw [HY.out]; exact (HX.out.stays hb2).take 1 (by omega)
      refine (HF.out _ _ _ _ _ _ hx2 hx3 (bthen hb1 hb2 r)).mono ?_
      rintro e w3 ⟨rfl, hb3⟩
      clear hx2
      go_wp2_with fail
      refine (ex_any _).mono ?_
      rintro e w6 ⟨rfl, hb6⟩
      go_wp2_with fail
      go_ret
      exact ⟨rfl, bthen hb3 hb6 r⟩
    · go_enter Try.func4, Try.ntmps4
      go_wp2_with fail
      refine (rlist_any s _ hs).mono ?_
      rintro e w1 ⟨A, c, rfl, hx, _, hc, hb1, _⟩
      have HX := Lib.hid hx
      clear hx
      go_wp2_with fail
      refine (hfirst.out _).mono ?_
      rintro e w2 ⟨A2, c2, rfl, hx2, _, hc2, hb2, _⟩
      have H2 := Lib.hid hx2
      clear hx2
      go_wp2_with fail
      have hx2 := H2.out
      have hx3 : IntsAt w2 A (listN s).length ys := by rw [HY.out, List.take_of_length_le h3]; exact HX.out.stays hb2
      refine (HF.out _ _ _ _ _ _ hx2 hx3 (bthen hb1 hb2 r)).mono ?_
      rintro e w3 ⟨rfl, hb3⟩
      clear hx2
      go_wp2_with fail
      refine (ex_any _).mono ?_
      rintro e w6 ⟨rfl, hb6⟩
      go_wp2_with fail
      go_ret
      exact ⟨rfl, bthen hb3 hb6 r⟩
  · subst h2
    rcases (show k < (listN s).length ∨ (listN s).length ≤ k from by omega) with h3 | h3
    · go_enter Try.func4, Try.ntmps4
      go_wp2_with fail
      refine (rlist_any s _ hs).mono ?_
      rintro e w1 ⟨A, c, rfl, hx, _, hc, hb1, _⟩
      have HX := Lib.hid hx
      clear hx
      go_wp2_with fail
      refine (hfirst.out _).mono ?_
      rintro e w2 ⟨A2, c2, rfl, hx2, _, hc2, hb2, _⟩
      have H2 := Lib.hid hx2
      clear hx2
      go_wp2_with fail
      have hx2 := H2.out
      have hx3 : IntsAt w2 A k ys := by rw [HY.out]; exact (HX.out.stays hb2).take k (by omega)
      refine (HF.out _ _ _ _ _ _ hx2 hx3 (bthen hb1 hb2 r)).mono ?_
      rintro e w3 ⟨rfl, hb3⟩
      clear hx2
      go_wp2_with fail
      refine (ex_any _).mono ?_
      rintro e w6 ⟨rfl, hb6⟩
      go_wp2_with fail
      go_ret
      exact ⟨rfl, bthen hb3 hb6 r⟩
    · go_enter Try.func4, Try.ntmps4
      go_wp2_with fail
      refine (rlist_any s _ hs).mono ?_
      rintro e w1 ⟨A, c, rfl, hx, _, hc, hb1, _⟩
      have HX := Lib.hid hx
      clear hx
      go_wp2_with fail
      refine (hfirst.out _).mono ?_
      rintro e w2 ⟨A2, c2, rfl, hx2, _, hc2, hb2, _⟩
      have H2 := Lib.hid hx2
      clear hx2
      go_wp2_with fail
      have hx2 := H2.out
      have hx3 : IntsAt w2 A (listN s).length ys := by rw [HY.out, List.take_of_length_le h3]; exact HX.out.stays hb2
      refine (HF.out _ _ _ _ _ _ hx2 hx3 (bthen hb1 hb2 r)).mono ?_
      rintro e w3 ⟨rfl, hb3⟩
      clear hx2
      go_wp2_with fail
      refine (ex_any _).mono ?_
      rintro e w6 ⟨rfl, hb6⟩
      go_wp2_with fail
      go_ret
      exact ⟨rfl, bthen hb3 hb6 r⟩

theorem iterates_walk (s : Nat) (n : Int) (w : World) (hs : U64 s) (_ : I64 n) :
    Calls Try.prog 4 #[.int .u64 s, .int .i64 n] w fun e w' => e = .returned (.bool true) ∧ Below w.heap.size w w' := by
  by_cases h : n < 1
  · exact iterates_at s 1 n (.inl ⟨h, rfl⟩) w hs
  · exact iterates_at s n n (.inr ⟨by omega, rfl⟩) w hs

set_option maxHeartbeats 1000000 in
theorem algebra_walk (s t : Nat) (w : World) (hs : U64 s) (ht : U64 t) :
    Calls Try.prog 9 #[.int .u64 s, .int .u64 t] w fun e w' => e = .returned (.bool true) ∧ Below w.heap.size w w' := by
  have hl64 : (listN s).length ≤ 1000000 := Nat.le_trans (Bs.listTo_len s 64) (by omega)
  have e1 := Bs.ofN_list s hs
  have e2 := Bs.parts_eq s t hs ht
  have e3 := Bs.cnt_int s t
  have b1 := Bs.cnt_le s
  have b2 := Bs.cnt_le t
  have b3 := Bs.cnt_le (s ||| t)
  have b4 := Bs.cnt_le (s &&& t)
  have u1 := Bs.uOr hs ht
  have u2 := Bs.uAnd t hs
  have u3 := Bs.uMinus t hs
  have r := Nat.le_refl w.heap.size
  go_enter Try.func9, Try.ntmps9
  go_wp2_with fail
  refine (list_any s _ hs).mono ?_
  rintro e w1 ⟨A, c, rfl, hx, _, hc, hb1, _⟩
  have HX := Lib.hid hx
  clear hx
  go_wp2_with fail
  refine (of_any _ _ _ _ _ HX.out hl64).mono ?_
  rintro e w' ⟨rfl, rfl⟩
  go_wp2_with (first | (go_at_call 28; refine (union_any _ _ _ (by assumption) (by assumption)).mono ?_; rintro e w' ⟨rfl, rfl⟩) | (go_at_call 30; refine (inter_any _ _ _ hs ht).mono ?_; rintro e w' ⟨rfl, rfl⟩) | (go_at_call 32; refine (minus_any _ _ _ hs ht).mono ?_; rintro e w' ⟨rfl, rfl⟩) | (go_at_call 34; refine (within_any _ _ _ hs ht).mono ?_; rintro e w' ⟨rfl, rfl⟩) | (go_at_call 26; refine (len_any _ _ (by assumption)).mono ?_; rintro e w' ⟨rfl, rfl⟩) | (go_at_call 10; refine (ex_any _).mono ?_; rintro e w1 ⟨rfl, hb⟩))
  go_ret
  exact ⟨rfl, bthen hb1 hb r⟩
end Go.Proofs.Ythcdiddiemkjnaa
