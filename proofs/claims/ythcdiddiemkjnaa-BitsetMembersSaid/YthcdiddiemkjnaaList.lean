/-
  The reference's list of a set, and its least element.
-/
import Derived.Test.YthcdiddiemkjnaaBit2
namespace Go.Proofs.Ythcdiddiemkjnaa
open Go.RowKit
open Bs (U64 oneN hasB listTo listN)

theorem infoInt : (Try.prog.info? 3).map (fun i => (i.zero, i.size, i.bytes)) = some (some (.int .i64 0), 1, 8) := by kernel_rfl

set_option maxHeartbeats 400000 in
theorem rlist_any (s : Nat) (w : World) (hs : U64 s) :
    Calls Try.prog 15 #[.int .u64 s] w fun e w' => MadeInts w (listN s) e w' := by
  obtain ⟨i0, hi, hz0, hz1, hz2⟩ := info_parts infoInt
  go_enter Try.func15, Try.ntmps15
  go_wp2
  go_loopw [3, 4] (fun v k wr => ∃ m : Nat, m ≤ 64 ∧ k = .int .i64 m ∧ wr.ownsRow w.heap.size 3 1 v (listTo s m).length ((listTo s m).map (Value.int .i64)) ∧ Below w.heap.size w wr) (fun _ k _ => 64 - (intOf k).toNat)
  case atStart => exact ⟨0, by omega, rfl, World.ownsRow_nil _ _ _ _, Below.refl _ _⟩
  case round =>
    obtain ⟨m, hm, rfl, hown, hbel⟩ := hrel
    have hll := Bs.listTo_len s m
    by_cases hlt : m < 64
    · cases hb : hasB s m
      · go_wp2_with (go_at_call 19; refine (rhas_any _ _ _ hs).mono ?_; rintro e w' ⟨rfl, rfl⟩)
        go_roundw
        case rel => exact ⟨m + 1, by omega, by go_num, by rw [listTo, if_neg (by simp [hb])]; exact hown, hbel⟩
        case measure => simp [intOf]; omega
      · go_wp2_with (first | (go_at_call 19; refine (rhas_any _ _ _ hs).mono ?_; rintro e w' ⟨rfl, rfl⟩) | (at_builtin; refine wpList_append_own _ rfl _ _ 22 rfl w.heap.size 3 i0 (.int .i64 0) 1 8 Try.underlying22 hi hz0 hz1 hz2 rfl (by decide) _ _ _ rfl (hown.alloc _) ⟨wr.heap.size, 0, none⟩ 1 1 [.int .i64 m] rfl rfl ?c1 ?c2 ?c3 ?c4 ?c5 ?_))
        case c1 => exact cell_one_new _ _ _
        case c2 => intro u hu; simp at hu; subst hu; rfl
        case c3 => unfold maxLen; omega
        case c4 => omega
        case c5 => have := hbel.size; simp; omega
        intro v' w1 hown' hgrow _
        have R : Below w.heap.size w w1 := below_app hbel hbel.size (Nat.le_refl _) hown hgrow
        clear hown hgrow
        go_wp2
        go_roundw
        case rel => exact ⟨m + 1, by omega, by go_num, by rw [listTo, if_pos hb]; simpa using hown', R⟩
        case measure => simp [intOf]; omega
    · go_wp2
      go_ret
      obtain rfl : m = 64 := by omega
      exact MadeInts.mk hown hbel
/-- the least element of a list, or 0 -/
def headOr (xs : List Int) : Int := gi xs 0
def some1 (xs : List Int) : Bool := decide (0 < xs.length)

set_option maxHeartbeats 400000 in
theorem rmin_any (s : Nat) (w : World) (hs : U64 s) :
    Calls Try.prog 25 #[.int .u64 s] w fun e w' => e = .returned (.tuple #[.int .i64 (headOr (listN s)), .bool (some1 (listN s))]) ∧ Below w.heap.size w w' := by
  by_cases h : (listN s).length = 0
  · have h0 : listN s = [] := List.length_eq_zero_iff.1 h
    have hz : ((listN s).length : Int) == 0 := by simp [h]
    have hz' : (((listN s).length : Int) == 0) = true := hz
    have H1 : Hid (headOr (listN s) = 0) := Lib.hid (by rw [h0]; rfl)
    have H2 : Hid (some1 (listN s) = false) := Lib.hid (by rw [h0]; rfl)
    clear h h0 hz
    go_enter Try.func25, Try.ntmps25
    go_wp2_with fail
    refine (rlist_any s _ hs).mono ?_
    rintro e w1 ⟨A, c, rfl, _, _, _, hb, _⟩
    go_wp2_with fail
    go_ret2
    exact ⟨by rw [H1.out, H2.out]; rfl, hb⟩
  · have hz : (((listN s).length : Int) == 0) = false := by rw [beq_eq_false_iff_ne]; omega
    have hlt : 0 < (listN s).length := by omega
    have H2 : Hid (some1 (listN s) = true) := Lib.hid (by simp [some1]; omega)
    clear h
    go_enter Try.func25, Try.ntmps25
    go_wp2_with fail
    refine (rlist_any s _ hs).mono ?_
    rintro e w1 ⟨A, c, rfl, hx, _, _, hb, _⟩
    obtain ⟨ad, rfl, hc⟩ := hx.2 0 hlt
    rw [Addr.add_zero'] at hc
    clear hx
    go_wp2_with fail
    go_ret2
    exact ⟨by rw [H2.out]; rfl, hb⟩
end Go.Proofs.Ythcdiddiemkjnaa
