/-
  The walks of the statements on fronts, inserts, merges.
-/
import Derived.Test.YtgcngipbjkmdoaaExp
namespace Go.Proofs.Ytgcngipbjkmdoaa
open Go.RowKit
open Vec (V vi leV eqV domV ltV cmpV covV putV frontV mergeV withinV)

theorem drewN_own {w : World} {b e size n : Nat} {v : Value} {xs : List Value} (h : w.ownsRow b e size v n xs) (q : Nat) : (w.drewN q).ownsRow b e size v n xs :=
  ownsRow_stays h (bdrewN (Below.refl _ w) q)
theorem same_comm (xs ys : List V) : Vec.sameV xs ys = Vec.sameV ys xs := by
  simp only [Vec.sameV]
  exact decide_eq_decide.2 eq_comm

set_option maxHeartbeats 2000000 in
theorem fronts_walk (A : Option Addr) (n c : Nat) (xs : List V) (w : World) (hx : VecsAt w A n xs) :
    Calls Try.prog 6 #[.slice A n c] w fun e w' => e = .returned (.bool true) ∧ Below w.heap.size w w' := by
  have Rl := Lib.hid hx
  have HN := Lib.hid hx.1
  have HB := Lib.hid (Below.refl w.heap.size w)
  clear hx
  by_cases hn : n ≤ 60
  · have hcond : ¬ ((60 : Int) < (n : Int)) := by omega
    have hfl : (frontV xs).length ≤ 1000 := by have := frontV_len xs; have := HN.out; omega
    have hxl : xs.length ≤ 1000 := by have := HN.out; omega
    go_enter Try.func6, Try.ntmps6
    go_wp2_with fail
    refine (from_any _ _ _ xs _ Rl.out (by omega)).mono ?_
    rintro e w1 ⟨v1, rfl, hr1, hb1⟩
    obtain ⟨Ax, cx, rfl, hcx⟩ := ownsRow_slice hr1
    have Rl := Lib.hid (Rl.out.stays hb1)
    have HB := Lib.hid (bthen HB.out hb1 (Nat.le_refl _))
    have Rx := Lib.hid (VecsAt.own hr1)
    clear hr1 hb1
    clear Rl
    go_wp2_with fail
    refine (front_any _ _ _ xs _ Rx.out hxl).mono ?_
    rintro e w2 ⟨v2, rfl, hr2, hb2⟩
    obtain ⟨Af, cf, rfl, hcf⟩ := ownsRow_slice hr2
    have Rx := Lib.hid (Rx.out.stays hb2)
    have HB := Lib.hid (bthen HB.out hb2 (Nat.le_refl _))
    have Rf := Lib.hid (VecsAt.own hr2)
    clear hr2 hb2
    go_wp2_with fail
    refine (to_any _ _ _ (frontV xs) _ Rf.out hfl).mono ?_
    rintro e w3 ⟨v3, rfl, hr3, hb3⟩
    obtain ⟨Atf, ctf, rfl, hctf⟩ := ownsRow_slice hr3
    have Rx := Lib.hid (Rx.out.stays hb3)
    have Rf := Lib.hid (Rf.out.stays hb3)
    have HB := Lib.hid (bthen HB.out hb3 (Nat.le_refl _))
    have Rtf := Lib.hid (VecsAt.own hr3)
    clear hr3 hb3
    clear Rf
    go_wp2_with fail
    refine (to_any _ _ _ xs _ Rx.out hxl).mono ?_
    rintro e w4 ⟨v4, rfl, hr4, hb4⟩
    obtain ⟨Atx, ctx, rfl, hctx⟩ := ownsRow_slice hr4
    have Rx := Lib.hid (Rx.out.stays hb4)
    have Rtf := Lib.hid (Rtf.out.stays hb4)
    have HB := Lib.hid (bthen HB.out hb4 (Nat.le_refl _))
    have Rtx := Lib.hid (VecsAt.own hr4)
    clear hr4 hb4
    go_wp2_with fail
    refine (rfront_any _ _ _ xs _ Rtx.out hxl).mono ?_
    rintro e w5 ⟨v5, rfl, hr5, hb5⟩
    obtain ⟨Arf, crf, rfl, hcrf⟩ := ownsRow_slice hr5
    have Rx := Lib.hid (Rx.out.stays hb5)
    have Rtf := Lib.hid (Rtf.out.stays hb5)
    have Rtx := Lib.hid (Rtx.out.stays hb5)
    have HB := Lib.hid (bthen HB.out hb5 (Nat.le_refl _))
    have Rrf := Lib.hid (VecsAt.own hr5)
    clear hr5 hb5
    go_wp2_with fail
    refine (same_self _ _ _ _ _ (frontV xs) _ Rtf.out Rrf.out hfl).mono ?_
    rintro e w6 ⟨rfl, q6, rfl⟩
    have Rx := Lib.hid (Rx.out.drewN q6)
    have Rtf := Lib.hid (Rtf.out.drewN q6)
    have Rtx := Lib.hid (Rtx.out.drewN q6)
    have Rrf := Lib.hid (Rrf.out.drewN q6)
    have HB := Lib.hid (bdrewN HB.out q6)
    clear Rtf
    clear Rrf
    clear Rtx
    go_wp2_with fail
    refine (isfront_any _ _ _ xs _ Rx.out hxl).mono ?_
    rintro e w7 ⟨rfl, hb7⟩
    have Rx := Lib.hid (Rx.out.stays hb7)
    have HB := Lib.hid (bthen HB.out hb7 (Nat.le_refl _))
    clear hb7
    go_wp2_with fail
    refine (to_any _ _ _ xs _ Rx.out hxl).mono ?_
    rintro e w8 ⟨v8, rfl, hr8, hb8⟩
    obtain ⟨Aty, cty, rfl, hcty⟩ := ownsRow_slice hr8
    have Rx := Lib.hid (Rx.out.stays hb8)
    have HB := Lib.hid (bthen HB.out hb8 (Nat.le_refl _))
    have Rty := Lib.hid (VecsAt.own hr8)
    clear hr8 hb8
    go_wp2_with fail
    refine (risfront_any _ _ _ xs _ Rty.out hxl).mono ?_
    rintro e w9 ⟨rfl, hb9⟩
    have Rx := Lib.hid (Rx.out.stays hb9)
    have Rty := Lib.hid (Rty.out.stays hb9)
    have HB := Lib.hid (bthen HB.out hb9 (Nat.le_refl _))
    clear hb9
    have hsc := same_comm (frontV xs) xs
    go_wp2_with fail
    refine (example_any _).mono ?_
    rintro e w10 ⟨rfl, hb10⟩
    have Rx := Lib.hid (Rx.out.stays hb10)
    have Rty := Lib.hid (Rty.out.stays hb10)
    have HB := Lib.hid (bthen HB.out hb10 (Nat.le_refl _))
    clear hb10
    go_wp2
    go_ret
    exact ⟨rfl, HB.out⟩
  · have hcond : (60 : Int) < (n : Int) := by omega
    go_enter Try.func6, Try.ntmps6
    go_wp2_with fail
    refine (example_any _).mono ?_
    rintro e w1 ⟨rfl, hb1⟩
    have Rl := Lib.hid (Rl.out.stays hb1)
    have HB := Lib.hid (bthen HB.out hb1 (Nat.le_refl _))
    clear hb1
    go_wp2
    go_ret
    exact ⟨rfl, HB.out⟩
end Go.Proofs.Ytgcngipbjkmdoaa
