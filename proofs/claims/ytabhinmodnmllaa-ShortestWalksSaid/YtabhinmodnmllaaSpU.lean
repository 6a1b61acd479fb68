/-
  SameInts. Lines of chapter 15's texts.
-/
import Derived.Test.YtabhinmodnmllaaSpT
import Derived.Test.YtabhinmodnmllaaSpS
namespace Go.Proofs.Ytabhinmodnmllaa
open Go.RowKit

set_option maxHeartbeats 400000 in
theorem same_any (A B : Option Addr) (n m c d : Nat) (xs ys : List Int) (w : World) (hx : IntsAt w A n xs) (hy : IntsAt w B m ys) (hn : n ≤ 1000000) (hm : m ≤ 1000000) :
    Calls Try.prog 14 #[.slice A n c, .slice B m d] w fun e w' => e = .returned (.bool (sameB xs ys)) ∧ ∃ q, w' = w.drewN q := by
  have HX := Lib.hid hx
  have HY := Lib.hid hy
  clear hx hy
  by_cases hl : n = m
  · subst hl
    go_enter Try.func14, Try.ntmps14
    go_wp2
    go_loopw [5] (fun k wr => ∃ j q : Nat, j ≤ n ∧ k = .int .i64 j ∧ wr = w.drewN q ∧ ∀ i, i < j → gi xs i = gi ys i) (fun k _ => n - (intOf k).toNat)
    case atStart => exact ⟨0, 0, by omega, rfl, rfl, fun i h => absurd h (by omega)⟩
    case round =>
      obtain ⟨j, q, hj, rfl, rfl, hall⟩ := hrel
      have HA := Lib.hid hall
      clear hall
      by_cases hlt : j < n
      · obtain ⟨ad, rfl, hc1⟩ := HX.out.2 j hlt
        obtain ⟨bd, rfl, hc2⟩ := HY.out.2 j hlt
        have hlt' : (j : Int) < (n : Int) := by omega
        have hj0 : (0 : Int) ≤ (j : Int) := by omega
        by_cases he : gi xs j = gi ys j
        · have hb : (gi xs j != gi ys j) = false := by simp [he]
          have HE := Lib.hid he
          clear he
          go_wp2
          go_quiet (fail)
          go_wp2
          go_roundw
          case rel => exact ⟨j + 1, _, by omega, by go_num, rfl, fun i hi => by
            by_cases e : i = j
            · subst e; exact HE.out
            · exact HA.out i (by omega)⟩
          case measure => simp [intOf]; omega
        · have hb : (gi xs j != gi ys j) = true := by simp [he]
          have HE := Lib.hid he
          clear he
          go_wp2
          go_quiet (fail)
          go_wp2
          go_ret
          exact ⟨ret_bool (sameB_at HE.out).symm, _, by rw [World.drewN_drewN]⟩
      · go_wp2
        go_ret
        exact ⟨ret_bool (sameB_all (by rw [HX.out.1, HY.out.1]) (fun k hk => HA.out k (by have := HX.out.1; omega))).symm, _, rfl⟩
  · have hne : ((n : Int) != (m : Int)) = true := by rw [bne_iff_ne]; omega
    go_enter Try.func14, Try.ntmps14
    go_wp2
    go_ret
    exact ⟨ret_bool (sameB_len (by rw [HX.out.1, HY.out.1]; exact hl)).symm, 0, rfl⟩

theorem same_self (A B : Option Addr) (n m c d : Nat) (xs : List Int) (w : World) (hx : IntsAt w A n xs) (hy : IntsAt w B m xs) (hn : n ≤ 1000) :
    Calls Try.prog 14 #[.slice A n c, .slice B m d] w fun e w' => e = .returned (.bool true) ∧ ∃ q, w' = w.drewN q := by
  have hm : m = n := by rw [← hx.1, ← hy.1]
  have := same_any A B n m c d xs xs w hx hy (by omega) (by omega)
  rw [sameB_self] at this
  exact this

end Go.Proofs.Ytabhinmodnmllaa
