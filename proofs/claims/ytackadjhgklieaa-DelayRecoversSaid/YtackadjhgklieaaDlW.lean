/-
  The walks of the statements on delays.
-/
import Derived.Test.YtackadjhgklieaaDl7
namespace Go.Proofs.Ytackadjhgklieaa
open Go.RowKit

/-- no condition on the calls -/
def AnyC (_ : List Call) : Prop := True
theorem propL_le (xs : List Call) (at_ s : Int) : (propL xs at_ s).length ≤ xs.length := by
  unfold propL
  split
  · rw [cur_len]; exact Nat.le_refl _
  · simp
theorem latL_le (xs ys : List Call) : (latL xs ys).length ≤ xs.length := by
  unfold latL
  split
  · rw [lat_len]; exact Nat.le_refl _
  · simp
theorem same_self (A B : Option Addr) (n m c d : Nat) (xs ys : List Call) (w : World) (e : xs = ys) (hx : SAt callC w A n xs) (hy : SAt callC w B m ys) (hn : n ≤ 1000) :
    Calls Try.prog 13 #[.slice A n c, .slice B m d] w fun e w' => e = .returned (.bool true) ∧ ∃ q, w' = w.drewN q := by
  subst e
  have hm : m = n := by rw [← hx.1, ← hy.1]
  have := same_any A B n m c d xs xs w hx hy (by omega) (by omega)
  rw [sameC_self] at this
  exact this

set_option maxHeartbeats 2000000 in
theorem propagates_walk (A : Option Addr) (n c : Nat) (xs : List Call) (at_ s : Int) (w : World) (hx : SAt callC w A n xs) (_g : AnyC xs) (hc : n ≤ c) (_h1 : I64 at_) (_h2 : I64 s) :
    Calls Try.prog 3 #[.slice A n c, .int .i64 at_, .int .i64 s] w fun e w' => e = .returned (.bool true) ∧ Below w.heap.size w w' := by
  have r := Nat.le_refl w.heap.size
  have R := Lib.hid hx
  have HL := Lib.hid hx.1
  have HB := Lib.hid (Below.refl w.heap.size w)
  clear hx
  by_cases h40 : (40 : Int) < (n : Int)
  · go_enter Try.func3, Try.ntmps3
    go_wp2_with fail
    refine (example_any _).mono ?_
    rintro e w1 ⟨rfl, hb⟩
    have R := Lib.hid (R.out.stays hb)
    have HB := Lib.hid (bthen HB.out hb r)
    clear hb
    go_wp2
    go_ret
    exact ⟨rfl, HB.out⟩
  have hn : n ≤ 1000 := by omega
  have hpl := propL_le xs at_ s
  have hpl2 : (propL xs at_ s).length ≤ 1000 := by have := HL.out; omega
  clear hpl
  go_enter Try.func3, Try.ntmps3
  go_wp2_with fail
  refine (prop_any _ _ _ xs at_ s _ R.out hn).mono ?_
  rintro e w1 ⟨va, rfl, hr, hb⟩
  obtain ⟨Aa, ca, rfl, hca⟩ := ownsRow_slice hr
  have R := Lib.hid (R.out.stays hb)
  have HB := Lib.hid (bthen HB.out hb r)
  have Ra := Lib.hid (show SAt callC _ _ _ _ from SAt.own hr (by decide))
  clear hr hb
  go_wp2_with fail
  refine (rprop_any _ _ _ xs at_ s _ R.out hn hc).mono ?_
  rintro e w2 ⟨vb, rfl, hr, hb⟩
  obtain ⟨Ab, cb, rfl, hcb⟩ := ownsRow_slice hr
  have R := Lib.hid (R.out.stays hb)
  have Ra := Lib.hid (Ra.out.stays hb)
  have HB := Lib.hid (bthen HB.out hb r)
  have Rb := Lib.hid (show SAt callC _ _ _ _ from SAt.own hr (by decide))
  clear hr hb
  go_wp2_with fail
  refine (same_self _ _ _ _ _ _ (propL xs at_ s) (propL xs at_ s) _ rfl Ra.out Rb.out hpl2).mono ?_
  rintro e w9 ⟨rfl, q, rfl⟩
  have HB := Lib.hid (bdrewN HB.out q)
  have R := Lib.hid (R.out.drewN q)
  have Ra := Lib.hid (Ra.out.drewN q)
  have Rb := Lib.hid (Rb.out.drewN q)
  clear Ra
  clear Rb
  go_wp2_with fail
  refine (example_any _).mono ?_
  rintro e w3 ⟨rfl, hb⟩
  have R := Lib.hid (R.out.stays hb)
  have HB := Lib.hid (bthen HB.out hb r)
  clear hb
  go_wp2
  go_ret
  exact ⟨rfl, HB.out⟩

set_option maxHeartbeats 2000000 in
theorem slacks_walk (A : Option Addr) (n c : Nat) (xs : List Call) (at_ : Int) (w : World) (hx : SAt callC w A n xs) (_g : AnyC xs) (_hc : n ≤ c) (_h1 : I64 at_) :
    Calls Try.prog 5 #[.slice A n c, .int .i64 at_] w fun e w' => e = .returned (.bool true) ∧ Below w.heap.size w w' := by
  have r := Nat.le_refl w.heap.size
  have R := Lib.hid hx
  have HL := Lib.hid hx.1
  have HB := Lib.hid (Below.refl w.heap.size w)
  clear hx
  by_cases h40 : (40 : Int) < (n : Int)
  · go_enter Try.func5, Try.ntmps5
    go_wp2_with fail
    refine (example_any _).mono ?_
    rintro e w1 ⟨rfl, hb⟩
    have R := Lib.hid (R.out.stays hb)
    have HB := Lib.hid (bthen HB.out hb r)
    clear hb
    go_wp2
    go_ret
    exact ⟨rfl, HB.out⟩
  have hn : n ≤ 1000 := by omega
  go_enter Try.func5, Try.ntmps5
  go_wp2_with fail
  refine (slack_any _ _ _ xs at_ _ R.out hn).mono ?_
  rintro e w1 ⟨rfl, hb⟩
  have R := Lib.hid (R.out.stays hb)
  have HB := Lib.hid (bthen HB.out hb r)
  clear hb
  go_wp2_with fail
  refine (rslack_any _ _ _ xs at_ _ R.out hn).mono ?_
  rintro e w2 ⟨rfl, hb⟩
  have R := Lib.hid (R.out.stays hb)
  have HB := Lib.hid (bthen HB.out hb r)
  clear hb
  go_wp2_with fail
  refine (example_any _).mono ?_
  rintro e w3 ⟨rfl, hb⟩
  have R := Lib.hid (R.out.stays hb)
  have HB := Lib.hid (bthen HB.out hb r)
  clear hb
  go_wp2
  go_ret
  exact ⟨rfl, HB.out⟩

set_option maxHeartbeats 2000000 in
theorem recovery_walk (A : Option Addr) (n c : Nat) (xs : List Call) (at_ s : Int) (w : World) (hx : SAt callC w A n xs) (_g : AnyC xs) (hc : n ≤ c) (_h1 : I64 at_) (_h2 : I64 s) :
    Calls Try.prog 6 #[.slice A n c, .int .i64 at_, .int .i64 s] w fun e w' => e = .returned (.bool true) ∧ Below w.heap.size w w' := by
  have r := Nat.le_refl w.heap.size
  have R := Lib.hid hx
  have HL := Lib.hid hx.1
  have HB := Lib.hid (Below.refl w.heap.size w)
  clear hx
  by_cases h40 : (40 : Int) < (n : Int)
  · go_enter Try.func6, Try.ntmps6
    go_wp2_with fail
    refine (example_any _).mono ?_
    rintro e w1 ⟨rfl, hb⟩
    have R := Lib.hid (R.out.stays hb)
    have HB := Lib.hid (bthen HB.out hb r)
    clear hb
    go_wp2
    go_ret
    exact ⟨rfl, HB.out⟩
  have hn : n ≤ 1000 := by omega
  go_enter Try.func6, Try.ntmps6
  go_wp2_with fail
  refine (rec_any _ _ _ xs at_ s _ R.out hn hc).mono ?_
  rintro e w1 ⟨rfl, hb⟩
  have R := Lib.hid (R.out.stays hb)
  have HB := Lib.hid (bthen HB.out hb r)
  clear hb
  go_wp2_with fail
  refine (rrec_any _ _ _ xs at_ s _ R.out hn hc).mono ?_
  rintro e w2 ⟨rfl, hb⟩
  have R := Lib.hid (R.out.stays hb)
  have HB := Lib.hid (bthen HB.out hb r)
  clear hb
  go_wp2_with fail
  refine (example_any _).mono ?_
  rintro e w3 ⟨rfl, hb⟩
  have R := Lib.hid (R.out.stays hb)
  have HB := Lib.hid (bthen HB.out hb r)
  clear hb
  go_wp2
  go_ret
  exact ⟨rfl, HB.out⟩

set_option maxHeartbeats 2000000 in
theorem lateness_walk (A : Option Addr) (n c : Nat) (xs : List Call) (B : Option Addr) (m d : Nat) (ys : List Call) (w : World) (hx : SAt callC w A n xs) (_g : AnyC xs) (hy : SAt callC w B m ys) (_g2 : AnyC ys) :
    Calls Try.prog 4 #[.slice A n c, .slice B m d] w fun e w' => e = .returned (.bool true) ∧ Below w.heap.size w w' := by
  have r := Nat.le_refl w.heap.size
  have R := Lib.hid hx
  have S := Lib.hid hy
  have HL := Lib.hid hx.1
  have HB := Lib.hid (Below.refl w.heap.size w)
  clear hx hy
  by_cases h40 : (40 : Int) < (n : Int)
  · go_enter Try.func4, Try.ntmps4
    go_wp2_with fail
    refine (example_any _).mono ?_
    rintro e w1 ⟨rfl, hb⟩
    have HB := Lib.hid (bthen HB.out hb r)
    clear hb
    go_wp2
    go_ret
    exact ⟨rfl, HB.out⟩
  by_cases h41 : (40 : Int) < (m : Int)
  · go_enter Try.func4, Try.ntmps4
    go_wp2_with fail
    refine (example_any _).mono ?_
    rintro e w1 ⟨rfl, hb⟩
    have HB := Lib.hid (bthen HB.out hb r)
    clear hb
    go_wp2
    go_ret
    exact ⟨rfl, HB.out⟩
  have hn : n ≤ 1000 := by omega
  have hm : m ≤ 1000 := by omega
  have hll := latL_le xs ys
  obtain ⟨ls, hls⟩ : ∃ ls, ls = latL xs ys := ⟨_, rfl⟩
  rw [← hls] at hll
  have hl2 : ls.length ≤ 1000 := by have := HL.out; omega
  obtain ⟨p, hp⟩ : ∃ p, p = ls.length := ⟨_, rfl⟩
  have hla := fun A c B d w h1 h2 => lat_any A B n m c d xs ys w h1 h2 hn hm
  have hra := fun A c B d w h1 h2 => rlat_any A B n m c d xs ys w h1 h2 hn hm
  simp only [LatRet, ← hls, ← hp] at hla hra
  rw [← hp] at hl2
  clear hll hls hp
  go_enter Try.func4, Try.ntmps4
  go_wp2_with fail
  refine (hla _ _ _ _ _ R.out S.out).mono ?_
  rintro e w1 ⟨Aa, ca, rfl, hi, hb, hg⟩
  have R := Lib.hid (R.out.stays hb)
  have S := Lib.hid (S.out.stays hb)
  have HB := Lib.hid (bthen HB.out hb r)
  have Ra := Lib.hid hi
  have Ga := Lib.hid hg
  clear hi hg hb
  go_wp2_with fail
  refine (hra _ _ _ _ _ R.out S.out).mono ?_
  rintro e w2 ⟨Ab, cb, rfl, hi, hb, hg⟩
  have R := Lib.hid (R.out.stays hb)
  have S := Lib.hid (S.out.stays hb)
  have Ra := Lib.hid (Ra.out.stays hb)
  have HB := Lib.hid (bthen HB.out hb r)
  have Rb := Lib.hid hi
  have Gb := Lib.hid hg
  clear hi hg hb
  clear R
  clear S
  clear hla hra
  go_wp2
  go_loopw [9] (fun i wr => ∃ k q : Nat, k ≤ p ∧ i = .int .i64 k ∧ wr = w2.drewN q) (fun i _ => p - (intOf i).toNat)
  case atStart => exact ⟨0, 0, by omega, rfl, rfl⟩
  case round =>
    obtain ⟨k, q, hk, rfl, rfl⟩ := hrel
    by_cases hlt : k < p
    · have k0 : (0 : Int) ≤ (k : Int) := by omega
      have kn : (k : Int) < (p : Int) := by omega
      obtain ⟨g1, hA⟩ := Ga.out (by omega)
      subst hA
      obtain ⟨g2, hA⟩ := Gb.out (by omega)
      subst hA
      have c0 := Ra.out.at_ k hlt
      have d0 := Rb.out.at_ k hlt
      go_wp2
      go_quiet (fail)
      go_wp2
      go_roundw
      case rel => exact ⟨k + 1, _, by omega, by go_num, rfl⟩
      case measure => simp [intOf]; omega
    · obtain rfl : k = p := by omega
      have hd : ¬ ((k : Int) < (k : Int)) := by omega
      have HB := Lib.hid (bdrewN HB.out q)
      go_wp2_with fail
      refine (example_any _).mono ?_
      rintro e w6 ⟨rfl, hb⟩
      have HB := Lib.hid (bthen HB.out hb r)
      clear hb
      go_wp2
      go_ret
      exact ⟨rfl, HB.out⟩
end Go.Proofs.Ytackadjhgklieaa
