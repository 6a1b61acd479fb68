/-
  Identifiers: the reference's check.
-/
import Derived.Test.YtjmjejpfilejdaaId
namespace Go.Proofs.Ytjmjejpfilejdaa
open Go.RowKit

set_option maxHeartbeats 1000000 in
theorem rvalid_any (s : ByteArray) (w : World) (hs : s.size ≤ 9223372036854775807) :
    Calls Try.prog 32 #[.string s] w fun e w' => e = .returned (.bool (validB s)) ∧ w = w' := by
  by_cases hr : 1 ≤ s.size ∧ s.size ≤ 32
  · obtain ⟨r1, r2⟩ := hr
    have r1' : ((s.size : Int) == 0) = false := beq_eq_false_iff_ne.2 (by omega)
    have r2' : ¬ (32 : Int) < (s.size : Int) := by omega
    go_enter Try.func32, Try.ntmps32
    go_wp2
    go_loop [3] (fun i => ∃ k : Nat, k ≤ s.size ∧ i = .int .i64 k ∧ Hid (GoodTo s k)) (fun i => s.size - (intOf i).toNat)
    case atStart => exact ⟨0, by omega, rfl, Lib.hid (fun j hj => absurd hj (by omega))⟩
    case round =>
      obtain ⟨k, hk, rfl, HG⟩ := hrel
      by_cases hlt : k < s.size
      · have k0 : (0 : Int) ≤ (k : Int) := by omega
        have kn : (k : Int) < (s.size : Int) := by omega
        have HE := Lib.hid (byteN_eq hlt)
        rcases byte_parts (byteN s k) with ⟨h1, hb⟩ | ⟨h1, hb⟩ | ⟨h1, hb⟩ | ⟨h1, hb⟩ | ⟨h1, h2, hb⟩ | ⟨h1, h2, hb⟩ | ⟨h1, h2, hb⟩ | ⟨h1, h2, hb⟩ | ⟨h1, hb⟩ | ⟨h1, hb⟩ | ⟨h1, h2, hb⟩ | ⟨h1, hb⟩
        all_goals
          have HBB := Lib.hid hb
          clear hb
          rw [HE.out] at h1
          try rw [HE.out] at h2
          go_wp2 <;> first
            | (have H := valid_bad hlt HBB.out; go_ret; exact ⟨ret_bool H.symm, rfl⟩)
            | (have H := Lib.hid (HG.out.step HBB.out)
               go_round
               case rel => exact ⟨k + 1, by omega, by go_num, H⟩
               case measure => simp [intOf]; omega)
            | (exfalso; rename_i hx; simp at hx; omega)
      · obtain rfl : k = s.size := by omega
        have hd : ¬ ((s.size : Int) < (s.size : Int)) := by omega
        have HV := Lib.hid (valid_all HG.out)
        go_wp2
        go_ret
        exact ⟨ret_bool (by rw [HV.out]; simp; omega), rfl⟩
  · have HV := Lib.hid (valid_len hr)
    by_cases h0 : s.size < 1
    · have h0' : ((s.size : Int) == 0) = true := beq_iff_eq.2 (by omega)
      clear hr
      go_enter Try.func32, Try.ntmps32
      go_wp2
      go_ret
      exact ⟨ret_bool (by rw [HV.out]), rfl⟩
    · have h0' : ((s.size : Int) == 0) = false := beq_eq_false_iff_ne.2 (by omega)
      have h1' : (32 : Int) < (s.size : Int) := by omega
      clear hr
      go_enter Try.func32, Try.ntmps32
      go_wp2
      go_ret
      exact ⟨ret_bool (by rw [HV.out]), rfl⟩
end Go.Proofs.Ytjmjejpfilejdaa
