/-
  put, whatever the front; Front, Merge.
-/
import Derived.Test.YtgcngipbjkmdoaaPut
namespace Go.Proofs.Ytgcngipbjkmdoaa
open Go.RowKit
open Vec (V vi leV eqV domV ltV cmpV covV keepV lowV highV putV frontV mergeV)

set_option maxHeartbeats 1000000 in
theorem put_cov (base : Nat) (A : Option Addr) (n c : Nat) (xs : List V) (v : V) (w : World) (hown : w.ownsRow base 23 4 (.slice A n c) n (vcs xs)) (hbase : base ≤ w.heap.size) (hn : n ≤ 1000) (hcov : covV xs v = true) :
    Calls Try.prog 31 #[.slice A n c, .agg #[.int .i64 (vi v 0), .int .i64 (vi v 1), .int .i64 (vi v 2), .int .i64 (vi v 3)]] w fun e w' => Put base w xs v e w' := by
  have hx := VecsAt.own hown
  have ho := hown.alloc (.cells #[.int .i64 (vi v 0), .int .i64 (vi v 1), .int .i64 (vi v 2), .int .i64 (vi v 3)] 23)
  have hp : Hid (putV xs v = xs) := Lib.hid (by unfold putV; rw [if_pos hcov])
  have hl := Lib.hid hx.1
  go_enter Try.func31, Try.ntmps31
  go_wp2_with fail
  refine (covers_any _ n c xs v _ (hx.alloc _) hn).mono ?_
  rintro e w1 ⟨rfl, hb1⟩
  have HO := Lib.hid (ownsRow_stays ho hb1)
  have HB := Lib.hid (bthen (balloc (Below.refl base w) (.cells #[.int .i64 (vi v 0), .int .i64 (vi v 1), .int .i64 (vi v 2), .int .i64 (vi v 3)] 23) hbase) hb1 hbase)
  clear ho hown hx hb1
  go_wp2_with fail
  go_ret
  exact ⟨_, rfl, by rw [hp.out, hl.out]; exact HO.out, HB.out⟩

set_option maxHeartbeats 1000000 in
theorem put_nil (base : Nat) (v : V) (w : World) (hbase : base ≤ w.heap.size) :
    Calls Try.prog 31 #[.slice none 0 0, .agg #[.int .i64 (vi v 0), .int .i64 (vi v 1), .int .i64 (vi v 2), .int .i64 (vi v 3)]] w fun e w' => Put base w [] v e w' := by
  obtain ⟨i0, hi, hz0, hz1, hz2⟩ := info_parts infoV
  have HV := Lib.hid (VBox.new w 23 v)
  have hs : w.heap.size < (w.alloc (.cells #[.int .i64 (vi v 0), .int .i64 (vi v 1), .int .i64 (vi v 2), .int .i64 (vi v 3)] 23)).heap.size := by simp
  go_enter Try.func31, Try.ntmps31
  go_wp2_with fail
  refine (covers_any _ 0 0 [] v _ (VecsAt.nil _ _) (by omega)).mono ?_
  rintro e w1 ⟨rfl, hb1⟩
  have hc0 : covV [] v = false := rfl
  have hv1 : Hid (∀ j, j < 4 → w1.cell? ⟨w.heap.size, j, none⟩ = some (.int .i64 (vi v j))) := Lib.hid (fun j hj => (hb1.cell (p := ⟨w.heap.size, j, none⟩) hs).trans (HV.out j hj))
  have hs1 : w.heap.size < w1.heap.size := Nat.lt_of_lt_of_le hs hb1.size
  have hbw : Below base w w1 := bthen (balloc (Below.refl _ w) _ hbase) hb1 hbase
  clear hb1 HV hs
  go_wp2_with fail
  go_loopg [5, 16] 0 (fun g s5 s16 wx => s16 = .int .i64 0 ∧ s5 = .int .i64 0 ∧ wx = w1)
  case atStart => exact ⟨rfl, rfl, rfl⟩
  case round =>
    obtain ⟨rfl, rfl, rfl⟩ := hrel
    go_wp2
    go_loopg [8] 0 (fun g s8 wx => s8 = .int .i64 0 ∧ wx = wr)
    case atStart => exact ⟨rfl, rfl⟩
    case round =>
      obtain ⟨rfl, rfl⟩ := hrel
      go_wp2
      go_quiet (fail)
      have hmk : base ≤ wr.heap.size := Nat.le_trans hbase hbw.size
      have hszV : (Try.prog.info? 23).map (·.size) = some 4 := by rw [hi]; simp [hz1]
      go_wp2_with (first | (at_make; refine wpList_make_full _ rfl _ _ 32 rfl wr.heap.size 23 i0 (.agg #[.int .i64 0, .int .i64 0, .int .i64 0, .int .i64 0]) 4 Try.underlying32 hi hz0 hz1 .i64 .i64 _ _ 0 rfl rfl (by omega) (by omega) (by rw [hz2]; omega) (by unfold maxLen; omega) (Nat.le_refl _) ?_; intro w4 hr4 hg4; have hb4 : Below wr.heap.size wr w4 := bthen (bdrewN (Below.refl _ wr) _) ((Below.refl _ _).grown hg4 (Nat.le_refl _) (by simp)) (Nat.le_refl _)) | (refine wpList_copy_whole rfl (.tmp 49) (.tmp 53) 32 32 rfl 23 4 Try.underlying32 hszV wr.heap.size _ 0 _ _ _ rfl rfl hr4 [] rfl (fun hp => absurd hp (by omega)) (by simp) ?_; intro w5 hr5 hb5))
      have hb45 : Below wr.heap.size wr w5 := hb4.trans hb5
      have HR := Lib.hid hr5
      have hs5 : wr.heap.size < w5.heap.size := own_lt hr5
      have d0 := (hb45.cell (p := ⟨w.heap.size, 0, none⟩) hs1).trans (hv1.out 0 (by omega))
      have d1 := (hb45.cell (p := ⟨w.heap.size, 1, none⟩) hs1).trans (hv1.out 1 (by omega))
      have d2 := (hb45.cell (p := ⟨w.heap.size, 2, none⟩) hs1).trans (hv1.out 2 (by omega))
      have d3 := (hb45.cell (p := ⟨w.heap.size, 3, none⟩) hs1).trans (hv1.out 3 (by omega))
      have hB5 : Below base w w5 := bthen hbw hb45 hbase
      clear hr4 hr5 hg4 hb4 hb5
      go_region_law (first | (refine step_append_grows rfl (.tmp 58) (.tmp 60) 32 rfl 23 i0 (.agg #[.int .i64 0, .int .i64 0, .int .i64 0, .int .i64 0]) 4 32 Try.underlying32 hi hz0 hz1 hz2 rfl (by decide) none 0 0 [] (by simp [Act.eval, Act.put]) (by simp) rfl (fun b hb i u hu => by cases hb) ⟨w5.heap.size, 0, none⟩ 1 1 (vc v) (by simp [Act.eval, Act.put]) rfl (vc_new _ _ _) (vc_one _) (by omega) (by unfold maxLen; omega) (by omega) ?_; intro v6 w6 hr6 hg6; have hb6 : Below w5.heap.size w5 w6 := (balloc (Below.refl w5.heap.size w5).drew _ (Nat.le_refl _)).grown hg6 (by simp) (by simp)) | (refine step_append_own rfl (.tmp 61) (.tmp 62) 32 rfl w5.heap.size 23 i0 (.agg #[.int .i64 0, .int .i64 0, .int .i64 0, .int .i64 0]) 4 32 Try.underlying32 hi hz0 hz1 hz2 rfl (by decide) v6 (0 + 1) ([] ++ vc v) (by simp [Act.eval, Act.put]) (ownsRow_base hr6 (by simp)) ⟨wr.heap.size, 0, none⟩ 0 0 [] (by simp [Act.eval, Act.put]) rfl (by simp) (by simp) (by unfold maxLen; omega) (by omega) hb6.size ?_; intro v7 w7 hr7 hg7 _))
      have hb7 : Below w5.heap.size w5 w7 := below_own hb6 hb6.size (Nat.le_refl _) (ownsRow_base hr6 (by simp)) hg7
      have hfin : Put base w [] v (.returned v7) w7 := ⟨v7, rfl, by simpa [putV, hc0, keepV, lowV, highV, vcs] using ownsRow_base hr7 (Nat.le_trans hmk (Nat.le_trans hb45.size (Nat.le_refl _))), bthen hB5 hb7 hbase⟩
      clear hr6 hr7 hg6 hg7 hb6 d0 d1 d2 d3
      have HFIN := Lib.hid hfin
      clear hfin
      go_wp2
      go_ret
      exact HFIN.out
end Go.Proofs.Ytgcngipbjkmdoaa
