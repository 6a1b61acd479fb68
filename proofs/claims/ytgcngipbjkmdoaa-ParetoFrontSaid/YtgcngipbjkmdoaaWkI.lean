/-
  The walks of the statements on inserts and merges.
-/
import Derived.Test.YtgcngipbjkmdoaaWkB
import Derived.Test.YtgcngipbjkmdoaaWkC
import Derived.Deep.RegionHeld3
namespace Go.Proofs.Ytgcngipbjkmdoaa
open Go.RowKit
open Vec (V vi leV eqV domV ltV cmpV covV putV frontV mergeV withinV)

theorem vecs_drew {w : World} {A : Option Addr} {n : Nat} {xs : List V} (h : VecsAt w A n xs) : VecsAt w.drew A n xs := h
theorem box_new (w : World) (t : TypeId) (v : V) : Boxed (w.alloc (.cells #[.int .i64 (vi v 0), .int .i64 (vi v 1), .int .i64 (vi v 2), .int .i64 (vi v 3)] t)) w.heap.size v := ⟨VBox.new w t v, by simp⟩

set_option maxHeartbeats 4000000 in
theorem inserts_walk (A : Option Addr) (n c : Nat) (xs : List V) (v : V) (w : World) (hx : VecsAt w A n xs) :
    Calls Try.prog 4 #[.slice A n c, .agg #[.int .i64 (vi v 0), .int .i64 (vi v 1), .int .i64 (vi v 2), .int .i64 (vi v 3)]] w fun e w' => e = .returned (.bool true) ∧ Below w.heap.size w w' := by
  have hb0 : Below w.heap.size w (w.alloc (.cells #[.int .i64 (vi v 0), .int .i64 (vi v 1), .int .i64 (vi v 2), .int .i64 (vi v 3)] 22)) := balloc (Below.refl _ w) _ (Nat.le_refl _)
  have Rl := Lib.hid (hx.alloc (.cells #[.int .i64 (vi v 0), .int .i64 (vi v 1), .int .i64 (vi v 2), .int .i64 (vi v 3)] 22))
  have BX := Lib.hid (box_new w 22 v)
  have HN := Lib.hid hx.1
  have HB := Lib.hid hb0
  clear hx hb0
  by_cases hn : n ≤ 60
  · have hcond : ¬ ((60 : Int) < (n : Int)) := by omega
    have hxl : xs.length ≤ 60 := by have := HN.out; omega
    go_enter Try.func4, Try.ntmps4
    go_wp2_with fail
    refine (from_any _ _ _ xs _ Rl.out (by omega)).mono ?_
    rintro e w1 ⟨v1, rfl, hr1, hb1⟩
    obtain ⟨Ax, cx, rfl, hcx⟩ := ownsRow_slice hr1
    have Rl := Lib.hid (Rl.out.stays hb1)
    have HB := Lib.hid (bthen HB.out hb1 (Nat.le_refl _))
    have BX := Lib.hid (BX.out.stays hb1)
    have Rx := Lib.hid (VecsAt.own hr1)
    clear hr1 hb1
    clear Rl
    obtain ⟨c0, c1, c2, c3⟩ := BX.out.cells
    go_wp2_with fail
    refine (insert_any _ _ _ xs v _ Rx.out (by omega)).mono ?_
    rintro e w2 ⟨v2, rfl, hr2, hb2⟩
    obtain ⟨Aa, ca, rfl, hca⟩ := ownsRow_slice hr2
    clear c0 c1 c2 c3
    have Rx := Lib.hid (Rx.out.stays hb2)
    have HB := Lib.hid (bthen HB.out hb2 (Nat.le_refl _))
    have BX := Lib.hid (BX.out.stays hb2)
    have Ra := Lib.hid (VecsAt.own hr2)
    clear hr2 hb2
    have hal : (putV (frontV xs) v).length ≤ 1000 := by have := putV_len (frontV xs) v; have := frontV_len xs; omega
    obtain ⟨c0, c1, c2, c3⟩ := BX.out.cells
    go_wp2
    have Rx := Lib.hid (vecs_drew Rx.out)
    have Ra := Lib.hid (vecs_drew Ra.out)
    have BX := Lib.hid (BX.out.stays (Below.refl _ _).drew)
    have HB := Lib.hid HB.out.drew
    have hS := BX.out.cells
    go_region_held3 (fun u => u.cell? ⟨w.heap.size, 0, none⟩ = some (.int .i64 (vi v 0)) ∧ u.cell? ⟨w.heap.size, 1, none⟩ = some (.int .i64 (vi v 1)) ∧ u.cell? ⟨w.heap.size, 2, none⟩ = some (.int .i64 (vi v 2)) ∧ u.cell? ⟨w.heap.size, 3, none⟩ = some (.int .i64 (vi v 3))) (exact hS) ((first | (go_simp; go_at_call 17; (with_reducible refine (to_any _ _ _ xs _ Rx.out (by omega)).mono ?_); rintro e w3 ⟨v3, rfl, hr3, hb⟩; obtain ⟨At, ct, rfl, hct⟩ := ownsRow_slice hr3; have Rx := Lib.hid (Rx.out.stays hb); have Ra := Lib.hid (Ra.out.stays hb); have BX := Lib.hid (BX.out.stays hb); have HB := Lib.hid (bthen HB.out hb (Nat.le_refl _)); have hS := BX.out.cells; have HBB := Lib.hid hb; clear hb; have Rt := Lib.hid (VecsAt.own hr3)) | (go_simp; go_at_call 16; (with_reducible refine (rinsert_any _ _ _ xs v _ hr3 (by omega)).mono ?_); rintro e w4 ⟨v4, rfl, hr4, hb⟩; obtain ⟨Ab, cb, rfl, hcb⟩ := ownsRow_slice hr4; have Rx := Lib.hid (Rx.out.stays hb); have Ra := Lib.hid (Ra.out.stays hb); have BX := Lib.hid (BX.out.stays hb); have HB := Lib.hid (bthen HB.out hb (Nat.le_refl _)); have hS := BX.out.cells; have HBB := Lib.hid hb; clear hb; have Rb := Lib.hid (VecsAt.own hr4); clear hr4)))
    clear c0 c1 c2 c3 Rt hr3
    go_wp2
    have hbl : (frontV (xs ++ [v])).length ≤ 1000 := by have := frontV_len (xs ++ [v]); simp at this; omega
    have Rx := Lib.hid (vecs_drew Rx.out)
    have Ra := Lib.hid (vecs_drew Ra.out)
    have Rb := Lib.hid (vecs_drew Rb.out)
    have BX := Lib.hid (BX.out.stays (Below.refl _ _).drew)
    have HB := Lib.hid HB.out.drew
    have hS := BX.out.cells
    go_region_held3 (fun u => u.cell? ⟨w.heap.size, 0, none⟩ = some (.int .i64 (vi v 0)) ∧ u.cell? ⟨w.heap.size, 1, none⟩ = some (.int .i64 (vi v 1)) ∧ u.cell? ⟨w.heap.size, 2, none⟩ = some (.int .i64 (vi v 2)) ∧ u.cell? ⟨w.heap.size, 3, none⟩ = some (.int .i64 (vi v 3))) (exact hS) ((first | (go_simp; go_at_call 17; (with_reducible refine (to_any _ _ _ (putV (frontV xs) v) _ Ra.out hal).mono ?_); rintro e w5 ⟨v5, rfl, hr5, hb⟩; obtain ⟨Ata, cta, rfl, hcta⟩ := ownsRow_slice hr5; have Rx := Lib.hid (Rx.out.stays hb); have Rb := Lib.hid (Rb.out.stays hb); have BX := Lib.hid (BX.out.stays hb); have HB := Lib.hid (bthen HB.out hb (Nat.le_refl _)); have hS := BX.out.cells; have HBB := Lib.hid hb; clear hb; have Rta := Lib.hid (VecsAt.own hr5); clear hr5) | (go_simp; go_at_call 18; (with_reducible refine (same_eq _ _ _ _ _ _ (putV (frontV xs) v) (frontV (xs ++ [v])) _ (Vec.put_front xs v) Rta.out Rb.out hal hbl).mono ?_); rintro e w6 ⟨rfl, q6, rfl⟩; have hb := bdrewN (Below.refl w5.heap.size w5) q6; have Rx := Lib.hid (Rx.out.stays hb); have BX := Lib.hid (BX.out.stays hb); have HB := Lib.hid (bthen HB.out hb (Nat.le_refl _)); have hS := BX.out.cells; have HBB := Lib.hid hb; clear hb) | (go_simp; go_at_call 19; (with_reducible refine (covers_any _ _ _ xs v _ Rx.out (by omega)).mono ?_); rintro e w7 ⟨rfl, hb⟩; have Rx := Lib.hid (Rx.out.stays hb); have BX := Lib.hid (BX.out.stays hb); have HB := Lib.hid (bthen HB.out hb (Nat.le_refl _)); have hS := BX.out.cells; have HBB := Lib.hid hb; clear hb) | (go_simp; go_at_call 17; (with_reducible refine (to_any _ _ _ xs _ Rx.out (by omega)).mono ?_); rintro e w8 ⟨v8, rfl, hr8, hb⟩; obtain ⟨Atx, ctx, rfl, hctx⟩ := ownsRow_slice hr8; have Rx := Lib.hid (Rx.out.stays hb); have BX := Lib.hid (BX.out.stays hb); have HB := Lib.hid (bthen HB.out hb (Nat.le_refl _)); have hS := BX.out.cells; have HBB := Lib.hid hb; clear hb; have Rtx := Lib.hid (VecsAt.own hr8); clear hr8) | (go_simp; go_at_call 20; (with_reducible refine (rcovers_any _ _ _ xs v _ Rtx.out (by omega)).mono ?_); rintro e w9 ⟨rfl, hb⟩; have BX := Lib.hid (BX.out.stays hb); have HB := Lib.hid (bthen HB.out hb (Nat.le_refl _)); have hS := BX.out.cells; have HBB := Lib.hid hb; clear hb) | (go_simp; go_at_call 13; (with_reducible refine (example_any _).mono ?_); rintro e w10 ⟨rfl, hb⟩; have BX := Lib.hid (BX.out.stays hb); have HB := Lib.hid (bthen HB.out hb (Nat.le_refl _)); have hS := BX.out.cells; have HBB := Lib.hid hb; clear hb)))
    go_wp2
    go_ret
    exact ⟨rfl, HB.out⟩
  · have hcond : (60 : Int) < (n : Int) := by omega
    go_enter Try.func4, Try.ntmps4
    go_wp2_with fail
    refine (example_any _).mono ?_
    rintro e w1 ⟨rfl, hb1⟩
    have HB := Lib.hid (bthen HB.out hb1 (Nat.le_refl _))
    clear hb1
    go_wp2
    go_ret
    exact ⟨rfl, HB.out⟩

theorem within_len (xs : List V) (v : V) : (withinV xs v).length ≤ xs.length := List.length_filter_le _ _
set_option maxHeartbeats 4000000 in
theorem merges_walk (A : Option Addr) (n c : Nat) (xs : List V) (B : Option Addr) (m d : Nat) (ys : List V) (v : V) (w : World) (hx : VecsAt w A n xs) (hy : VecsAt w B m ys) :
    Calls Try.prog 8 #[.slice A n c, .slice B m d, .agg #[.int .i64 (vi v 0), .int .i64 (vi v 1), .int .i64 (vi v 2), .int .i64 (vi v 3)]] w fun e w' => e = .returned (.bool true) ∧ Below w.heap.size w w' := by
  have hb0 : Below w.heap.size w (w.alloc (.cells #[.int .i64 (vi v 0), .int .i64 (vi v 1), .int .i64 (vi v 2), .int .i64 (vi v 3)] 22)) := balloc (Below.refl _ w) _ (Nat.le_refl _)
  have Rl := Lib.hid (hx.alloc (.cells #[.int .i64 (vi v 0), .int .i64 (vi v 1), .int .i64 (vi v 2), .int .i64 (vi v 3)] 22))
  have Rk := Lib.hid (hy.alloc (.cells #[.int .i64 (vi v 0), .int .i64 (vi v 1), .int .i64 (vi v 2), .int .i64 (vi v 3)] 22))
  have BX := Lib.hid (box_new w 22 v)
  have HN := Lib.hid hx.1
  have HM := Lib.hid hy.1
  have HB := Lib.hid hb0
  clear hx hy hb0
  by_cases h1 : (40 : Int) < (n : Int)
  · go_enter Try.func8, Try.ntmps8
    go_wp2_with fail
    refine (example_any _).mono ?_
    rintro e w1 ⟨rfl, hb1⟩
    have HB := Lib.hid (bthen HB.out hb1 (Nat.le_refl _))
    clear hb1
    go_wp2
    go_ret
    exact ⟨rfl, HB.out⟩
  by_cases h2 : (40 : Int) < (m : Int)
  · go_enter Try.func8, Try.ntmps8
    go_wp2_with fail
    refine (example_any _).mono ?_
    rintro e w1 ⟨rfl, hb1⟩
    have HB := Lib.hid (bthen HB.out hb1 (Nat.le_refl _))
    clear hb1
    go_wp2
    go_ret
    exact ⟨rfl, HB.out⟩
  have hxl : xs.length ≤ 40 := by have := HN.out; omega
  have hyl : ys.length ≤ 40 := by have := HM.out; omega
  go_enter Try.func8, Try.ntmps8
  go_wp2_with fail
  refine (from_any _ _ _ xs _ Rl.out (by omega)).mono ?_
  rintro e w1 ⟨v1, rfl, hr1, hb1⟩
  obtain ⟨Ax, cx, rfl, hcx⟩ := ownsRow_slice hr1
  have Rl := Lib.hid (Rl.out.stays hb1)
  have Rk := Lib.hid (Rk.out.stays hb1)
  have HB := Lib.hid (bthen HB.out hb1 (Nat.le_refl _))
  have BX := Lib.hid (BX.out.stays hb1)
  have Rx := Lib.hid (VecsAt.own hr1)
  clear hr1 hb1
  clear Rl
  go_wp2_with fail
  refine (from_any _ _ _ ys _ Rk.out (by omega)).mono ?_
  rintro e w2 ⟨v2, rfl, hr2, hb2⟩
  obtain ⟨Ay, cy, rfl, hcy⟩ := ownsRow_slice hr2
  have Rk := Lib.hid (Rk.out.stays hb2)
  have Rx := Lib.hid (Rx.out.stays hb2)
  have HB := Lib.hid (bthen HB.out hb2 (Nat.le_refl _))
  have BX := Lib.hid (BX.out.stays hb2)
  have Ry := Lib.hid (VecsAt.own hr2)
  clear hr2 hb2
  clear Rk
  have hml := mergeV_len xs ys
  have hfl := frontV_len (xs ++ ys)
  have hwl := within_len xs v
  have hab := @List.length_append _ xs ys
  have hml' : (mergeV xs ys).length ≤ 1000 := by omega
  have hfl' : (frontV (xs ++ ys)).length ≤ 1000 := by omega
  have hwl' : (withinV xs v).length ≤ 1000 := by omega
  have hxl' : xs.length ≤ 1000 := by omega
  have hyl' : ys.length ≤ 1000 := by omega
  have hxy : xs.length + ys.length ≤ 1000 := by omega
  clear hml hfl hwl hab hxl hyl
  obtain ⟨c0, c1, c2, c3⟩ := BX.out.cells
  go_wp2
  have Rx := Lib.hid (vecs_drew Rx.out)
  have Ry := Lib.hid (vecs_drew Ry.out)
  have BX := Lib.hid (BX.out.stays (Below.refl _ _).drew)
  have HB := Lib.hid HB.out.drew
  have hS := BX.out.cells
  go_region_held3 (fun u => u.cell? ⟨w.heap.size, 0, none⟩ = some (.int .i64 (vi v 0)) ∧ u.cell? ⟨w.heap.size, 1, none⟩ = some (.int .i64 (vi v 1)) ∧ u.cell? ⟨w.heap.size, 2, none⟩ = some (.int .i64 (vi v 2)) ∧ u.cell? ⟨w.heap.size, 3, none⟩ = some (.int .i64 (vi v 3))) (exact hS) ((first | (go_simp; go_at_call 22; (with_reducible refine (merge_any _ _ _ _ _ _ xs ys _ Rx.out Ry.out hxy).mono ?_); rintro e w3 ⟨v3, rfl, hr3, hb⟩; obtain ⟨Am, cm, rfl, hcm⟩ := ownsRow_slice hr3; have Rx := Lib.hid (Rx.out.stays hb); have Ry := Lib.hid (Ry.out.stays hb); have BX := Lib.hid (BX.out.stays hb); have HB := Lib.hid (bthen HB.out hb (Nat.le_refl _)); have hS := BX.out.cells; have HBB := Lib.hid hb; clear hb; have Rm := Lib.hid (VecsAt.own hr3); clear hr3) | (go_simp; go_at_call 17; (with_reducible refine (to_any _ _ _ (mergeV xs ys) _ Rm.out hml').mono ?_); rintro e w4 ⟨v4, rfl, hr4, hb⟩; obtain ⟨Atm, ctm, rfl, hctm⟩ := ownsRow_slice hr4; have Rx := Lib.hid (Rx.out.stays hb); have Ry := Lib.hid (Ry.out.stays hb); have BX := Lib.hid (BX.out.stays hb); have HB := Lib.hid (bthen HB.out hb (Nat.le_refl _)); have hS := BX.out.cells; have HBB := Lib.hid hb; clear hb; have Rtm := Lib.hid (VecsAt.own hr4); clear hr4) | (go_simp; go_at_call 17; (with_reducible refine (to_any _ _ _ xs _ Rx.out hxl').mono ?_); rintro e w5 ⟨v5, rfl, hr5, hb⟩; obtain ⟨Atx, ctx, rfl, hctx⟩ := ownsRow_slice hr5; have Rx := Lib.hid (Rx.out.stays hb); have Ry := Lib.hid (Ry.out.stays hb); have Rtm := Lib.hid (Rtm.out.stays hb); have BX := Lib.hid (BX.out.stays hb); have HB := Lib.hid (bthen HB.out hb (Nat.le_refl _)); have hS := BX.out.cells; have HBB := Lib.hid hb; clear hb; have Rtx := Lib.hid (VecsAt.own hr5)) | (go_simp; go_at_call 17; (with_reducible refine (to_any _ _ _ ys _ Ry.out hyl').mono ?_); rintro e w6 ⟨v6, rfl, hr6, hb⟩; obtain ⟨Aty, cty, rfl, hcty⟩ := ownsRow_slice hr6; have Rx := Lib.hid (Rx.out.stays hb); have Rtm := Lib.hid (Rtm.out.stays hb); have BX := Lib.hid (BX.out.stays hb); have HB := Lib.hid (bthen HB.out hb (Nat.le_refl _)); have hS := BX.out.cells; have HBB := Lib.hid hb; clear hb; have Rty := Lib.hid (VecsAt.own hr6); have hr5 := ownsRow_stays hr5 HBB.out) | (go_simp; go_at_call 27; (with_reducible refine (rmerge_any _ _ _ _ _ _ xs ys _ hr5 hr6 hxy).mono ?_); rintro e w7 ⟨v7, rfl, hr7, hb⟩; obtain ⟨Arm, crm, rfl, hcrm⟩ := ownsRow_slice hr7; have Rx := Lib.hid (Rx.out.stays hb); have Rtm := Lib.hid (Rtm.out.stays hb); have BX := Lib.hid (BX.out.stays hb); have HB := Lib.hid (bthen HB.out hb (Nat.le_refl _)); have hS := BX.out.cells; have HBB := Lib.hid hb; clear hb; have Rrm := Lib.hid (VecsAt.own hr7); clear hr7) | (go_simp; go_at_call 18; (with_reducible refine (same_eq _ _ _ _ _ _ (mergeV xs ys) (frontV (xs ++ ys)) _ (Vec.merge_eq xs ys) Rtm.out Rrm.out hml' hfl').mono ?_); rintro e w8 ⟨rfl, q8, rfl⟩; have hb := bdrewN (Below.refl w7.heap.size w7) q8; have Rx := Lib.hid (Rx.out.stays hb); have BX := Lib.hid (BX.out.stays hb); have HB := Lib.hid (bthen HB.out hb (Nat.le_refl _)); have hS := BX.out.cells; have HBB := Lib.hid hb; clear hb) | (go_simp; go_at_call 28; (with_reducible refine (within_any _ _ _ xs v _ Rx.out hxl').mono ?_); rintro e w9 ⟨v9, rfl, hr9, hb⟩; obtain ⟨Awi, cwi, rfl, hcwi⟩ := ownsRow_slice hr9; have Rx := Lib.hid (Rx.out.stays hb); have BX := Lib.hid (BX.out.stays hb); have HB := Lib.hid (bthen HB.out hb (Nat.le_refl _)); have hS := BX.out.cells; have HBB := Lib.hid hb; clear hb; have Rwi := Lib.hid (VecsAt.own hr9); clear hr9) | (go_simp; go_at_call 17; (with_reducible refine (to_any _ _ _ (withinV xs v) _ Rwi.out hwl').mono ?_); rintro e w10 ⟨v10, rfl, hr10, hb⟩; obtain ⟨Atw, ctw, rfl, hctw⟩ := ownsRow_slice hr10; have Rx := Lib.hid (Rx.out.stays hb); have BX := Lib.hid (BX.out.stays hb); have HB := Lib.hid (bthen HB.out hb (Nat.le_refl _)); have hS := BX.out.cells; have HBB := Lib.hid hb; clear hb; have Rtw := Lib.hid (VecsAt.own hr10); clear hr10) | (go_simp; go_at_call 17; (with_reducible refine (to_any _ _ _ xs _ Rx.out hxl').mono ?_); rintro e w11 ⟨v11, rfl, hr11, hb⟩; obtain ⟨Atz, ctz, rfl, hctz⟩ := ownsRow_slice hr11; have Rtw := Lib.hid (Rtw.out.stays hb); have BX := Lib.hid (BX.out.stays hb); have HB := Lib.hid (bthen HB.out hb (Nat.le_refl _)); have hS := BX.out.cells; have HBB := Lib.hid hb; clear hb; have Rtz := Lib.hid (VecsAt.own hr11); clear hr11) | (go_simp; go_at_call 29; (with_reducible refine (rwithin_any _ _ _ xs v _ Rtz.out hxl').mono ?_); rintro e w12 ⟨v12, rfl, hr12, hb⟩; obtain ⟨Arw, crw, rfl, hcrw⟩ := ownsRow_slice hr12; have Rtw := Lib.hid (Rtw.out.stays hb); have BX := Lib.hid (BX.out.stays hb); have HB := Lib.hid (bthen HB.out hb (Nat.le_refl _)); have hS := BX.out.cells; have HBB := Lib.hid hb; clear hb; have Rrw := Lib.hid (VecsAt.own hr12); clear hr12) | (go_simp; go_at_call 18; (with_reducible refine (same_eq _ _ _ _ _ _ (withinV xs v) (withinV xs v) _ rfl Rtw.out Rrw.out hwl' hwl').mono ?_); rintro e w13 ⟨rfl, q13, rfl⟩; have hb := bdrewN (Below.refl w12.heap.size w12) q13; have BX := Lib.hid (BX.out.stays hb); have HB := Lib.hid (bthen HB.out hb (Nat.le_refl _)); have hS := BX.out.cells; have HBB := Lib.hid hb; clear hb) | (go_simp; go_at_call 13; (with_reducible refine (example_any _).mono ?_); rintro e w14 ⟨rfl, hb⟩; have BX := Lib.hid (BX.out.stays hb); have HB := Lib.hid (bthen HB.out hb (Nat.le_refl _)); have hS := BX.out.cells; have HBB := Lib.hid hb; clear hb)))
  go_wp2
  go_ret
  exact ⟨rfl, HB.out⟩
end Go.Proofs.Ytgcngipbjkmdoaa
