/-
  Insert, IsFront, below, Within.
-/
import Derived.Test.YtgcngipbjkmdoaaFront
import Derived.Deep.RegionHeld3
namespace Go.Proofs.Ytgcngipbjkmdoaa
open Go.RowKit
open Vec (V vi leV eqV domV ltV cmpV covV keepV lowV highV putV frontV mergeV withinV)

def InsAt (A : Option Addr) (n : Nat) (xs : List V) (W w : World) : Prop := VecsAt w A n xs ∧ Below W.heap.size W w
theorem ins_at {A : Option Addr} {n : Nat} {xs : List V} {v : V} {w0 : World} {t : TypeId} {W w : World} (hW : W = w0.alloc (.cells #[.int .i64 (vi v 0), .int .i64 (vi v 1), .int .i64 (vi v 2), .int .i64 (vi v 3)] t)) (hx : VecsAt w0 A n xs) (hb : Below W.heap.size W w) :
    w.cell? ⟨w0.heap.size, 0, none⟩ = some (.int .i64 (vi v 0)) ∧ w.cell? ⟨w0.heap.size, 1, none⟩ = some (.int .i64 (vi v 1)) ∧ w.cell? ⟨w0.heap.size, 2, none⟩ = some (.int .i64 (vi v 2)) ∧ w.cell? ⟨w0.heap.size, 3, none⟩ = some (.int .i64 (vi v 3)) ∧ InsAt A n xs W w := by
  subst hW
  have hs : w0.heap.size < (w0.alloc (.cells #[.int .i64 (vi v 0), .int .i64 (vi v 1), .int .i64 (vi v 2), .int .i64 (vi v 3)] t)).heap.size := by simp
  have f : ∀ j, j < 4 → w.cell? ⟨w0.heap.size, j, none⟩ = some (.int .i64 (vi v j)) := fun j hj => (hb.cell (p := ⟨w0.heap.size, j, none⟩) hs).trans (VBox.new w0 t v j hj)
  exact ⟨f 0 (by omega), f 1 (by omega), f 2 (by omega), f 3 (by omega), (hx.alloc _).stays hb, hb⟩

/-- what Insert leaves -/
def MadeIns (base : Nat) (w : World) (ty : TypeId) (ys : List V) (b : Bool) (e : Ending) (w' : World) : Prop :=
  ∃ v : Value, e = .returned (.tuple #[v, .bool b]) ∧ w'.ownsRow base ty 4 v ys.length (vcs ys) ∧ Below w.heap.size w w'

set_option maxHeartbeats 4000000 in
theorem insert_any (A : Option Addr) (n c : Nat) (xs : List V) (v : V) (w : World) (hx : VecsAt w A n xs) (hn : n ≤ 1000) :
    Calls Try.prog 15 #[.slice A n c, .agg #[.int .i64 (vi v 0), .int .i64 (vi v 1), .int .i64 (vi v 2), .int .i64 (vi v 3)]] w fun e w' => MadeIns w.heap.size w 23 (putV (frontV xs) v) (!covV xs v) e w' := by
  have H := Lib.hid hx
  clear hx
  go_enter Try.func15, Try.ntmps15
  go_wp2
  obtain ⟨W, hW⟩ : ∃ W, W = w.alloc (.cells #[.int .i64 (vi v 0), .int .i64 (vi v 1), .int .i64 (vi v 2), .int .i64 (vi v 3)] 23) := ⟨_, rfl⟩
  have HW := Lib.hid hW
  rw [← hW]
  clear hW
  obtain ⟨c0, c1, c2, c3, hi⟩ := ins_at HW.out H.out (Below.refl _ W)
  go_region_law (first | (go_simp; go_at_call 21; refine (front_any _ _ _ xs _ (hi.1.drewN 1) hn).mono ?_; rintro e w1 ⟨v1, rfl, hr1, hb1⟩; have hB1 : Below W.heap.size W w1 := bthen (w1 := W.drew) (Below.refl _ W).drew hb1 (Nat.le_refl _); obtain ⟨d0, d1, d2, d3, hi1⟩ := ins_at HW.out H.out hB1; have hr1' := ownsRow_base (b := W.heap.size) hr1 (Nat.le_refl _); obtain ⟨A2, c2, rfl, hc2⟩ := ownsRow_slice hr1) | (go_simp; go_at_call 31; refine (put_any W.heap.size _ _ _ (frontV xs) v _ hr1' hB1.size (Nat.le_trans (frontV_len xs) (by rw [H.out.1]; exact hn))).mono ?_; rintro e w2 ⟨v2, rfl, hr2, hb2⟩; have hB2 : Below W.heap.size W w2 := hB1.trans hb2; obtain ⟨e0, e1, e2, e3, hi2⟩ := ins_at HW.out H.out hB2) | (go_simp; go_at_call 19; refine (covers_any _ _ _ xs v _ hi2.1 hn).mono ?_; rintro e w3 ⟨rfl, hb3⟩; have hr3 := ownsRow_stays hr2 hb3; have hB3 : Below W.heap.size W w3 := bthen hB2 hb3 (Nat.le_refl _)))
  all_goals clear c0 c1 c3 d0 d1 d2 d3 e0 e1 e2 e3 hr1 hr1' hr2 hb1 hb2 hb3 hB1 hB2
  all_goals go_wp2
  all_goals go_ret2
  all_goals exact ⟨v2, rfl, ownsRow_base hr3 (by rw [HW.out]; simp), bthen (by rw [HW.out]; exact balloc (Below.refl _ w) _ (Nat.le_refl _)) hB3 (Nat.le_refl _)⟩

set_option maxHeartbeats 1000000 in
theorem isfront_any (A : Option Addr) (n c : Nat) (xs : List V) (w : World) (hx : VecsAt w A n xs) (hn : n ≤ 1000) :
    Calls Try.prog 24 #[.slice A n c] w fun e w' => e = .returned (.bool (Vec.sameV (frontV xs) xs)) ∧ Below w.heap.size w w' := by
  have H := Lib.hid hx
  go_enter Try.func24, Try.ntmps24
  go_wp2_with fail
  refine (front_any _ _ _ xs _ H.out hn).mono ?_
  rintro e w1 ⟨v1, rfl, hr1, hb1⟩
  have HL := Lib.hid (frontV_len xs)
  obtain ⟨fs, hfs⟩ : ∃ fs, fs = frontV xs := ⟨_, rfl⟩
  rw [← hfs] at hr1 HL
  have HFS := Lib.hid hfs
  clear hfs
  obtain ⟨A2, c2, rfl, hc2⟩ := ownsRow_slice hr1
  have hf := VecsAt.own hr1
  have hx1 := hx.stays hb1
  obtain ⟨m, hm⟩ : ∃ m, m = fs.length := ⟨_, rfl⟩
  rw [← hm] at hf hc2
  rw [← hm]
  clear hm
  have HF := Lib.hid hf
  have HX := Lib.hid hx1
  clear hx hr1 hf hx1
  by_cases hmn : m = n
  · subst hmn
    have hd : ¬ ((m : Int) ≠ (m : Int)) := by simp
    go_wp2
    go_loopw [15] (fun i wr => ∃ k : Nat, k ≤ m ∧ i = .int .i64 k ∧ Hid (∀ j, j < k → gv fs j = gv xs j) ∧ Below w.heap.size w wr ∧ Below w1.heap.size w1 wr) (fun i _ => m - (intOf i).toNat)
    case atStart => exact ⟨0, by omega, rfl, Lib.hid (fun j h => absurd h (by omega)), hb1, Below.refl _ _⟩
    case round =>
      obtain ⟨k, hk, rfl, HE, hbel, hbr⟩ := hrel
      by_cases hlt : k < m
      · have k0 : (0 : Int) ≤ (k : Int) := by omega
        have kn : (k : Int) < (m : Int) := by omega
        obtain ⟨b, o, rfl, c0, c1, c2, c3⟩ := (HF.out.stays hbr).at_ hlt
        obtain ⟨b', o', rfl, d0, d1, d2, d3⟩ := (HX.out.stays hbr).at_ hlt
        have hne := fun w => neV_run (gv fs k) (gv xs k) w
        have hq := cell?_block_lt d0
        have hal : Below w.heap.size w (wr.alloc (.cells #[.int .i64 (vi (gv fs k) 0), .int .i64 (vi (gv fs k) 1), .int .i64 (vi (gv fs k) 2), .int .i64 (vi (gv fs k) 3)] 23)) := balloc hbel _ (Nat.le_refl _)
        have har : Below w1.heap.size w1 (wr.alloc (.cells #[.int .i64 (vi (gv fs k) 0), .int .i64 (vi (gv fs k) 1), .int .i64 (vi (gv fs k) 2), .int .i64 (vi (gv fs k) 3)] 23)) := balloc hbr _ (Nat.le_refl _)
        cases he : eqV (gv fs k) (gv xs k)
        · have HE2 : Hid (gv fs k ≠ gv xs k) := Lib.hid (by simpa [eqV] using he)
          go_wp2
          go_quiet (fail)
          go_wp2
          go_ret
          exact ⟨ret_bool (by rw [← HFS.out]; exact (sameV_at HE2.out).symm), bdrewN hal _⟩
        · have HE2 : Hid (gv fs k = gv xs k) := Lib.hid (by simpa [eqV] using he)
          go_wp2
          go_quiet (fail)
          go_wp2
          go_roundw
          case rel => exact ⟨k + 1, by omega, by go_num, Lib.hid (fun i hi => by
            by_cases e : i = k
            · subst e; exact HE2.out
            · exact HE.out i (by omega)), bdrewN hal _, bdrewN har _⟩
          case measure => simp [intOf]; omega
      · obtain rfl : k = m := by omega
        have hd : ¬ ((k : Int) < (k : Int)) := by omega
        go_wp2
        go_ret
        exact ⟨ret_bool (by rw [← HFS.out]; exact (sameV_all (by rw [HF.out.1, HX.out.1]) (fun i hi => HE.out i (by rw [HF.out.1] at hi; exact hi))).symm), hbel⟩
  · have hne : ((m : Int) != (n : Int)) = true := by rw [bne_iff_ne]; omega
    go_wp2
    go_ret
    exact ⟨ret_bool (by rw [← HFS.out]; exact (sameV_len (by rw [HF.out.1, HX.out.1]; exact hmn)).symm), hb1⟩
end Go.Proofs.Ytgcngipbjkmdoaa
