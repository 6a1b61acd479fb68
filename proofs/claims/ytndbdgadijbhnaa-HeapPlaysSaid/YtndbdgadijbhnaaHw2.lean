/-
  The walks of HeapDrains, HeapPops and HeapKeeps. Printed by gen/hpw2.py.
-/
import Derived.Test.YtndbdgadijbhnaaHw1
namespace Go.Proofs.Ytndbdgadijbhnaa
open Go.RowKit

theorem holds_push {lt : Pair → Pair → Bool} {f : Pair → Int} (hk : Keyed lt f) {xs : List Pair} {n : Nat} (hn : xs.length = n) : ∀ k, k ≤ n → Holds lt (pushTo lt xs k) (xs.take k) k := by
  intro k
  induction k with
  | zero => intro _; exact Holds.nil lt 0
  | succ k ih =>
    intro h
    rw [pushTo, pairC.g_take (by omega)]
    exact (ih (by omega)).push hk (gp xs k)
theorem holds_all {lt : Pair → Pair → Bool} {f : Pair → Int} (hk : Keyed lt f) {xs : List Pair} {n : Nat} (hn : xs.length = n) : Holds lt (pushTo lt xs n) xs n := by
  have := holds_push hk hn n (Nat.le_refl _)
  rwa [List.take_of_length_le (by omega)] at this

set_option maxRecDepth 100000 in
set_option maxHeartbeats 4000000 in
theorem drains_walk (m : Int) (A : Option Addr) (n c : Nat) (xs : List Pair) (w : World) (_h : I64 m) (hx : SAt pairC w A n xs) (_g : True) (hc : n ≤ c) :
    Calls Try.prog 5 #[.int .i64 m, .slice A n c] w fun e w' => e = .returned (.bool true) ∧ Below w.heap.size w w' := by
  have HX := Lib.hid hx
  clear hx
  by_cases hm0 : m < 0
  · go_enter Try.func5, Try.ntmps5
    go_wp2_with fail
    refine (made_any m _).mono ?_
    rintro e w1 ⟨K, hK, rfl, hh1, hb1⟩
    have HB1 := Lib.hid hb1
    clear hK hh1 hb1
    go_wp2_with fail
    refine (example_any _).mono ?_
    rintro e w2 ⟨rfl, hb2⟩
    have HB2 := Lib.hid (bthen HB1.out hb2 (Nat.le_refl _))
    clear hb2
    go_wp2
    go_ret
    exact ⟨rfl, HB2.out⟩
  by_cases hm2 : 2 < m
  · go_enter Try.func5, Try.ntmps5
    go_wp2_with fail
    refine (made_any m _).mono ?_
    rintro e w1 ⟨K, hK, rfl, hh1, hb1⟩
    have HB1 := Lib.hid hb1
    clear hK hh1 hb1
    go_wp2_with fail
    refine (example_any _).mono ?_
    rintro e w2 ⟨rfl, hb2⟩
    have HB2 := Lib.hid (bthen HB1.out hb2 (Nat.le_refl _))
    clear hb2
    go_wp2
    go_ret
    exact ⟨rfl, HB2.out⟩
  by_cases h200 : (200 : Int) < (n : Int)
  · go_enter Try.func5, Try.ntmps5
    go_wp2_with fail
    refine (made_any m _).mono ?_
    rintro e w1 ⟨K, hK, rfl, hh1, hb1⟩
    have HB1 := Lib.hid hb1
    clear hK hh1 hb1
    go_wp2_with fail
    refine (example_any _).mono ?_
    rintro e w2 ⟨rfl, hb2⟩
    have HB2 := Lib.hid (bthen HB1.out hb2 (Nat.le_refl _))
    clear hb2
    go_wp2
    go_ret
    exact ⟨rfl, HB2.out⟩
  have hn200 : n ≤ 200 := by omega
  obtain ⟨f, hf⟩ := keyed_any (m := m) (by omega) (by omega)
  have HF := Lib.hid hf
  clear hf
  go_enter Try.func5, Try.ntmps5
  go_wp2_with fail
  refine (made_any m _).mono ?_
  rintro e w1 ⟨K, hK, rfl, hh1, hb1⟩
  have HK := Lib.hid hK
  have HH1 := Lib.hid hh1
  have HB1 := Lib.hid hb1
  clear hK hh1 hb1
  go_wp2
  go_loopw [28] (fun i wr => ∃ (k : Nat) (v : Value), k ≤ n ∧ i = .int .i64 k ∧ Hid (HeapAt wr w.heap.size w.heap.size K v (pushTo (ltP m) xs k) (k : Nat)) ∧ Hid (Below w.heap.size w wr)) (fun i _ => n - (intOf i).toNat)
  case atStart => exact ⟨0, _, by omega, rfl, HH1, HB1⟩
  case round =>
    obtain ⟨k, v, hkn, rfl, HH, HB⟩ := hrel
    have k0 : (0 : Int) ≤ (k : Int) := by omega
    by_cases hlt : k < n
    · have hlt' : (k : Int) < (n : Int) := by omega
      obtain ⟨b, o, hA, _⟩ := HX.out.at_ hlt
      subst hA
      obtain ⟨c0, c1⟩ := pair_cells (HX.out.stays HB.out) hlt
      have HPL := Lib.hid (pushTo_len (ltP m) xs k)
      obtain ⟨W, hW⟩ : ∃ W, W = wr.alloc (.cells #[.int .i64 (gp xs k).key, .int .i64 (gp xs k).mark] 28) := ⟨_, rfl⟩
      have hbW : Below wr.heap.size wr W := by rw [hW]; exact al1 _ _
      have HHW := Lib.hid (HH.out.stays hbW)
      have HBW := Lib.hid (bthen HB.out hbW (Nat.le_refl _))
      have HXW : Hid (Box2 W wr.heap.size (gp xs k)) := Lib.hid (by rw [hW]; exact Box2.new wr _ _ _ rfl)
      clear c0 c1 hbW
      obtain ⟨c0, c1⟩ := pair_cells (HX.out.stays HB.out) hlt
      go_upto_region 7 with fail
      rw [← hW]
      clear hW c0 c1
      obtain ⟨x0, x1, _, _⟩ := HXW.out
      go_wp2_with fail
      refine (push_any K (ltP m) HK.out _ _ v _ k (gp xs k) _ HHW.out k HPL.out (by omega) (by omega)).mono ?_
      rintro e w3 ⟨rfl, v3, hh3, _, ha3⟩
      have HB3 := Lib.hid (HBW.out.trans (HHW.out.below HBW.out.size ha3))
      have HH3 := Lib.hid hh3
      clear hh3 ha3 x0 x1
      go_wp2
      go_roundw
      case rel => exact ⟨k + 1, v3, by omega, by go_num, HH3, HB3⟩
      case measure => simp [intOf]; omega
    · obtain rfl : k = n := by omega
      have hd : ¬ ((k : Int) < (k : Int)) := by omega
      have HPL := Lib.hid (pushTo_len (ltP m) xs k)
      have HHOLD := Lib.hid (holds_all HF.out HX.out.1)
      have HD := Lib.hid (HHOLD.out.msort HF.out HX.out.1)
      have hdr := fun u (hu : HeapAt u w.heap.size w.heap.size K v (pushTo (ltP m) xs k) (k : Nat)) => drain_any K (ltP m) HK.out _ _ v _ _ u hu k HPL.out (by omega)
      rw [HD.out] at hdr
      have HDR := Lib.hid hdr
      clear hdr
      obtain ⟨D, hD⟩ : ∃ D, D = msortL (ltP m) k xs := ⟨_, rfl⟩
      rw [← hD] at HDR
      have hso := fun A u (hu : SAt pairC u A k xs) => sorted_any m A c k xs u hu hc (by omega)
      rw [← hD] at hso
      have HSO := Lib.hid hso
      have HDL : Hid (D.length = k) := Lib.hid (by rw [hD, msortL_len, HX.out.1])
      clear hso hD HD HHOLD
      go_wp2_with fail
      refine (HDR.out _ HH.out).mono ?_
      rintro e w6 ⟨vo, v6, rfl, hro, hh6, hv6, ha6⟩
      obtain ⟨Ao, co, hvo, _⟩ := ownsRow_slice hro
      subst hvo
      have HO6 := Lib.hid (SAt.own hro (by decide))
      have HH6 := Lib.hid hh6
      have HB6 := Lib.hid (HB.out.trans (HH.out.below HB.out.size ha6))
      clear hro hh6 hv6 ha6
      go_wp2_with fail
      refine (HSO.out _ _ (HX.out.stays HB6.out)).mono ?_
      rintro e w8 ⟨vs, rfl, hrs, hb8⟩
      rw [HDL.out] at hrs
      obtain ⟨As, cs, hvs, _⟩ := ownsRow_slice hrs
      subst hvs
      have HS8 := Lib.hid (SAt.own hrs (by decide))
      have HO8 := Lib.hid (HO6.out.stays hb8)
      have HH8 := Lib.hid (HH6.out.stays hb8)
      have HB8 := Lib.hid (bthen HB6.out hb8 (Nat.le_refl _))
      clear hrs hb8
      go_wp2_with fail
      refine (same_yes Ao As k k co cs D _ HO8.out HS8.out (by omega)).mono ?_
      rintro e w' ⟨rfl, q, rfl⟩
      obtain ⟨W9, hW9⟩ : ∃ W9, W9 = w8.drewN q := ⟨_, rfl⟩
      have HH9 : Hid (HeapAt W9 w.heap.size w.heap.size K v6 [] (k : Nat)) := Lib.hid (by rw [hW9]; exact HH8.out.drewN q)
      have HB9 : Hid (Below w.heap.size w W9) := Lib.hid (by rw [hW9]; exact bdrewN HB8.out q)
      rw [← hW9]
      clear hW9
      go_wp2_with fail
      refine (len_any K _ _ v6 _ _ _ HH9.out 0 rfl).mono ?_
      rintro e w' ⟨rfl, rfl⟩
      go_wp2_with fail
      refine (example_any _).mono ?_
      rintro e w10 ⟨rfl, hb10⟩
      have HB10 := Lib.hid (bthen HB9.out hb10 (Nat.le_refl _))
      clear hb10
      go_wp2
      go_ret
      exact ⟨rfl, HB10.out⟩
end Go.Proofs.Ytndbdgadijbhnaa
