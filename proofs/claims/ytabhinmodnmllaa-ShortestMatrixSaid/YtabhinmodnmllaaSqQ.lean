/-
  The law ShortestMatrix: the walk. Printed by gen/sp15.py.
-/
import Derived.Test.YtabhinmodnmllaaSqO
import Derived.Test.YtabhinmodnmllaaSqP
import Derived.BigQuiet
namespace Go.Proofs.Ytabhinmodnmllaa
open Go.RowKit

theorem hdr_at {w : World} {A : Option Addr} {N k : Nat} {hs : List Hdr} (h : SAt hdrC w A N hs) (hk : k < N) : ∃ b o, A = some ⟨b, o, none⟩ ∧ ∀ k, k < N → w.cell? ⟨b, o + k, none⟩ = some (.slice (gh hs k).A (gh hs k).n (gh hs k).c) := by
  obtain ⟨b, o, hA, _⟩ := h.at_ hk
  subst hA
  refine ⟨b, o, rfl, fun k hk => ?_⟩
  have := h.cells hk 0 _ rfl
  simpa [hdrC, Codec.g, gh] using this

set_option maxRecDepth 100000 in
set_option maxHeartbeats 2000000 in
theorem matrix_walk (n : Int) (A : Option Addr) (m c : Nat) (l : List Edge) (w : World) (hx : SAt edgeC w A m l) (_ : True) : Calls Try.prog 7 #[.int .i64 n, .slice A m c] w fun e w' => e = .returned (.bool true) ∧ Below w.heap.size w w' := by
  have HX := Lib.hid hx
  have HM := Lib.hid hx.1
  clear hx
  cases hlg : largeB n m
  · obtain ⟨hm1, hm2⟩ := large_no hlg
    have HLG := Lib.hid hlg
    clear hlg
    go_enter Try.func7, Try.ntmps7
    go_wp2_with fail
    refine (large_any n A m c w).mono ?_
    rintro e w0 ⟨rfl, rfl⟩
    rw [HLG.out]
    go_wp2_with fail
    refine (to_any A m c l w HX.out (by omega)).mono ?_
    rintro e w1 ⟨v1, rfl, ho1, hb1⟩
    obtain ⟨A1, c1, rfl, _⟩ := ownsRow_slice ho1
    have HL1 := Lib.hid (SAt.own ho1 (by decide))
    rw [HM.out] at HL1
    rw [HM.out]
    have HX1 := Lib.hid (HX.out.stays hb1)
    have HB1 := Lib.hid hb1
    clear ho1 hb1
    go_wp2_with fail
    refine (all_any A1 n m c1 l w1 HL1.out hm2).mono ?_
    rintro e w2 h2
    have hb2 := h2.2.2
    have HX2 := Lib.hid (HX1.out.stays hb2)
    have HB2 := Lib.hid (bthen HB1.out hb2 (Nat.le_refl _))
    clear hb2
    obtain ⟨r, hr⟩ : ∃ r, checkI n l = r := ⟨_, rfl⟩
    by_cases hr0 : r = 0
    · subst hr0
      have hc := checkI_good hr
      obtain ⟨N, rfl⟩ : ∃ N : Nat, n = (N : Int) := ⟨n.toNat, by omega⟩
      have hN : N ≤ 64 := by omega
      obtain ⟨A2, c2, hs2, he2, hS2, hR2⟩ := h2.2.1 hr
      rw [Int.toNat_natCast] at he2 hS2 hR2
      subst he2
      have HS2 := Lib.hid hS2
      have HR2 := Lib.hid hR2
      have HRR := Lib.hid hr
      clear hc h2 hS2 hR2 hr
      go_wp2_with fail
      refine (rall_any A (N : Int) m c l w2 HX2.out hm2).mono ?_
      rintro e w3 h3
      have hb3 := h3.2.2
      obtain ⟨A3, c3, hs3, he3, hS3, hR3⟩ := h3.2.1 HRR.out
      rw [Int.toNat_natCast] at he3 hS3 hR3
      subst he3
      have HS3 := Lib.hid hS3
      have HR3 := Lib.hid hR3
      have HS2 := Lib.hid (HS2.out.stays hb3)
      have HR2 := Lib.hid (fun j hj => And.intro (HR2.out j hj).1 ((HR2.out j hj).2.stays hb3))
      have HB3 := Lib.hid (bthen HB2.out hb3 (Nat.le_refl _))
      have HDL := Lib.hid (fun j => distL_len l N j)
      clear h3 hS3 hR3 hb3
      go_wp2
      go_loopw [9] (fun i wb => ∃ k : Nat, k ≤ N ∧ i = .int .i64 k ∧ Hid (Below w3.heap.size w3 wb)) (fun i _ => N - (intOf i).toNat)
      case atStart => exact ⟨0, by omega, rfl, Lib.hid (Below.refl _ _)⟩
      case round =>
        obtain ⟨k, hkn, rfl, HB⟩ := hrel
        have k0 : (0 : Int) ≤ (k : Int) := by omega
        by_cases hlt : k < N
        · have hlt' : (k : Int) < (N : Int) := by omega
          obtain ⟨b2, o2, hA2, hc2⟩ := hdr_at (HS2.out.stays HB.out) hlt
          obtain ⟨b3, o3, hA3, hc3⟩ := hdr_at (HS3.out.stays HB.out) hlt
          subst hA2 hA3
          have q2 := hc2 k hlt
          have q3 := hc3 k hlt
          obtain ⟨g2, i2⟩ := HR2.out k hlt
          obtain ⟨g3, i3⟩ := HR3.out k hlt
          rw [g2] at q2
          rw [g3] at q3
          replace i2 := i2.stays HB.out
          replace i3 := i3.stays HB.out
          obtain ⟨R2, hR2⟩ : ∃ R, R = (gh hs2 k).A := ⟨_, rfl⟩
          obtain ⟨R3, hR3⟩ : ∃ R, R = (gh hs3 k).A := ⟨_, rfl⟩
          obtain ⟨C2, hC2⟩ : ∃ R, R = (gh hs2 k).c := ⟨_, rfl⟩
          obtain ⟨C3, hC3⟩ : ∃ R, R = (gh hs3 k).c := ⟨_, rfl⟩
          rw [← hR2, ← hC2] at q2
          rw [← hR3, ← hC3] at q3
          rw [← hR2] at i2
          rw [← hR3] at i3
          clear hc2 hc3 g2 g3 hR2 hR3 hC2 hC3
          have HSAME := Lib.hid (fun q => Calls.quiet_of (n := q) (w := wr) (same_self R2 R3 N N C2 C3 (distL l N k) (wr.drewN q) (i2.drewN q) (i3.drewN q) (by omega)))
          clear i2 i3
          go_wp2
          go_quiet ((with_reducible exact HSAME.out _))
          go_wp2
          go_roundw
          case rel => exact ⟨k + 1, by omega, by go_num, Lib.hid (bdrewN HB.out _)⟩
          case measure => simp [intOf]; omega
        · obtain rfl : k = N := by omega
          have hd0 : ¬ ((k : Int) < (k : Int)) := by omega
          go_wp2_with fail
          refine (ex_any _).mono ?_
          rintro e w9 ⟨rfl, hb9⟩
          have HB9 := Lib.hid (bthen HB3.out (bthen HB.out hb9 (Nat.le_refl _)) (Nat.le_refl _))
          clear hb9
          go_wp2
          go_ret
          exact ⟨rfl, HB9.out⟩
    · have he2 := h2.1 (by rw [hr]; exact hr0)
      rw [hr] at he2
      subst he2
      have HRR := Lib.hid hr
      clear h2 hr
      go_wp2_with fail
      refine (rall_any A n m c l w2 HX2.out hm2).mono ?_
      rintro e w3 h3
      have hb3 := h3.2.2
      have he3 := h3.1 (by rw [HRR.out]; exact hr0)
      rw [HRR.out] at he3
      subst he3
      have HB3 := Lib.hid (bthen HB2.out hb3 (Nat.le_refl _))
      clear h3 hb3
      go_wp2
      go_loopw [9] (fun i wb => i = .int .i64 0 ∧ wb = w3) (fun i _ => 0)
      case atStart => exact ⟨rfl, rfl⟩
      case round =>
        obtain ⟨rfl, rfl⟩ := hrel
        go_wp2_with fail
        refine (ex_any _).mono ?_
        rintro e w9 ⟨rfl, hb9⟩
        have HB9 := Lib.hid (bthen HB3.out hb9 (Nat.le_refl _))
        clear hb9
        go_wp2
        go_ret
        exact ⟨rfl, HB9.out⟩
  · have HLG := Lib.hid hlg
    clear hlg
    go_enter Try.func7, Try.ntmps7
    go_wp2_with fail
    refine (large_any n A m c w).mono ?_
    rintro e w0 ⟨rfl, rfl⟩
    rw [HLG.out]
    go_wp2_with fail
    refine (ex_any _).mono ?_
    rintro e w9 ⟨rfl, hb9⟩
    have HB9 := Lib.hid (hb9)
    clear hb9
    go_wp2
    go_ret
    exact ⟨rfl, HB9.out⟩
end Go.Proofs.Ytabhinmodnmllaa
