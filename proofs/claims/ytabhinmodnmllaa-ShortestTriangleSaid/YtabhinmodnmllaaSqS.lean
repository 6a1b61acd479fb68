/-
  The law ShortestTriangle: the walk. Printed by gen/sp15.py.
-/
import Derived.Test.YtabhinmodnmllaaSqN
import Derived.Test.YtabhinmodnmllaaSqP
import Derived.Test.YtabhinmodnmllaaSqR
import Derived.BigQuiet
namespace Go.Proofs.Ytabhinmodnmllaa
open Go.RowKit

/-- the matrix of distances in memory -/
def Mat (w : World) (b o N : Nat) (l : List Edge) : Prop := ∀ i, i < N → ∃ ad c, w.cell? ⟨b, o + i, none⟩ = some (.slice (some ad) N c) ∧ ∀ k, k < N → w.cell? (ad.add k) = some (.int .i64 (gi (distL l N i) k))
theorem Mat.stays {w w' : World} {b o N : Nat} {l : List Edge} (h : Mat w b o N l) (hb : Below w.heap.size w w') : Mat w' b o N l := fun i hi => by
  obtain ⟨ad, c, h1, h2⟩ := h i hi
  exact ⟨ad, c, (World.cell?_of_block (a := ⟨b, o + i, none⟩) (hb.block b (cell?_block_lt h1))).trans h1, fun k hk => (World.cell?_of_block (a := ad.add k) (hb.block _ (cell?_block_lt (h2 k hk)))).trans (h2 k hk)⟩
theorem mat_of {w : World} {A : Option Addr} {N : Nat} {l : List Edge} {hs : List Hdr} (h : SAt hdrC w A N hs) (hr : ∀ j, j < N → (gh hs j).n = N ∧ IntsAt w (gh hs j).A N (distL l N j)) (h0 : 0 < N) : ∃ b o, A = some ⟨b, o, none⟩ ∧ Mat w b o N l := by
  obtain ⟨b, o, hA, _⟩ := h.at_ h0
  subst hA
  refine ⟨b, o, rfl, fun i hi => ?_⟩
  have h1 := h.cells hi 0 _ rfl
  obtain ⟨h2, h3⟩ := hr i hi
  obtain ⟨ad, h4, _⟩ := h3.2 0 h0
  refine ⟨ad, (gh hs i).c, ?_, fun k hk => ?_⟩
  · have h5 : w.cell? ⟨b, o + i, none⟩ = some (.slice (gh hs i).A (gh hs i).n (gh hs i).c) := by simpa [hdrC, Codec.g, gh] using h1
    rw [h5, h2, h4]
  · obtain ⟨ad2, h6, h7⟩ := h3.2 k hk
    rw [h4] at h6
    injection h6 with h6
    subst h6
    exact h7

set_option maxRecDepth 100000 in
set_option maxHeartbeats 8000000 in
theorem triangle_walk (n : Int) (A : Option Addr) (m c : Nat) (l : List Edge) (w : World) (hx : SAt edgeC w A m l) (_ : True) : Calls Try.prog 8 #[.int .i64 n, .slice A m c] w fun e w' => e = .returned (.bool true) ∧ Below w.heap.size w w' := by
  have HX := Lib.hid hx
  have HM := Lib.hid hx.1
  clear hx
  have m0 : (0 : Int) ≤ (m : Int) := by omega
  by_cases hm : (400 : Int) < (m : Int)
  · have hm' : 400 < m := by omega
    go_enter Try.func8, Try.ntmps8
    go_wp2_with fail
    refine (ex_any _).mono ?_
    rintro e w9 ⟨rfl, hb9⟩
    have HB9 := Lib.hid (hb9)
    clear hb9
    go_wp2
    go_ret
    exact ⟨rfl, HB9.out⟩
  · have hm' : m ≤ 400 := by omega
    have hm'' : (m : Int) ≤ 400 := by omega
    have hmn : ¬ 400 < m := by omega
    go_enter Try.func8, Try.ntmps8
    go_wp2_with fail
    refine (rcheck_any n A m c l w HX.out).mono ?_
    rintro e w0 ⟨rfl, rfl⟩
    obtain ⟨r, hr⟩ : ∃ r, checkI n l = r := ⟨_, rfl⟩
    rw [hr]
    by_cases hr0 : r = 0
    · subst hr0
      have hc := checkI_good hr
      obtain ⟨N, rfl⟩ : ∃ N : Nat, n = (N : Int) := ⟨n.toNat, by omega⟩
      have hN : N ≤ 64 := by omega
      have HGD := Lib.hid hc.2.2.2
      have HRR := Lib.hid hr
      clear hc hr
      go_wp2_with fail
      refine (to_any A m c l w HX.out (by omega)).mono ?_
      rintro e w1 ⟨v1, rfl, ho1, hb1⟩
      obtain ⟨A1, c1, rfl, _⟩ := ownsRow_slice ho1
      have HL1 := Lib.hid (SAt.own ho1 (by decide))
      rw [HM.out] at HL1
      rw [HM.out]
      have HX1 := Lib.hid (HX.out.stays hb1)
      have HB1 := Lib.hid hb1
      clear ho1 hb1
      go_wp2_with fail
      refine (all_any A1 (N : Int) m c1 l w1 HL1.out (.inl (by omega))).mono ?_
      rintro e w2 h2
      have hb2 := h2.2.2
      have HX2 := Lib.hid (HX1.out.stays hb2)
      have HB2 := Lib.hid (bthen HB1.out hb2 (Nat.le_refl _))
      obtain ⟨A2, c2, hs2, he2, hS2, hR2⟩ := h2.2.1 HRR.out
      rw [Int.toNat_natCast] at he2 hS2 hR2
      subst he2
      have HMT := Lib.hid (fun h => mat_of hS2 hR2 h)
      have HSELF := Lib.hid (fun i hi => tri_self hN HGD.out (i := i) hi)
      have HEDGE := Lib.hid (fun s d wt hy hs hd => tri_edge hN HGD.out (s := s) (d := d) (wt := wt) hy hs hd)
      have HSUM := Lib.hid (fun i k j hi hk hj h1 h2 => tri_sum hN HGD.out (i := i) (k := k) (m := j) hi hk hj h1 h2)
      have HLOW := Lib.hid (fun i k hi hk => dist_low HGD.out (show l.length ≤ 500 by rw [HM.out]; omega) (i := i) (k := k) hi hk)
      have HHIGH := Lib.hid (fun i k hi hk => dist_high hN HGD.out (i := i) (k := k) hi hk)
      clear h2 hb2 hS2 hR2 HB1 HX1 HL1
      go_wp2
      go_loopw [7] (fun i wb => ∃ k : Nat, k ≤ N ∧ i = .int .i64 k ∧ Hid (Below w2.heap.size w2 wb)) (fun i _ => N - (intOf i).toNat)
      case atStart => exact ⟨0, by omega, rfl, Lib.hid (Below.refl _ _)⟩
      case round =>
        obtain ⟨k, hkn, rfl, HB⟩ := hrel
        have k0 : (0 : Int) ≤ (k : Int) := by omega
        by_cases hlt : k < N
        · have hlt' : (k : Int) < (N : Int) := by omega
          obtain ⟨b, o, hA, hMt⟩ := HMT.out (by omega)
          subst hA
          obtain ⟨ad, cc, q1, q2⟩ := (hMt.stays HB.out) k hlt
          have q3 := q2 k hlt
          rw [HSELF.out k hlt] at q3
          clear hMt q2
          go_wp2
          go_roundw
          case rel => exact ⟨k + 1, by omega, by go_num, HB⟩
          case measure => simp [intOf]; omega
        · obtain rfl : k = N := by omega
          have hd0 : ¬ ((k : Int) < (k : Int)) := by omega
          go_wp2
          go_loopw [8] (fun i wb => ∃ p : Nat, p ≤ m ∧ i = .int .i64 p ∧ Hid (Below w2.heap.size w2 wb)) (fun i _ => m - (intOf i).toNat)
          case atStart => exact ⟨0, by omega, rfl, HB⟩
          case round =>
            clear HB
            obtain ⟨p, hpm, rfl, HB⟩ := hrel
            have p0 : (0 : Int) ≤ (p : Int) := by omega
            by_cases hlp : p < m
            · have hlp' : (p : Int) < (m : Int) := by omega
              obtain ⟨ab, ao, hA, _⟩ := HX.out.at_ hlp
              subst hA
              obtain ⟨e0, e1, e2⟩ := edge_cells (HX2.out.stays HB.out) hlp
              have hpl : p < l.length := by rw [HM.out]; exact hlp
              have hyl := ge_mem hpl
              obtain ⟨s, d, hy, hs1, hd1, hw0, hw1⟩ := good_nat (HGD.out _ hyl)
              obtain ⟨wt, hwt⟩ : ∃ wt, wt = (ge l p).wt := ⟨_, rfl⟩
              rw [← hwt] at hy hw0 hw1
              rw [hy] at hyl e0 e1 e2
              obtain ⟨b, o, hA2, hMt⟩ := HMT.out (by omega)
              subst hA2
              obtain ⟨ad, cc, q1, q2⟩ := (hMt.stays HB.out) s hs1
              have q3 := q2 d hd1
              have hed := HEDGE.out s d wt hyl hs1 hd1
              have s0 : (0 : Int) ≤ (s : Int) := by omega
              have s1 : (s : Int) < (k : Int) := by omega
              have d0 : (0 : Int) ≤ (d : Int) := by omega
              have d1 : (d : Int) < (k : Int) := by omega
              obtain ⟨x, hx⟩ : ∃ x, x = gi (distL l k s) d := ⟨_, rfl⟩
              rw [← hx] at q3 hed
              obtain ⟨x0, x1⟩ := hed
              have x2 : ¬ x < 0 := by omega
              have x3 : ¬ wt < x := by omega
              clear hMt q2 hyl hy hwt hx
              go_wp2
              go_quiet (fail)
              go_wp2
              go_roundw
              case rel => exact ⟨p + 1, by omega, by go_num, Lib.hid (bdrewN HB.out _)⟩
              case measure => simp [intOf]; omega
            · obtain rfl : p = m := by omega
              have hdp : ¬ ((p : Int) < (p : Int)) := by omega
              go_wp2
              go_loopw [10] (fun i wb => ∃ a : Nat, a ≤ k ∧ i = .int .i64 a ∧ Hid (Below w2.heap.size w2 wb)) (fun i _ => k - (intOf i).toNat)
              case atStart => exact ⟨0, by omega, rfl, HB⟩
              case round =>
                clear HB
                obtain ⟨a, han, rfl, HB⟩ := hrel
                have a0 : (0 : Int) ≤ (a : Int) := by omega
                by_cases hla : a < k
                · have hla' : (a : Int) < (k : Int) := by omega
                  go_wp2
                  go_loopw [11] (fun i wb => ∃ g : Nat, g ≤ k ∧ i = .int .i64 g ∧ Hid (Below w2.heap.size w2 wb)) (fun i _ => k - (intOf i).toNat)
                  case atStart => exact ⟨0, by omega, rfl, HB⟩
                  case round =>
                    clear HB
                    obtain ⟨g, hgn, rfl, HB⟩ := hrel
                    have g0 : (0 : Int) ≤ (g : Int) := by omega
                    by_cases hlg : g < k
                    · have hlg' : (g : Int) < (k : Int) := by omega
                      go_wp2
                      go_loopw [12] (fun i wb => ∃ h : Nat, h ≤ k ∧ i = .int .i64 h ∧ Hid (Below w2.heap.size w2 wb)) (fun i _ => k - (intOf i).toNat)
                      case atStart => exact ⟨0, by omega, rfl, HB⟩
                      case round =>
                        clear HB
                        obtain ⟨h, hhn, rfl, HB⟩ := hrel
                        have h0 : (0 : Int) ≤ (h : Int) := by omega
                        by_cases hlh : h < k
                        · have hlh' : (h : Int) < (k : Int) := by omega
                          obtain ⟨b, o, hA2, hMt⟩ := HMT.out (by omega)
                          subst hA2
                          have hMw := hMt.stays HB.out
                          obtain ⟨ad1, cc1, q1, r1⟩ := hMw a hla
                          obtain ⟨ad2, cc2, q2, r2⟩ := hMw g hlg
                          have t1 := r1 g hlg
                          have t2 := r2 h hlh
                          have t3 := r1 h hlh
                          have l1 := HLOW.out a g hla hlg
                          have l2 := HLOW.out g h hlg hlh
                          have l3 := HLOW.out a h hla hlh
                          have u1 := HHIGH.out a g hla hlg
                          have u2 := HHIGH.out g h hlg hlh
                          have u3 := HHIGH.out a h hla hlh
                          have hsum := HSUM.out a g h hla hlg hlh
                          obtain ⟨x, hx⟩ : ∃ x, x = gi (distL l k a) g := ⟨_, rfl⟩
                          obtain ⟨y, hy⟩ : ∃ x, x = gi (distL l k g) h := ⟨_, rfl⟩
                          obtain ⟨z, hz⟩ : ∃ x, x = gi (distL l k a) h := ⟨_, rfl⟩
                          rw [← hx] at t1 l1 u1 hsum
                          rw [← hy] at t2 l2 u2 hsum
                          rw [← hz] at t3 l3 u3 hsum
                          clear hMt hMw r1 r2 hx hy hz
                          have hw : IntKind.i64.wrap (x + y) = x + y := wrapB (by omega) (by omega)
                          by_cases hx0 : 0 ≤ x
                          · by_cases hy0 : 0 ≤ y
                            · obtain ⟨z0, z1⟩ := hsum hx0 hy0
                              have z2 : ¬ z < 0 := by omega
                              have z3 : ¬ x + y < z := by omega
                              clear hsum
                              go_wp2
                              go_quiet (fail)
                              go_wp2
                              go_roundw
                              case rel => exact ⟨h + 1, by omega, by go_num, Lib.hid (bdrewN HB.out _)⟩
                              case measure => simp [intOf]; omega
                            · have hy1 : y < 0 := by omega
                              have cb : decide (0 ≤ y) = false := decide_eq_false hy0
                              clear hsum
                              go_wp2
                              go_quiet (fail)
                              go_wp2
                              go_roundw
                              case rel => exact ⟨h + 1, by omega, by go_num, Lib.hid (bdrewN HB.out _)⟩
                              case measure => simp [intOf]; omega
                          · have hx1 : x < 0 := by omega
                            have cb : decide (0 ≤ x) = false := decide_eq_false hx0
                            clear hsum
                            go_wp2
                            go_quiet (fail)
                            go_wp2
                            go_roundw
                            case rel => exact ⟨h + 1, by omega, by go_num, Lib.hid (bdrewN HB.out _)⟩
                            case measure => simp [intOf]; omega
                        · obtain rfl : h = k := by omega
                          have hdh : ¬ ((h : Int) < (h : Int)) := by omega
                          go_wp2
                          go_roundw
                          case rel => exact ⟨g + 1, by omega, by go_num, HB⟩
                          case measure => simp [intOf]; omega
                    · obtain rfl : g = k := by omega
                      have hdg : ¬ ((g : Int) < (g : Int)) := by omega
                      go_wp2
                      go_roundw
                      case rel => exact ⟨a + 1, by omega, by go_num, HB⟩
                      case measure => simp [intOf]; omega
                · obtain rfl : a = k := by omega
                  have hda : ¬ ((a : Int) < (a : Int)) := by omega
                  go_wp2_with fail
                  refine (ex_any _).mono ?_
                  rintro e w9 ⟨rfl, hb9⟩
                  have HB9 := Lib.hid (bthen HB2.out (bthen HB.out hb9 (Nat.le_refl _)) (Nat.le_refl _))
                  clear hb9
                  go_wp2
                  go_ret
                  exact ⟨rfl, HB9.out⟩
    · have hr0' : (r != 0) = true := by simpa using hr0
      clear hr
      go_wp2_with fail
      refine (ex_any _).mono ?_
      rintro e w9 ⟨rfl, hb9⟩
      have HB9 := Lib.hid (hb9)
      clear hb9
      go_wp2
      go_ret
      exact ⟨rfl, HB9.out⟩
end Go.Proofs.Ytabhinmodnmllaa
