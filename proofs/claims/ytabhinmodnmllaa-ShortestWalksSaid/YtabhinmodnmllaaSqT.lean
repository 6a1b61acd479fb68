/-
  least, and the law ShortestWalks: the walks. Printed by gen/sp16.py.
-/
import Derived.Test.YtabhinmodnmllaaSqO
import Derived.Test.YtabhinmodnmllaaSqR
import Derived.BigQuiet
namespace Go.Proofs.Ytabhinmodnmllaa
open Go.RowKit

/-- the sum before node k -/
def sumS (c : Int) (C : Nat → Int) : Nat → Int
  | 0 => 0
  | k + 1 => c - C k
theorem le_src {a b w : Int} {y : Edge} (h : ¬ y.src = a) : leastE a b w y = w := if_neg (fun h2 => h h2.1)
theorem le_dst {a b w : Int} {y : Edge} (h : ¬ y.dst = b) : leastE a b w y = w := if_neg (fun h2 => h h2.2.1)
theorem le_set {a b w : Int} {y : Edge} (h1 : y.src = a) (h2 : y.dst = b) (h : w < 0 ∨ y.wt < w) : leastE a b w y = y.wt := if_pos ⟨h1, h2, h⟩
theorem le_no {a b w : Int} {y : Edge} (h : ¬ w < 0) (h2 : ¬ y.wt < w) : leastE a b w y = w := if_neg (fun h3 => by rcases h3.2.2 with h4 | h4; exact h h4; exact h2 h4)

set_option maxRecDepth 100000 in
set_option maxHeartbeats 2000000 in
theorem least_any (A : Option Addr) (m c : Nat) (l : List Edge) (a b : Int) (w : World) (hx : SAt edgeC w A m l) (hm : m ≤ 5000) : Calls Try.prog 20 #[.slice A m c, .int .i64 a, .int .i64 b] w fun e w' => e = .returned (.int .i64 (leastL l a b)) ∧ w = w' := by
  have HX := Lib.hid hx
  have HM := Lib.hid hx.1
  clear hx
  go_enter Try.func20, Try.ntmps20
  go_wp2
  go_loopw [7, 8] (fun x i wb => ∃ p : Nat, p ≤ m ∧ i = .int .i64 p ∧ x = .int .i64 (leastTo l a b p) ∧ wb = w) (fun _ i _ => m - (intOf i).toNat)
  case atStart => exact ⟨0, by omega, rfl, rfl, rfl⟩
  case round =>
    obtain ⟨p, hpm, rfl, rfl, rfl⟩ := hrel
    have p0 : (0 : Int) ≤ (p : Int) := by omega
    by_cases hlp : p < m
    · have hlp' : (p : Int) < (m : Int) := by omega
      obtain ⟨ab, ao, hA, _⟩ := HX.out.at_ hlp
      subst hA
      obtain ⟨e0, e1, e2⟩ := edge_cells HX.out hlp
      have HSP := Lib.hid (leastTo_step (l := l) (k := p) (by rw [HM.out]; exact hlp) a b)
      obtain ⟨y, hy⟩ : ∃ y, y = ge l p := ⟨_, rfl⟩
      rw [← hy] at e0 e1 e2 HSP
      obtain ⟨x, hx⟩ : ∃ x, x = leastTo l a b p := ⟨_, rfl⟩
      rw [← hx] at HSP ⊢
      clear hx hy
      by_cases h1 : y.src = a
      · by_cases h2 : y.dst = b
        · by_cases h3 : x < 0
          · have HR := Lib.hid (HSP.out.trans (le_set h1 h2 (.inl h3)))
            obtain ⟨ys, yd, yw⟩ := y
            simp only [] at e0 e1 e2 h1 h2 HR
            subst h1 h2
            go_wp2
            go_roundw
            case rel => exact ⟨p + 1, by omega, by go_num, by rw [HR.out], by first | rfl | trivial⟩
            case measure => simp [intOf]; omega
          · have h3' : 0 ≤ x := by omega
            by_cases h4 : y.wt < x
            · have HR := Lib.hid (HSP.out.trans (le_set h1 h2 (.inr h4)))
              obtain ⟨ys, yd, yw⟩ := y
              simp only [] at e0 e1 e2 h1 h2 h4 HR
              subst h1 h2
              go_wp2
              go_roundw
              case rel => exact ⟨p + 1, by omega, by go_num, by rw [HR.out], by first | rfl | trivial⟩
              case measure => simp [intOf]; omega
            · have HR := Lib.hid (HSP.out.trans (le_no h3 h4))
              obtain ⟨ys, yd, yw⟩ := y
              simp only [] at e0 e1 e2 h1 h2 h4 HR
              subst h1 h2
              have h4' : x ≤ yw := by omega
              go_wp2
              go_roundw
              case rel => exact ⟨p + 1, by omega, by go_num, by rw [HR.out], by first | rfl | trivial⟩
              case measure => simp [intOf]; omega
        · have HR := Lib.hid (HSP.out.trans (le_dst h2))
          obtain ⟨ys, yd, yw⟩ := y
          simp only [] at e0 e1 e2 h1 h2 HR
          subst h1
          have h2' : (yd == b) = false := by simpa using h2
          go_wp2
          go_roundw
          case rel => exact ⟨p + 1, by omega, by go_num, by rw [HR.out], by first | rfl | trivial⟩
          case measure => simp [intOf]; omega
      · have HR := Lib.hid (HSP.out.trans (le_src h1))
        obtain ⟨ys, yd, yw⟩ := y
        simp only [] at e0 e1 e2 h1 HR
        have h1' : (ys == a) = false := by simpa using h1
        go_wp2
        go_roundw
        case rel => exact ⟨p + 1, by omega, by go_num, by rw [HR.out], by first | rfl | trivial⟩
        case measure => simp [intOf]; omega
    · obtain rfl : p = m := by omega
      have hdp : ¬ ((p : Int) < (p : Int)) := by omega
      have HE : Hid (leastTo l a b p = leastL l a b) := Lib.hid (by unfold leastL; rw [HM.out])
      go_wp2
      go_ret
      exact ⟨ret_int HE.out, rfl⟩

set_option maxRecDepth 100000 in
set_option maxHeartbeats 8000000 in
theorem walks_walk (n : Int) (A : Option Addr) (m c : Nat) (l : List Edge) (ends : Int) (w : World) (hx : SAt edgeC w A m l) (_ : True) : Calls Try.prog 6 #[.int .i64 n, .slice A m c, .int .i64 ends] w fun e w' => e = .returned (.bool true) ∧ Below w.heap.size w w' := by
  have HX := Lib.hid hx
  have HM := Lib.hid hx.1
  clear hx
  have m0 : (0 : Int) ≤ (m : Int) := by omega
  go_enter Try.func6, Try.ntmps6
  go_upto_region 2 with fail
  obtain ⟨a, ha⟩ : ∃ a, a = RowKit.wrap64 (ends.tdiv 100) := ⟨_, rfl⟩
  obtain ⟨b, hb⟩ : ∃ b, b = ends.tmod 100 := ⟨_, rfl⟩
  rw [← ha, ← hb]
  clear ha hb
  by_cases hm : (400 : Int) < (m : Int)
  · have hm' : 400 < m := by omega
    go_wp2_with fail
    refine (ex_any _).mono ?_
    rintro e w9 ⟨rfl, hb9⟩
    have HB9 := Lib.hid (hb9)
    clear hb9
    go_wp2
    go_ret
    exact ⟨rfl, HB9.out⟩
  · have hm' : m ≤ 400 := by omega
    have hm'' : (m : Int) ≤ 400 := by omega
    have hmn : ¬ 400 < m := by omega
    obtain ⟨r, hr⟩ : ∃ r, checkI n l = r := ⟨_, rfl⟩
    by_cases hr0 : r = 0
    · subst hr0
      by_cases h1 : a < 0
      · go_wp2_with fail
        refine (rcheck_any n A m c l w HX.out).mono ?_
        rintro e w0 ⟨rfl, rfl⟩
        rw [hr]
        go_wp2_with fail
        refine (ex_any _).mono ?_
        rintro e w9 ⟨rfl, hb9⟩
        have HB9 := Lib.hid (hb9)
        clear hb9
        go_wp2
        go_ret
        exact ⟨rfl, HB9.out⟩
      have h1' : 0 ≤ a := by omega
      by_cases h2 : n ≤ a
      · go_wp2_with fail
        refine (rcheck_any n A m c l w HX.out).mono ?_
        rintro e w0 ⟨rfl, rfl⟩
        rw [hr]
        go_wp2_with fail
        refine (ex_any _).mono ?_
        rintro e w9 ⟨rfl, hb9⟩
        have HB9 := Lib.hid (hb9)
        clear hb9
        go_wp2
        go_ret
        exact ⟨rfl, HB9.out⟩
      have h2' : a < n := by omega
      by_cases h3 : b < 0
      · go_wp2_with fail
        refine (rcheck_any n A m c l w HX.out).mono ?_
        rintro e w0 ⟨rfl, rfl⟩
        rw [hr]
        go_wp2_with fail
        refine (ex_any _).mono ?_
        rintro e w9 ⟨rfl, hb9⟩
        have HB9 := Lib.hid (hb9)
        clear hb9
        go_wp2
        go_ret
        exact ⟨rfl, HB9.out⟩
      have h3' : 0 ≤ b := by omega
      by_cases h4 : n ≤ b
      · go_wp2_with fail
        refine (rcheck_any n A m c l w HX.out).mono ?_
        rintro e w0 ⟨rfl, rfl⟩
        rw [hr]
        go_wp2_with fail
        refine (ex_any _).mono ?_
        rintro e w9 ⟨rfl, hb9⟩
        have HB9 := Lib.hid (hb9)
        clear hb9
        go_wp2
        go_ret
        exact ⟨rfl, HB9.out⟩
      have h4' : b < n := by omega
      have hc := checkI_good hr
      obtain ⟨N, rfl⟩ : ∃ N : Nat, n = (N : Int) := ⟨n.toNat, by omega⟩
      obtain ⟨a, rfl⟩ : ∃ S : Nat, a = (S : Int) := ⟨a.toNat, by omega⟩
      obtain ⟨b, rfl⟩ : ∃ S : Nat, b = (S : Int) := ⟨b.toNat, by omega⟩
      have hN : N ≤ 64 := by omega
      have ha : a < N := by omega
      have hb : b < N := by omega
      have HGD := Lib.hid hc.2.2.2
      have HC2 : Hid (checkN (N : Int) l [(a : Int), (b : Int)] = 0) := Lib.hid (by rw [check_two hr, if_neg (by omega)])
      have HC1 : Hid (checkN (N : Int) l [(a : Int)] = 0) := Lib.hid (by rw [check_one hr, if_neg (by omega)])
      have HL5 : Hid (l.length ≤ 500) := Lib.hid (by rw [HM.out]; omega)
      clear hc
      go_wp2_with fail
      refine (rcheck_any (N : Int) A m c l w HX.out).mono ?_
      rintro e w0 ⟨rfl, rfl⟩
      rw [hr]
      go_wp2_with fail
      refine (to_any A m c l w HX.out (by omega)).mono ?_
      rintro e w1 ⟨v1, rfl, ho1, hb1⟩
      obtain ⟨A1, c1, rfl, _⟩ := ownsRow_slice ho1
      have HL1 := Lib.hid (SAt.own ho1 (by decide))
      rw [HM.out] at HL1
      rw [HM.out]
      have HX1 := Lib.hid (HX.out.stays hb1)
      have HB1 := Lib.hid hb1
      clear ho1 hb1
      go_wp2_with fail
      refine (path_any A1 (N : Int) (a : Int) (b : Int) m c1 l w1 HL1.out (.inl (by omega))).mono ?_
      rintro e w2 h2p
      have hb2 := h2p.2.2.2
      have HP1 := Lib.hid (h2p.2.1 HC2.out)
      have HP2 := Lib.hid (h2p.2.2.1 HC2.out)
      simp only [Int.toNat_natCast] at HP1 HP2
      have HX2 := Lib.hid (HX1.out.stays hb2)
      have HB2 := Lib.hid (bthen HB1.out hb2 (Nat.le_refl _))
      clear h2p hb2 HL1 HX1
      by_cases hcc : gi (costsOf l N b) a < 0
      · have he := HP1.out hcc
        subst he
        have HD1 : Hid (gi (distL l N a) b = -1) := Lib.hid (path_none hN HGD.out HL5.out ha hb hcc)
        clear HP1 HP2 hcc
        go_wp2_with fail
        refine (to_any A m c l w2 HX2.out (by omega)).mono ?_
        rintro e w3 ⟨v3, rfl, ho3, hb3⟩
        obtain ⟨A3, c3, rfl, _⟩ := ownsRow_slice ho3
        have HL3 := Lib.hid (SAt.own ho3 (by decide))
        rw [HM.out] at HL3
        rw [HM.out]
        have HB3 := Lib.hid (bthen HB2.out hb3 (Nat.le_refl _))
        have HX3 := Lib.hid (HX2.out.stays hb3)
        clear ho3
        go_wp2_with fail
        refine (dist_any A3 (N : Int) (a : Int) m c3 l w3 HL3.out (.inl (by omega))).mono ?_
        rintro e w4 h4d
        have h4e := h4d.toR (.inl HL5.out)
        have hb4 := h4e.2.2
        obtain ⟨A4, c4, he4, hi4⟩ := h4e.2.1 HC1.out
        rw [Int.toNat_natCast] at he4 hi4
        rw [Int.toNat_natCast] at hi4
        subst he4
        have HB4 := Lib.hid (bthen HB3.out hb4 (Nat.le_refl _))
        have HX4 := Lib.hid (HX3.out.stays hb4)
        obtain ⟨ad, hA, q2⟩ := hi4.2 b hb
        clear h4d h4e hi4 HL3
        have q1 : w4.cell? (ad.add b) = some (.int .i64 (-1)) := by rw [q2, HD1.out]
        clear q2
        subst hA
        go_wp2_with fail
        refine (ex_any _).mono ?_
        rintro e w9 ⟨rfl, hb9⟩
        have HB9 := Lib.hid (bthen HB4.out hb9 (Nat.le_refl _))
        clear hb9
        go_wp2
        go_ret
        exact ⟨rfl, HB9.out⟩
      · obtain ⟨Ap, cp, he, hip⟩ := HP2.out hcc
        obtain ⟨E, cst, C, f1, f2, f3, f4, f5, f6, f7, f8, f9, f10, f11, f12⟩ := walk_facts hN ha hb HGD.out hcc
        rw [f2, pathP_len, f3] at he
        rw [f2, pathP_len] at hip
        subst he
        have HIP := Lib.hid hip
        have HD1 : Hid (gi (distL l N a) b = cst) := Lib.hid f4
        have HCL := Lib.hid f10
        have HST := Lib.hid f11
        have HDF := Lib.hid f12
        have HC0 := Lib.hid f7
        have HCE := Lib.hid f8
        have HNE := Lib.hid f9
        have HAT := Lib.hid (fun i hi => pathP_at l (costsOf l N b) (a : Int) E i hi)
        obtain ⟨cs, hcs⟩ : ∃ cs, cs = costsOf l N b := ⟨_, rfl⟩
        rw [← hcs] at HIP HST HDF HNE HAT
        clear hcs HP1 HP2 hcc f2 f3 f4 f7 f8 f9 f10 f11 f12 hip
        obtain ⟨xs, hxs⟩ : ∃ xs, xs = pathP l cs (a : Int) E := ⟨_, rfl⟩
        rw [← hxs] at HIP HAT
        clear hxs
        go_wp2_with fail
        refine (to_any A m c l w2 HX2.out (by omega)).mono ?_
        rintro e w3 ⟨v3, rfl, ho3, hb3⟩
        obtain ⟨A3, c3, rfl, _⟩ := ownsRow_slice ho3
        have HL3 := Lib.hid (SAt.own ho3 (by decide))
        rw [HM.out] at HL3
        rw [HM.out]
        have HB3 := Lib.hid (bthen HB2.out hb3 (Nat.le_refl _))
        have HX3 := Lib.hid (HX2.out.stays hb3)
        clear ho3
        go_wp2_with fail
        refine (dist_any A3 (N : Int) (a : Int) m c3 l w3 HL3.out (.inl (by omega))).mono ?_
        rintro e w4 h4d
        have h4e := h4d.toR (.inl HL5.out)
        have hb4 := h4e.2.2
        obtain ⟨A4, c4, he4, hi4⟩ := h4e.2.1 HC1.out
        rw [Int.toNat_natCast] at he4 hi4
        rw [Int.toNat_natCast] at hi4
        subst he4
        have HB4 := Lib.hid (bthen HB3.out hb4 (Nat.le_refl _))
        have HX4 := Lib.hid (HX3.out.stays hb4)
        obtain ⟨ad, hA, q2⟩ := hi4.2 b hb
        clear h4d h4e hi4 HL3
        have HIP := Lib.hid ((HIP.out.stays hb3).stays hb4)
        have q1 : w4.cell? (ad.add b) = some (.int .i64 cst) := by rw [q2, HD1.out]
        subst hA
        obtain ⟨ap, hAp, p1⟩ := HIP.out.2 0 (by omega)
        subst hAp
        have HPC := Lib.hid (fun i (hi : i ≤ E) => show w4.cell? (ap.add i) = some (.int .i64 (gi xs i)) by
          obtain ⟨ap2, h5, h6⟩ := HIP.out.2 i (by omega)
          injection h5 with h5
          subst h5
          exact h6)
        have p2 := HPC.out E (Nat.le_refl _)
        rw [HAT.out 0 (by omega)] at p1
        rw [HAT.out E (Nat.le_refl _), HNE.out] at p2
        replace p1 : w4.cell? (ap.add 0) = some (.int .i64 (a : Int)) := p1
        have p0 : w4.cell? ap = some (.int .i64 (a : Int)) := by rw [show ap.add 0 = ap by cases ap; simp [Addr.add]] at p1; exact p1
        clear q2 hb3 hb4
        have g1 : ((E : Int) + 1 == 0) = false := by simp; omega
        have g2 : ¬ (E : Int) + 1 = 0 := by omega
        have g3 : ¬ (N : Int) < (E : Int) + 1 := by omega
        have g4 : (E : Int) + 1 ≤ (N : Int) := by omega
        have g5 : E + 1 ≤ N := by omega
        have g6 : E < N := by omega
        have g7 : (E : Int) < (N : Int) := by omega
        have g8 : (0 : Int) ≤ (E : Int) := by omega
        have g9 : (0 : Int) ≤ (a : Int) := by omega
        have g10 : (a : Int) < (N : Int) := by omega
        have g11 : (0 : Int) ≤ (b : Int) := by omega
        have g12 : (b : Int) < (N : Int) := by omega
        go_wp2
        clear p0 p1 p2 q1 g1 g2 g3
        go_loopw [14, 15] (fun sm i wb => ∃ k : Nat, k ≤ E + 1 ∧ i = .int .i64 k ∧ sm = .int .i64 (sumS cst C k) ∧ Hid (Below w4.heap.size w4 wb)) (fun _ i _ => E + 1 - (intOf i).toNat)
        case atStart => exact ⟨0, by omega, rfl, rfl, Lib.hid (Below.refl _ _)⟩
        case round =>
          obtain ⟨k, hkn, rfl, rfl, HB⟩ := hrel
          have k0 : (0 : Int) ≤ (k : Int) := by omega
          by_cases hlt : k < E + 1
          · have hlt1 : (k : Int) < (E : Int) + 1 := by omega
            have hlt2 : k ≤ E := by omega
            have hlt3 : (k : Int) ≤ (E : Int) := by omega
            go_wp2
            go_loopw [16] (fun i wb => ∃ j : Nat, j ≤ k ∧ i = .int .i64 j ∧ Hid (Below w4.heap.size w4 wb)) (fun i _ => k - (intOf i).toNat)
            case atStart => exact ⟨0, by omega, rfl, HB⟩
            case round =>
              clear HB
              obtain ⟨j, hjk, rfl, HB⟩ := hrel
              have j0 : (0 : Int) ≤ (j : Int) := by omega
              have HPW := Lib.hid (fun i hi => (HB.out.cell (p := ap.add i) (cell?_block_lt (HPC.out i hi))).trans (HPC.out i hi))
              by_cases hlj : j < k
              · have hlj1 : (j : Int) < (k : Int) := by omega
                have hlj2 : j < E + 1 := by omega
                have hlj3 : (j : Int) < (E : Int) + 1 := by omega
                have hlj4 : (j : Int) ≤ (E : Int) := by omega
                have hlj5 : j ≤ E := by omega
                have p1 := HPW.out k hlt2
                have p2 := HPW.out j hlj5
                have hne := HDF.out k j hlt2 hlj
                rw [← HAT.out k hlt2, ← HAT.out j hlj5] at hne
                obtain ⟨xk, hxk⟩ : ∃ x, x = gi xs k := ⟨_, rfl⟩
                obtain ⟨xj, hxj⟩ : ∃ x, x = gi xs j := ⟨_, rfl⟩
                rw [← hxk] at p1 hne
                rw [← hxj] at p2 hne
                have hne1 : ¬ xk = xj := hne
                have hne2 : (xk == xj) = false := by simpa using hne
                clear hne hxk hxj
                go_wp2
                go_quiet (fail)
                go_wp2
                go_roundw
                case rel => exact ⟨j + 1, by omega, by go_num, Lib.hid (bdrewN HB.out _)⟩
                case measure => simp [intOf]; omega
              · obtain rfl : j = k := by omega
                have hdj : ¬ ((j : Int) < (j : Int)) := by omega
                by_cases hj0 : j = 0
                · subst hj0
                  have HS1 : Hid (sumS cst C 0 = sumS cst C (0 + 1)) := Lib.hid (by show (0 : Int) = cst - C 0; have := HC0.out; omega)
                  go_wp2
                  go_roundw
                  case rel => exact ⟨0 + 1, by omega, by first | trivial | rfl | go_num, by rw [← HS1.out], HB⟩
                  case measure => simp [intOf]
                · obtain ⟨i, hi⟩ : ∃ i, j = i + 1 := ⟨j - 1, by omega⟩
                  have h0 : (0 : Int) < (j : Int) := by omega
                  have h1 : 0 < j := by omega
                  have h2 : (0 : Int) ≤ (i : Int) := by omega
                  have h3 : i < E + 1 := by omega
                  have h4 : (i : Int) < (E : Int) + 1 := by omega
                  have h5 : i ≤ E := by omega
                  have h6 : (i : Int) ≤ (E : Int) := by omega
                  have h7 : i < E := by omega
                  have h8 : (i : Int) < (E : Int) := by omega
                  have p1 := HPW.out i h5
                  have p2 := HPW.out j hlt2
                  rw [HAT.out i h5] at p1
                  rw [HAT.out j hlt2] at p2
                  obtain ⟨k1, k2⟩ := HST.out i h7
                  have k3 := HCL.out i h5
                  have k4 := HCL.out (i + 1) (by omega)
                  rw [← hi] at k1 k2 k4
                  obtain ⟨xp, hxp⟩ : ∃ x, x = nodeP l cs (a : Int) i := ⟨_, rfl⟩
                  obtain ⟨xq, hxq⟩ : ∃ x, x = nodeP l cs (a : Int) j := ⟨_, rfl⟩
                  rw [← hxp, ← hxq] at k1
                  rw [← hxp] at p1
                  rw [← hxq] at p2
                  have hcall := fun q => quiet_eq (n := q) (w := wr) (least_any A m c l xp xq (wr.drewN q) ((HX4.out.stays HB.out).drewN q) (by omega))
                  rw [k1] at hcall
                  have HS1 : Hid (sumS cst C j = cst - C i) := Lib.hid (by rw [hi]; rfl)
                  have HS2 : Hid (sumS cst C (j + 1) = cst - C j) := Lib.hid rfl
                  obtain ⟨sv, hsv⟩ : ∃ x, x = cst - C i := ⟨_, rfl⟩
                  obtain ⟨dw, hdw⟩ : ∃ x, x = C i - C j := ⟨_, rfl⟩
                  rw [← hdw] at hcall
                  have HCALL := Lib.hid hcall
                  have HS3 : Hid (sv + dw = cst - C j) := Lib.hid (by omega)
                  have hd0 : ¬ dw < 0 := by omega
                  have hw : IntKind.i64.wrap (sv + dw) = sv + dw := wrapB (by omega) (by omega)
                  rw [HS1.out, ← hsv]
                  have hj2 : IntKind.i64.wrap ((j : Int) - 1) = (i : Int) := by rw [show (j : Int) - 1 = (i : Int) by omega]; exact wrapB (by omega) (by omega)
                  clear hcall k1 k2 k3 k4 hsv hdw hxp hxq hi
                  go_wp2
                  go_quiet ((with_reducible exact HCALL.out _))
                  go_wp2
                  go_roundw
                  case rel => exact ⟨j + 1, by omega, by go_num, by rw [HS2.out, ← HS3.out], Lib.hid (bdrewN HB.out _)⟩
                  case measure => simp [intOf]; omega
          · obtain rfl : k = E + 1 := by omega
            have hdk : ¬ ((E : Int) + 1 < (E : Int) + 1) := by omega
            have HS1 : Hid (sumS cst C (E + 1) = cst) := Lib.hid (by show cst - C E = cst; rw [HCE.out]; omega)
            rw [HS1.out]
            go_wp2_with fail
            refine (ex_any _).mono ?_
            rintro e w9 ⟨rfl, hb9⟩
            have HB9 := Lib.hid (bthen HB4.out (bthen HB.out hb9 (Nat.le_refl _)) (Nat.le_refl _))
            clear hb9
            go_wp2
            go_ret
            exact ⟨rfl, HB9.out⟩
    · have hr0' : (r != 0) = true := by simpa using hr0
      go_wp2_with fail
      refine (rcheck_any n A m c l w HX.out).mono ?_
      rintro e w0 ⟨rfl, rfl⟩
      rw [hr]
      go_wp2_with fail
      refine (ex_any _).mono ?_
      rintro e w9 ⟨rfl, hb9⟩
      have HB9 := Lib.hid (hb9)
      clear hb9
      go_wp2
      go_ret
      exact ⟨rfl, HB9.out⟩
end Go.Proofs.Ytabhinmodnmllaa
