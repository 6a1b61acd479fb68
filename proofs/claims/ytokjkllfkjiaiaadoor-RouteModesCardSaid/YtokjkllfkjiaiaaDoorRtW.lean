/-
  The walk of RouteModes. Printed by gen/rtm.py.
-/
import Derived.Test.YtokjkllfkjiaiaaDoorRtM
namespace Go.Proofs.YtokjkllfkjiaiaaDoor
open Go.RowKit
open Bs (U64 oneN hasB withN minusN rangeTo)

set_option maxHeartbeats 400000 in
theorem within_any (s t : Nat) (w : World) (hs : U64 s) (ht : U64 t) :
    Calls Tryd.prog 22 #[.int .u64 s, .int .u64 t] w fun e w' => e = .returned (.bool (((minusN s t : Nat) : Int) == 0)) ∧ w = w' := by
  have hb := Bs.bNot hs ht
  go_enter Tryd.func22, Tryd.ntmps22
  go_wp2
  go_ret
  exact ⟨rfl, rfl⟩
set_option maxHeartbeats 400000 in
theorem range_any (w : World) :
    Calls Tryd.prog 23 #[.int .i64 0, .int .i64 8] w fun e w' => e = .returned (.int .u64 (255 : Nat)) ∧ w = w' := by
  go_enter Tryd.func23, Tryd.ntmps23
  go_wp2
  go_loop [5, 6] (fun s k => ∃ m : Nat, m ≤ 8 ∧ k = .int .i64 m ∧ s = .int .u64 (rangeTo 0 8 m : Nat)) (fun _ k => 64 - (intOf k).toNat)
  case atStart => exact ⟨0, by omega, rfl, rfl⟩
  case round =>
    obtain ⟨m, hm, rfl, rfl⟩ := hrel
    have hb := Bs.bOr (Bs.uRange 0 8 m) (Bs.uOne m)
    by_cases h2 : m < 8
    · go_wp2_with (go_at_call 35; refine (one_any _ _).mono ?_; rintro e w' ⟨rfl, rfl⟩)
      go_round
      case rel => exact ⟨m + 1, by omega, by go_num, by rw [rangeTo, if_pos (by omega)]; rfl⟩
      case measure => simp [intOf]; omega
    · obtain rfl : m = 8 := by omega
      go_wp2
      go_ret
      exact ⟨rfl, rfl⟩
theorem parse_back : (List.range 255).all (fun n => n == 0 || (parseI (fmtS (n : Nat)) == (n : Nat) && (parseE (fmtS (n : Nat)) == 0 && decide ((fmtS (n : Nat)).size ≤ 1000)))) = true := by decide +kernel
theorem name_back : (List.range 8).all (fun k => parI (nameOf k) == (k : Nat) && parB (nameOf k)) = true := by decide +kernel
theorem minus_small : (List.range 256).all (fun s => minusN s 255 == 0) = true := by decide +kernel

set_option maxRecDepth 100000 in
set_option maxHeartbeats 4000000 in
theorem modes_walk (A : Option Addr) (n c : Nat) (l : List Route) (m : Int) (w : World) (hl : SAt routeC w A n l) (_hs : SizedR l) (_h1 : I64 m) (hN : NamesAt w) :
    Calls Tryd.prog 6 #[.slice A n c, .int .i64 m] w fun e w' => e = .returned (.bool true) ∧ Below w.heap.size w w' := by
  have r := Nat.le_refl w.heap.size
  have N := Lib.hid hN
  have HB := Lib.hid (Below.refl w.heap.size w)
  have L := Lib.hid hl
  clear hN hl
  by_cases h100 : (100 : Int) < (n : Int)
  · go_enter Tryd.func6, Tryd.ntmps6
    go_wp2_with fail
    refine (example_any _ N.out).mono ?_
    rintro e w1 ⟨rfl, hb⟩
    have N := Lib.hid (N.out.stays hb)
    have HB := Lib.hid (bthen HB.out hb r)
    clear hb
    go_wp2
    go_ret
    exact ⟨rfl, HB.out⟩
  by_cases hm1 : m < 1
  · go_enter Tryd.func6, Tryd.ntmps6
    go_wp2_with fail
    refine (example_any _ N.out).mono ?_
    rintro e w1 ⟨rfl, hb⟩
    have N := Lib.hid (N.out.stays hb)
    have HB := Lib.hid (bthen HB.out hb r)
    clear hb
    go_wp2
    go_ret
    exact ⟨rfl, HB.out⟩
  by_cases hm2 : 254 < m
  · go_enter Tryd.func6, Tryd.ntmps6
    go_wp2_with fail
    refine (example_any _ N.out).mono ?_
    rintro e w1 ⟨rfl, hb⟩
    have N := Lib.hid (N.out.stays hb)
    have HB := Lib.hid (bthen HB.out hb r)
    clear hb
    go_wp2
    go_ret
    exact ⟨rfl, HB.out⟩
  obtain ⟨q, rfl⟩ : ∃ q : Nat, m = (q : Int) := ⟨m.toNat, by omega⟩
  have hq1 : 1 ≤ q := by omega
  have hq2 : q ≤ 254 := by omega
  have hn : n ≤ 1000 := by omega
  have hll := L.out.1
  have hP := Lib.hid (parted_modes l hq1 hq2)
  have hpb := List.all_eq_true.1 parse_back q (List.mem_range.2 (by omega))
  have hq0 : (q == 0) = false := by rw [beq_eq_false_iff_ne]; omega
  rw [hq0, Bool.false_or] at hpb
  simp only [Bool.and_eq_true, beq_iff_eq, decide_eq_true_eq] at hpb
  have hf := fun w hN => fmt_any (q : Int) w hN
  rw [(fmt_some (by omega) (by omega : q ≤ 255)).2] at hf
  have hp := fun w hN => parse_any (fmtS (q : Int)) w hpb.2.2 hN
  rw [hpb.1, hpb.2.1] at hp
  obtain ⟨S, hS⟩ : ∃ S, S = fmtS (q : Int) := ⟨_, rfl⟩
  rw [← hS] at hf hp
  clear hpb hS hq0
  have hx1 := fun A c w hx => withm_any A n c l (q : Int) w hx hn
  have hx2 := fun A c w hx => withm_any A n c l (255 - (q : Int)) w hx hn
  have hx3 := fun A c w hx => withm_any A n c l 0 w hx hn
  rw [with_sel] at hx1 hx2 hx3
  have hlen := part_len hP.out n
  have hst := Lib.hid (fun i j k => @at_step _ _ _ hP.out n i j k)
  have ha0 := Lib.hid (@at_zero (pickB l q) (pickB l (255 - (q : Int))) (pickB l 0) n)
  have hle : (selTo (pickB l 0) n).length ≤ n := by rw [← with_sel]; exact with_len l 0 n
  obtain ⟨T, hT⟩ : ∃ T : Nat → Nat → Nat → Prop, T = At (pickB l q) (pickB l (255 - (q : Int))) (pickB l 0) n := ⟨_, rfl⟩
  obtain ⟨X, hX⟩ : ∃ X, X = selTo (pickB l q) n := ⟨_, rfl⟩
  obtain ⟨Y, hY⟩ : ∃ Y, Y = selTo (pickB l (255 - (q : Int))) n := ⟨_, rfl⟩
  obtain ⟨Z, hZ⟩ : ∃ Z, Z = selTo (pickB l 0) n := ⟨_, rfl⟩
  rw [← hT] at ha0 hst
  rw [← hX, ← hY, ← hZ] at hst
  rw [← hX] at hx1 hlen
  rw [← hY] at hx2 hlen
  rw [← hZ] at hx3 hlen hle
  clear hX hY hZ hT hP
  have hmod : modesTo l n < 256 := by rw [← sum_modes hll]; exact sum_lt l 8
  have hmin := List.all_eq_true.1 minus_small (modesTo l n) (List.mem_range.2 hmod)
  have hmu : U64 (modesTo l n) := by unfold U64; omega
  have hwi := fun w => within_any (modesTo l n) 255 w hmu (by unfold U64; omega)
  have hmz : (((minusN (modesTo l n) 255 : Nat) : Int) == 0) = true := by
    have : minusN (modesTo l n) 255 = 0 := by simpa using hmin
    rw [this]
    rfl
  rw [hmz] at hwi
  have hmo := fun A c w hx => modes_any A n c l w hx hn
  obtain ⟨M, hM⟩ : ∃ M, M = modesTo l n := ⟨_, rfl⟩
  rw [← hM] at hwi hmo
  clear hM hmz hmin hmu hmod
  go_enter Tryd.func6, Tryd.ntmps6
  go_wp2_with fail
  refine (hf _ N.out).mono ?_
  rintro e w1 ⟨rfl, hb⟩
  have N := Lib.hid (N.out.stays hb)
  have L := Lib.hid (L.out.stays hb)
  have HB := Lib.hid (bthen HB.out hb r)
  clear hb
  go_wp2_with fail
  refine (hp _ N.out).mono ?_
  rintro e w' ⟨rfl, rfl⟩
  go_wp2
  go_loopw [9] (fun i wr => ∃ k : Nat, k ≤ 8 ∧ i = .int .i64 k ∧ wr = w1) (fun i _ => 8 - (intOf i).toNat)
  case atStart => exact ⟨0, by omega, rfl, rfl⟩
  case round =>
    obtain ⟨k, hk8, rfl, rfl⟩ := hrel
    by_cases hk : k < 8
    · have hnb := List.all_eq_true.1 name_back k (List.mem_range.2 hk)
      simp only [Bool.and_eq_true, beq_iff_eq] at hnb
      have hpa := fun w hN => par_any (nameOf k) w hN
      rw [hnb.1, hnb.2] at hpa
      clear hnb
      go_wp2_with fail
      refine (mname_yes k _ hk N.out).mono ?_
      rintro e w' ⟨rfl, rfl⟩
      go_wp2_with fail
      refine (hpa _ N.out).mono ?_
      rintro e w' ⟨rfl, rfl⟩
      go_wp2
      go_roundw
      case rel => exact ⟨k + 1, by omega, by go_num, by first | rfl | trivial⟩
      case measure => simp [intOf]; omega
    · obtain rfl : k = 8 := by omega
      go_wp2_with fail
      refine (hx1 _ _ _ L.out).mono ?_
      rintro e w2 ⟨AP, cP, rfl, hi, hu, hc, hb, _⟩
      have N := Lib.hid (N.out.stays hb)
      have L := Lib.hid (L.out.stays hb)
      have HB := Lib.hid (bthen HB.out hb r)
      clear hb
      have P := Lib.hid hi
      clear hi hu hc
      go_wp2_with fail
      refine (hx2 _ _ _ L.out).mono ?_
      rintro e w3 ⟨AQ, cQ, rfl, hi, hu, hc, hb, _⟩
      have N := Lib.hid (N.out.stays hb)
      have L := Lib.hid (L.out.stays hb)
      have P := Lib.hid (P.out.stays hb)
      have HB := Lib.hid (bthen HB.out hb r)
      clear hb
      have Q := Lib.hid hi
      clear hi hu hc
      go_wp2_with fail
      refine (hx3 _ _ _ L.out).mono ?_
      rintro e w4 ⟨AR, cR, rfl, hi, hu, hc, hb, _⟩
      have N := Lib.hid (N.out.stays hb)
      have L := Lib.hid (L.out.stays hb)
      have P := Lib.hid (P.out.stays hb)
      have Q := Lib.hid (Q.out.stays hb)
      have HB := Lib.hid (bthen HB.out hb r)
      clear hb
      have R := Lib.hid hi
      clear hi hu hc
      have hne : ((X.length : Int) + (Y.length : Int) != (Z.length : Int)) = false := by rw [bne_eq_false_iff_eq]; omega
      go_wp2
      go_loopw [17, 18, 19] (fun i j k wr => ∃ a b t p : Nat, t ≤ Z.length ∧ a ≤ t ∧ b ≤ t ∧ T a b t ∧ i = .int .i64 a ∧ j = .int .i64 b ∧ k = .int .i64 t ∧ wr = w4.drewN p) (fun _ _ k _ => Z.length - (intOf k).toNat)
      case atStart => exact ⟨0, 0, 0, 0, by omega, by omega, by omega, ha0.out, rfl, rfl, rfl, rfl⟩
      case round =>
        obtain ⟨a, b, t, p, htz, hat, hbt, hT, rfl, rfl, rfl, rfl⟩ := hrel
        have HT := Lib.hid hT
        clear hT
        have ta : (0 : Int) ≤ (a : Int) := by omega
        have tb : (0 : Int) ≤ (b : Int) := by omega
        have tt : (0 : Int) ≤ (t : Int) := by omega
        by_cases hlt : t < Z.length
        · have hlt' : (t : Int) < (Z.length : Int) := by omega
          obtain ⟨zd, rfl, hcz⟩ := R.out.2 t hlt
          rcases hst.out a b t HT.out hlt with ⟨i1, i2, i3⟩ | ⟨i1, i2, i3, i4⟩
          · have i1' : (a : Int) < (X.length : Int) := by omega
            have ie : (gi X a == gi Z t) = true := by rw [beq_iff_eq]; exact i2
            have I3 := Lib.hid i3
            clear i2 i3
            obtain ⟨xd, rfl, hcx⟩ := P.out.2 a i1
            go_wp2
            go_quiet (fail)
            go_wp2
            go_roundw
            case rel => exact ⟨a + 1, b, t + 1, _, by omega, by omega, by omega, I3.out, by go_num, rfl, by go_num, rfl⟩
            case measure => simp [intOf]; omega
          · have j1' : (b : Int) < (Y.length : Int) := by omega
            have je : (gi Y b == gi Z t) = true := by rw [beq_iff_eq]; exact i3
            have I4 := Lib.hid i4
            obtain ⟨yd, rfl, hcy⟩ := Q.out.2 b i2
            by_cases ia : a < X.length
            · have ia' : (a : Int) < (X.length : Int) := by omega
              have ie : (gi X a == gi Z t) = false := by rw [beq_eq_false_iff_ne]; exact i1 ia
              clear i1 i3 i4
              obtain ⟨xd, rfl, hcx⟩ := P.out.2 a ia
              go_wp2
              go_quiet (fail)
              go_wp2
              go_quiet (fail)
              go_wp2
              go_roundw
              case rel => exact ⟨a, b + 1, t + 1, _, by omega, by omega, by omega, I4.out, rfl, by go_num, by go_num, rfl⟩
              case measure => simp [intOf]; omega
            · have ia' : ¬ (a : Int) < (X.length : Int) := by omega
              clear i1 i3 i4
              go_wp2
              go_quiet (fail)
              go_wp2
              go_quiet (fail)
              go_wp2
              go_roundw
              case rel => exact ⟨a, b + 1, t + 1, _, by omega, by omega, by omega, I4.out, rfl, by go_num, by go_num, rfl⟩
              case measure => simp [intOf]; omega
        · have hlt' : ¬ (t : Int) < (Z.length : Int) := by omega
          have N := Lib.hid (N.out.drewN p)
          have L := Lib.hid (L.out.drewN p)
          have HB := Lib.hid (bdrewN HB.out p)
          go_wp2_with fail
          refine (hmo _ _ _ L.out).mono ?_
          rintro e w5 ⟨rfl, hb⟩
          have N := Lib.hid (N.out.stays hb)
          have L := Lib.hid (L.out.stays hb)
          have HB := Lib.hid (bthen HB.out hb r)
          clear hb
          go_wp2_with fail
          refine (range_any _).mono ?_
          rintro e w' ⟨rfl, rfl⟩
          go_wp2_with fail
          refine (hwi _).mono ?_
          rintro e w' ⟨rfl, rfl⟩
          go_wp2_with fail
          refine (example_any _ N.out).mono ?_
          rintro e w6 ⟨rfl, hb⟩
          have N := Lib.hid (N.out.stays hb)
          have L := Lib.hid (L.out.stays hb)
          have HB := Lib.hid (bthen HB.out hb r)
          clear hb
          go_wp2
          go_ret
          exact ⟨rfl, HB.out⟩
end Go.Proofs.YtokjkllfkjiaiaaDoor
