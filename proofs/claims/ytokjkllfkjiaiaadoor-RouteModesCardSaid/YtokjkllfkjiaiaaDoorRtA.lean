/-
  Modes, their names, sets of modes: both. Printed by gen/rta.py.
-/
import Derived.Test.YtokjkllfkjiaiaaDoorRows
import Derived.Test.YtokjkllfkjiaiaaDoorRtP
import Derived.Test.YtokjkllfkjiaiaaDoorBox
import Derived.WalkSpells
import Derived.WalkLawsBesides
import Derived.Deep.QuietTactic
import Derived.BigQuiet
namespace Go.Proofs.YtokjkllfkjiaiaaDoor
open Go.RowKit
open Bs (U64 oneN hasB withN)

theorem ret_ib {i j : Int} {a b : Bool} (h : i = j) (h2 : a = b) : Ending.returned (.tuple #[.int .i64 i, .bool a]) = .returned (.tuple #[.int .i64 j, .bool b]) := by rw [h, h2]
theorem ret_ii {i j a b : Int} (h : i = j) (h2 : a = b) : Ending.returned (.tuple #[.int .i64 i, .int .i64 a]) = .returned (.tuple #[.int .i64 j, .int .i64 b]) := by rw [h, h2]
theorem ret_si {i j : ByteArray} {a b : Int} (h : i = j) (h2 : a = b) : Ending.returned (.tuple #[.string i, .int .i64 a]) = .returned (.tuple #[.string j, .int .i64 b]) := by rw [h, h2]
/-- the table of the names -/
def NamesAt (w : World) : Prop := ∀ m, m < 8 → w.cell? ⟨0, m, none⟩ = some (.string (nameOf m))
theorem NamesAt.stays {w w' : World} (h : NamesAt w) (hb : Below w.heap.size w w') : NamesAt w' := fun m hm => (hb.cell (cell?_block_lt (h m hm))).trans (h m hm)
theorem NamesAt.drewN {w : World} (h : NamesAt w) (m : Nat) : NamesAt (w.drewN m) := h
theorem ne_step {s : ByteArray} {k : Nat} (h : ∀ j, j < k → nameOf j ≠ s) (h2 : nameOf k ≠ s) : ∀ j, j < k + 1 → nameOf j ≠ s := fun j hj => by
  by_cases e : j = k
  · subst e; exact h2
  · exact h j (by omega)
theorem eight (k : Nat) (h : k < 8) : k = 0 ∨ k = 1 ∨ k = 2 ∨ k = 3 ∨ k = 4 ∨ k = 5 ∨ k = 6 ∨ k = 7 := by omega
theorem known_any (m : Int) (w : World) : Calls Tryd.prog 28 #[.int .i64 m] w fun e w' => e = .returned (.bool (knownB m)) ∧ w = w' := by
  by_cases h0 : 0 ≤ m
  · by_cases h1 : m < 8
    · have H := Lib.hid (known_yes h0 h1)
      go_enter Tryd.func28, Tryd.ntmps28
      go_wp2
      go_ret
      exact ⟨ret_bool H.out.symm, rfl⟩
    · have H := Lib.hid (known_high (m := m) (by omega))
      go_enter Tryd.func28, Tryd.ntmps28
      go_wp2
      go_ret
      exact ⟨ret_bool H.out.symm, rfl⟩
  · have H := Lib.hid (known_low (m := m) (by omega))
    go_enter Tryd.func28, Tryd.ntmps28
    go_wp2
    go_ret
    exact ⟨ret_bool H.out.symm, rfl⟩
theorem rknown_any (m : Int) (w : World) : Calls Tryd.prog 31 #[.int .i64 m] w fun e w' => e = .returned (.bool (knownB m)) ∧ w = w' := by
  by_cases h0 : 0 ≤ m
  · by_cases h1 : m < 8
    · have H := Lib.hid (known_yes h0 h1)
      go_enter Tryd.func31, Tryd.ntmps31
      go_wp2
      go_ret
      exact ⟨ret_bool H.out.symm, rfl⟩
    · have H := Lib.hid (known_high (m := m) (by omega))
      go_enter Tryd.func31, Tryd.ntmps31
      go_wp2
      go_ret
      exact ⟨ret_bool H.out.symm, rfl⟩
  · have H := Lib.hid (known_low (m := m) (by omega))
    go_enter Tryd.func31, Tryd.ntmps31
    go_wp2
    go_ret
    exact ⟨ret_bool H.out.symm, rfl⟩

theorem mname_no (m : Int) (w : World) (h : knownB m = false) : Calls Tryd.prog 8 #[.int .i64 m] w fun e w' => e = .returned (.tuple #[.string ByteArray.empty, .bool false]) ∧ w = w' := by
  go_enter Tryd.func8, Tryd.ntmps8
  go_wp2_with (go_at_call 28; refine (known_any _ _).mono ?_; rintro e w' ⟨rfl, rfl⟩)
  go_ret2
  exact ⟨rfl, rfl⟩
theorem mname_yes (m : Nat) (w : World) (hm : m < 8) (hN : NamesAt w) : Calls Tryd.prog 8 #[.int .i64 m] w fun e w' => e = .returned (.tuple #[.string (nameOf m), .bool true]) ∧ w = w' := by
  have c := hN m hm
  have h0 : (0 : Int) ≤ (m : Int) := by omega
  have h1 : (m : Int) < 8 := by omega
  have hk := known_yes h0 h1
  clear hN
  go_enter Tryd.func8, Tryd.ntmps8
  go_wp2_with (go_at_call 28; refine (known_any _ _).mono ?_; rintro e w' ⟨rfl, rfl⟩)
  go_ret2
  exact ⟨rfl, rfl⟩

/-- a slice of the eight names -/
def NamesIn (w : World) (b : Nat) : Prop := ∀ m, m < 8 → w.cell? ⟨b, m, none⟩ = some (.string (nameOf m))
theorem names_any (w : World) : Calls Tryd.prog 9 #[] w fun e w' => ∃ b, e = .returned (.slice (some ⟨b, 0, none⟩) 8 8) ∧ Hid (NamesIn w' b) ∧ Below w.heap.size w w' := by
  go_enter Tryd.func9, Tryd.ntmps9
  go_wp2
  go_ret
  refine ⟨_, rfl, Lib.hid fun m hm => ?_, balloc (Below.refl _ _) _ (Nat.le_refl _)⟩
  rw [World.cell?_alloc_at _ _ _ _ rfl]
  rcases eight m hm with rfl | rfl | rfl | rfl | rfl | rfl | rfl | rfl <;> rfl

set_option maxHeartbeats 2000000 in
theorem par_any (s : ByteArray) (w : World) (hN : NamesAt w) : Calls Tryd.prog 10 #[.string s] w fun e w' => e = .returned (.tuple #[.int .i64 (parI s), .bool (parB s)]) ∧ w = w' := by
  have n0 := hN 0 (by omega)
  have n1 := hN 1 (by omega)
  have n2 := hN 2 (by omega)
  have n3 := hN 3 (by omega)
  have n4 := hN 4 (by omega)
  have n5 := hN 5 (by omega)
  have n6 := hN 6 (by omega)
  have n7 := hN 7 (by omega)
  clear hN
  go_enter Tryd.func10, Tryd.ntmps10
  go_wp2
  go_loop [7] (fun s7 => ∃ k : Nat, k ≤ 8 ∧ s7 = .int .i64 k ∧ Hid (∀ j, j < k → nameOf j ≠ s)) (fun s7 => 8 - (intOf s7).toNat)
  case atStart => exact ⟨0, by omega, rfl, Lib.hid (fun j hj => absurd hj (by omega))⟩
  case round =>
    obtain ⟨k, hk, rfl, HA⟩ := hrel
    by_cases hlt : k < 8
    · rcases eight k hlt with rfl | rfl | rfl | rfl | rfl | rfl | rfl | rfl
      · have ik : ∀ w, (Instr.index 50 (.agg #[.string (nameOf 0), .string (nameOf 1), .string (nameOf 2), .string (nameOf 3), .string (nameOf 4), .string (nameOf 5), .string (nameOf 6), .string (nameOf 7)]) (.int .i64 0)).run Tryd.prog w = .ok (.string (nameOf 0)) w := fun _ => by kernel_rfl
        by_cases he : nameOf 0 = s
        · have hs := str_yes he
          have HF := Lib.hid (par_at (by omega) he HA.out)
          clear he
          go_wp2
          go_ret2
          exact ⟨ret_ib HF.out.1.symm HF.out.2.symm, rfl⟩
        · have hs := str_no he
          have HF : Hid (∀ j, j < 0 + 1 → nameOf j ≠ s) := Lib.hid (ne_step HA.out he)
          clear he
          go_wp2
          go_round
          case rel => exact ⟨0 + 1, by omega, rfl, HF⟩
          case measure => decide
      · have ik : ∀ w, (Instr.index 50 (.agg #[.string (nameOf 0), .string (nameOf 1), .string (nameOf 2), .string (nameOf 3), .string (nameOf 4), .string (nameOf 5), .string (nameOf 6), .string (nameOf 7)]) (.int .i64 1)).run Tryd.prog w = .ok (.string (nameOf 1)) w := fun _ => by kernel_rfl
        by_cases he : nameOf 1 = s
        · have hs := str_yes he
          have HF := Lib.hid (par_at (by omega) he HA.out)
          clear he
          go_wp2
          go_ret2
          exact ⟨ret_ib HF.out.1.symm HF.out.2.symm, rfl⟩
        · have hs := str_no he
          have HF : Hid (∀ j, j < 1 + 1 → nameOf j ≠ s) := Lib.hid (ne_step HA.out he)
          clear he
          go_wp2
          go_round
          case rel => exact ⟨1 + 1, by omega, rfl, HF⟩
          case measure => decide
      · have ik : ∀ w, (Instr.index 50 (.agg #[.string (nameOf 0), .string (nameOf 1), .string (nameOf 2), .string (nameOf 3), .string (nameOf 4), .string (nameOf 5), .string (nameOf 6), .string (nameOf 7)]) (.int .i64 2)).run Tryd.prog w = .ok (.string (nameOf 2)) w := fun _ => by kernel_rfl
        by_cases he : nameOf 2 = s
        · have hs := str_yes he
          have HF := Lib.hid (par_at (by omega) he HA.out)
          clear he
          go_wp2
          go_ret2
          exact ⟨ret_ib HF.out.1.symm HF.out.2.symm, rfl⟩
        · have hs := str_no he
          have HF : Hid (∀ j, j < 2 + 1 → nameOf j ≠ s) := Lib.hid (ne_step HA.out he)
          clear he
          go_wp2
          go_round
          case rel => exact ⟨2 + 1, by omega, rfl, HF⟩
          case measure => decide
      · have ik : ∀ w, (Instr.index 50 (.agg #[.string (nameOf 0), .string (nameOf 1), .string (nameOf 2), .string (nameOf 3), .string (nameOf 4), .string (nameOf 5), .string (nameOf 6), .string (nameOf 7)]) (.int .i64 3)).run Tryd.prog w = .ok (.string (nameOf 3)) w := fun _ => by kernel_rfl
        by_cases he : nameOf 3 = s
        · have hs := str_yes he
          have HF := Lib.hid (par_at (by omega) he HA.out)
          clear he
          go_wp2
          go_ret2
          exact ⟨ret_ib HF.out.1.symm HF.out.2.symm, rfl⟩
        · have hs := str_no he
          have HF : Hid (∀ j, j < 3 + 1 → nameOf j ≠ s) := Lib.hid (ne_step HA.out he)
          clear he
          go_wp2
          go_round
          case rel => exact ⟨3 + 1, by omega, rfl, HF⟩
          case measure => decide
      · have ik : ∀ w, (Instr.index 50 (.agg #[.string (nameOf 0), .string (nameOf 1), .string (nameOf 2), .string (nameOf 3), .string (nameOf 4), .string (nameOf 5), .string (nameOf 6), .string (nameOf 7)]) (.int .i64 4)).run Tryd.prog w = .ok (.string (nameOf 4)) w := fun _ => by kernel_rfl
        by_cases he : nameOf 4 = s
        · have hs := str_yes he
          have HF := Lib.hid (par_at (by omega) he HA.out)
          clear he
          go_wp2
          go_ret2
          exact ⟨ret_ib HF.out.1.symm HF.out.2.symm, rfl⟩
        · have hs := str_no he
          have HF : Hid (∀ j, j < 4 + 1 → nameOf j ≠ s) := Lib.hid (ne_step HA.out he)
          clear he
          go_wp2
          go_round
          case rel => exact ⟨4 + 1, by omega, rfl, HF⟩
          case measure => decide
      · have ik : ∀ w, (Instr.index 50 (.agg #[.string (nameOf 0), .string (nameOf 1), .string (nameOf 2), .string (nameOf 3), .string (nameOf 4), .string (nameOf 5), .string (nameOf 6), .string (nameOf 7)]) (.int .i64 5)).run Tryd.prog w = .ok (.string (nameOf 5)) w := fun _ => by kernel_rfl
        by_cases he : nameOf 5 = s
        · have hs := str_yes he
          have HF := Lib.hid (par_at (by omega) he HA.out)
          clear he
          go_wp2
          go_ret2
          exact ⟨ret_ib HF.out.1.symm HF.out.2.symm, rfl⟩
        · have hs := str_no he
          have HF : Hid (∀ j, j < 5 + 1 → nameOf j ≠ s) := Lib.hid (ne_step HA.out he)
          clear he
          go_wp2
          go_round
          case rel => exact ⟨5 + 1, by omega, rfl, HF⟩
          case measure => decide
      · have ik : ∀ w, (Instr.index 50 (.agg #[.string (nameOf 0), .string (nameOf 1), .string (nameOf 2), .string (nameOf 3), .string (nameOf 4), .string (nameOf 5), .string (nameOf 6), .string (nameOf 7)]) (.int .i64 6)).run Tryd.prog w = .ok (.string (nameOf 6)) w := fun _ => by kernel_rfl
        by_cases he : nameOf 6 = s
        · have hs := str_yes he
          have HF := Lib.hid (par_at (by omega) he HA.out)
          clear he
          go_wp2
          go_ret2
          exact ⟨ret_ib HF.out.1.symm HF.out.2.symm, rfl⟩
        · have hs := str_no he
          have HF : Hid (∀ j, j < 6 + 1 → nameOf j ≠ s) := Lib.hid (ne_step HA.out he)
          clear he
          go_wp2
          go_round
          case rel => exact ⟨6 + 1, by omega, rfl, HF⟩
          case measure => decide
      · have ik : ∀ w, (Instr.index 50 (.agg #[.string (nameOf 0), .string (nameOf 1), .string (nameOf 2), .string (nameOf 3), .string (nameOf 4), .string (nameOf 5), .string (nameOf 6), .string (nameOf 7)]) (.int .i64 7)).run Tryd.prog w = .ok (.string (nameOf 7)) w := fun _ => by kernel_rfl
        by_cases he : nameOf 7 = s
        · have hs := str_yes he
          have HF := Lib.hid (par_at (by omega) he HA.out)
          clear he
          go_wp2
          go_ret2
          exact ⟨ret_ib HF.out.1.symm HF.out.2.symm, rfl⟩
        · have hs := str_no he
          have HF : Hid (∀ j, j < 7 + 1 → nameOf j ≠ s) := Lib.hid (ne_step HA.out he)
          clear he
          go_wp2
          go_round
          case rel => exact ⟨7 + 1, by omega, rfl, HF⟩
          case measure => decide
    · obtain rfl : k = 8 := by omega
      have HF := Lib.hid (par_none HA.out)
      go_wp2
      go_ret2
      exact ⟨ret_ib HF.out.1.symm HF.out.2.symm, rfl⟩

set_option maxHeartbeats 2000000 in
theorem rpar_any (s : ByteArray) (w : World) : Calls Tryd.prog 11 #[.string s] w fun e w' => e = .returned (.tuple #[.int .i64 (parI s), .bool (parB s)]) ∧ Below w.heap.size w w' := by
  have r := Nat.le_refl w.heap.size
  go_enter Tryd.func11, Tryd.ntmps11
  go_wp2
  go_loopw [4] (fun s4 wr => ∃ k : Nat, k ≤ 8 ∧ s4 = .int .i64 k ∧ Hid (∀ j, j < k → nameOf j ≠ s) ∧ Hid (Below w.heap.size w wr)) (fun s4 _ => 8 - (intOf s4).toNat)
  case atStart => exact ⟨0, by omega, rfl, Lib.hid (fun j hj => absurd hj (by omega)), Lib.hid (Below.refl _ _)⟩
  case round =>
    obtain ⟨k, hk, rfl, HA, HB⟩ := hrel
    by_cases hlt : k < 8
    · have k0 : (0 : Int) ≤ (k : Int) := by omega
      have k8 : (k : Int) < 8 := by omega
      by_cases he : nameOf k = s
      · have hs := str_yes he
        have HF := Lib.hid (par_at hlt he HA.out)
        clear he
        go_wp2_with fail
        refine (names_any _).mono ?_
        rintro e w1 ⟨b, rfl, HN, hb⟩
        have c := HN.out k hlt
        have HB := Lib.hid (bthen HB.out hb r)
        clear hb
        go_wp2
        go_ret2
        exact ⟨ret_ib HF.out.1.symm HF.out.2.symm, HB.out⟩
      · have hs := str_no he
        have HF := Lib.hid (ne_step HA.out he)
        clear he
        go_wp2_with fail
        refine (names_any _).mono ?_
        rintro e w1 ⟨b, rfl, HN, hb⟩
        have c := HN.out k hlt
        have HB := Lib.hid (bthen HB.out hb r)
        clear hb
        go_wp2
        go_roundw
        case rel => exact ⟨k + 1, by omega, by go_num, HF, HB⟩
        case measure => simp [intOf]; omega
    · obtain rfl : k = 8 := by omega
      have HF := Lib.hid (par_none HA.out)
      go_wp2
      go_ret2
      exact ⟨ret_ib HF.out.1.symm HF.out.2.symm, HB.out⟩

set_option maxHeartbeats 400000 in
theorem one_any (i : Int) (w : World) :
    Calls Tryd.prog 35 #[.int .i64 i] w fun e w' => e = .returned (.int .u64 (oneN i : Nat)) ∧ w = w' := by
  by_cases h : 0 ≤ i ∧ i ≤ 63
  · obtain ⟨h1, h2⟩ := h
    go_enter Tryd.func35, Tryd.ntmps35
    go_wp2
    go_ret
    exact ⟨ret_int (Bs.one_shl h1 h2), rfl⟩
  · have h0 := Lib.hid (Bs.one_out h)
    rcases (show i < 0 ∨ 63 < i from by omega) with h1 | h1
    · clear h
      go_enter Tryd.func35, Tryd.ntmps35
      go_wp2
      go_ret
      exact ⟨ret_int (by rw [h0.out]; rfl), rfl⟩
    · have h2 : ¬ i < 0 := by omega
      clear h
      go_enter Tryd.func35, Tryd.ntmps35
      go_wp2
      go_ret
      exact ⟨ret_int (by rw [h0.out]; rfl), rfl⟩

set_option maxHeartbeats 400000 in
theorem with_any (s : Nat) (i : Int) (w : World) (hs : U64 s) :
    Calls Tryd.prog 29 #[.int .u64 s, .int .i64 i] w fun e w' => e = .returned (.int .u64 (withN s i : Nat)) ∧ w = w' := by
  have hb := Bs.bOr hs (Bs.uOne i)
  go_enter Tryd.func29, Tryd.ntmps29
  go_wp2_with (go_at_call 35; refine (one_any _ _).mono ?_; rintro e w' ⟨rfl, rfl⟩)
  go_ret
  exact ⟨rfl, rfl⟩

set_option maxHeartbeats 400000 in
set_option maxHeartbeats 400000 in
theorem has_any (s : Nat) (i : Int) (w : World) (hs : U64 s) :
    Calls Tryd.prog 30 #[.int .u64 s, .int .i64 i] w fun e w' => e = .returned (.bool (hasB s i)) ∧ w = w' := by
  have hb := Bs.bAnd hs (Bs.uOne i)
  go_enter Tryd.func30, Tryd.ntmps30
  go_wp2_with (go_at_call 35; refine (one_any _ _).mono ?_; rintro e w' ⟨rfl, rfl⟩)
  go_ret
  exact ⟨ret_bool (Bs.has_int s i), rfl⟩

set_option maxHeartbeats 400000 in
theorem same_any (A B : Option Addr) (n m c d : Nat) (xs ys : List Int) (w : World) (hx : IntsAt w A n xs) (hy : IntsAt w B m ys) (hn : n ≤ 1000000) (hm : m ≤ 1000000) :
    Calls Tryd.prog 15 #[.slice A n c, .slice B m d] w fun e w' => e = .returned (.bool (sameB xs ys)) ∧ ∃ q, w' = w.drewN q := by
  have HX := Lib.hid hx
  have HY := Lib.hid hy
  clear hx hy
  by_cases hl : n = m
  · subst hl
    go_enter Tryd.func15, Tryd.ntmps15
    go_wp2
    go_loopw [5] (fun k wr => ∃ j q : Nat, j ≤ n ∧ k = .int .i64 j ∧ wr = w.drewN q ∧ ∀ i, i < j → gi xs i = gi ys i) (fun k _ => n - (intOf k).toNat)
    case atStart => exact ⟨0, 0, by omega, rfl, rfl, fun i h => absurd h (by omega)⟩
    case round =>
      obtain ⟨j, q, hj, rfl, rfl, hall⟩ := hrel
      have HA := Lib.hid hall
      clear hall
      by_cases hlt : j < n
      · obtain ⟨ad, rfl, hc1⟩ := HX.out.2 j hlt
        obtain ⟨bd, rfl, hc2⟩ := HY.out.2 j hlt
        have hlt' : (j : Int) < (n : Int) := by omega
        have hj0 : (0 : Int) ≤ (j : Int) := by omega
        by_cases he : gi xs j = gi ys j
        · have hb : (gi xs j != gi ys j) = false := by simp [he]
          have HE := Lib.hid he
          clear he
          go_wp2
          go_quiet (fail)
          go_wp2
          go_roundw
          case rel => exact ⟨j + 1, _, by omega, by go_num, rfl, fun i hi => by
            by_cases e : i = j
            · subst e; exact HE.out
            · exact HA.out i (by omega)⟩
          case measure => simp [intOf]; omega
        · have hb : (gi xs j != gi ys j) = true := by simp [he]
          have HE := Lib.hid he
          clear he
          go_wp2
          go_quiet (fail)
          go_wp2
          go_ret
          exact ⟨ret_bool (sameB_at HE.out).symm, _, by rw [World.drewN_drewN]⟩
      · go_wp2
        go_ret
        exact ⟨ret_bool (sameB_all (by rw [HX.out.1, HY.out.1]) (fun k hk => HA.out k (by have := HX.out.1; omega))).symm, _, rfl⟩
  · have hne : ((n : Int) != (m : Int)) = true := by rw [bne_iff_ne]; omega
    go_enter Tryd.func15, Tryd.ntmps15
    go_wp2
    go_ret
    exact ⟨ret_bool (sameB_len (by rw [HX.out.1, HY.out.1]; exact hl)).symm, 0, rfl⟩

theorem bit_any (n : Int) (i : Nat) (w : World) (hi : i < 8) : Calls Tryd.prog 32 #[.int .i64 n, .int .i64 i] w fun e w' => e = .returned (.bool (hasB (w64 n) i)) ∧ w = w' := by
  have hw := w64_eq n
  obtain ⟨u, hu⟩ : ∃ u, u = w64 n := ⟨_, rfl⟩
  rw [← hu] at hw ⊢
  clear hu
  rcases eight i hi with rfl | rfl | rfl | rfl | rfl | rfl | rfl | rfl
  · go_enter Tryd.func32, Tryd.ntmps32
    go_wp2
    go_ret
    exact ⟨ret_bool (by have := Bs.has_quo u 0 (by omega); rw [← this]; simp [Bs.pw]), rfl⟩
  · go_enter Tryd.func32, Tryd.ntmps32
    go_wp2
    go_ret
    exact ⟨ret_bool (Bs.has_quo u 1 (by omega)), rfl⟩
  · go_enter Tryd.func32, Tryd.ntmps32
    go_wp2
    go_ret
    exact ⟨ret_bool (Bs.has_quo u 2 (by omega)), rfl⟩
  · go_enter Tryd.func32, Tryd.ntmps32
    go_wp2
    go_ret
    exact ⟨ret_bool (Bs.has_quo u 3 (by omega)), rfl⟩
  · go_enter Tryd.func32, Tryd.ntmps32
    go_wp2
    go_ret
    exact ⟨ret_bool (Bs.has_quo u 4 (by omega)), rfl⟩
  · go_enter Tryd.func32, Tryd.ntmps32
    go_wp2
    go_ret
    exact ⟨ret_bool (Bs.has_quo u 5 (by omega)), rfl⟩
  · go_enter Tryd.func32, Tryd.ntmps32
    go_wp2
    go_ret
    exact ⟨ret_bool (Bs.has_quo u 6 (by omega)), rfl⟩
  · go_enter Tryd.func32, Tryd.ntmps32
    go_wp2
    go_ret
    exact ⟨ret_bool (Bs.has_quo u 7 (by omega)), rfl⟩

set_option maxHeartbeats 1000000 in
theorem modes_any (A : Option Addr) (n c : Nat) (l : List Route) (w : World) (hx : SAt routeC w A n l) (hn : n ≤ 1000) :
    Calls Tryd.prog 13 #[.slice A n c] w fun e w' => e = .returned (.int .u64 (modesTo l n : Nat)) ∧ Below w.heap.size w w' := by
  have r := Nat.le_refl w.heap.size
  have H := Lib.hid hx
  clear hx
  go_enter Tryd.func13, Tryd.ntmps13
  go_wp2
  go_loopw [3, 8] (fun s3 s8 wr => ∃ k : Nat, k ≤ n ∧ s8 = .int .i64 k ∧ s3 = .int .u64 (modesTo l k : Nat) ∧ Below w.heap.size w wr) (fun _ s8 _ => n - (intOf s8).toNat)
  case atStart => exact ⟨0, by omega, rfl, rfl, Below.refl _ _⟩
  case round =>
    obtain ⟨k, hk, rfl, rfl, hbel⟩ := hrel
    by_cases hlt : k < n
    · have k0 : (0 : Int) ≤ (k : Int) := by omega
      have kn : (k : Int) < (n : Int) := by omega
      obtain ⟨b, o, hA, _⟩ := H.out.at_ hlt
      subst hA
      obtain ⟨c0, c1, c2⟩ := route_cells (H.out.stays hbel) hlt
      have hbx := balloc hbel (.cells (routeA (gr l k)) 52) (Nat.le_refl _)
      have hu : U64 (modesTo l k) := by have := modes_lt l k; unfold U64; omega
      have HU := Lib.hid hu
      clear hu hbel
      cases hb : knownB (gr l k).mode
      · have HE : Hid (modesTo l (k + 1) = modesTo l k) := Lib.hid (if_neg (by rw [hb]; simp))
        go_wp2_with (go_at_call 28; refine (known_any _ _).mono ?_; rintro e w' ⟨rfl, rfl⟩)
        go_roundw
        case rel => exact ⟨k + 1, by omega, by go_num, by rw [HE.out], hbx⟩
        case measure => simp [intOf]; omega
      · have HE : Hid (modesTo l (k + 1) = withN (modesTo l k) (gr l k).mode) := Lib.hid (if_pos hb)
        go_wp2_with (first | (go_at_call 28; refine (known_any _ _).mono ?_; rintro e w' ⟨rfl, rfl⟩) | (go_at_call 29; refine (with_any _ _ _ HU.out).mono ?_; rintro e w' ⟨rfl, rfl⟩))
        go_roundw
        case rel => exact ⟨k + 1, by omega, by go_num, by rw [HE.out], hbx⟩
        case measure => simp [intOf]; omega
    · obtain rfl : k = n := by omega
      have hd : ¬ ((k : Int) < (k : Int)) := by omega
      go_wp2
      go_ret
      exact ⟨rfl, hbel⟩

set_option maxHeartbeats 2000000 in
theorem rmodes_any (A : Option Addr) (n c : Nat) (l : List Route) (w : World) (hx : SAt routeC w A n l) (hn : n ≤ 1000) :
    Calls Tryd.prog 14 #[.slice A n c] w fun e w' => e = .returned (.int .u64 (modesTo l n : Nat)) ∧ w = w' := by
  have H := Lib.hid hx
  have HS := Lib.hid (sum_modes hx.1)
  clear hx
  go_enter Tryd.func14, Tryd.ntmps14
  go_wp2
  go_loop [3, 4] (fun s3 s4 => ∃ m : Nat, m ≤ 8 ∧ s4 = .int .i64 m ∧ s3 = .int .u64 (sumTo l m : Nat)) (fun _ s4 => 8 - (intOf s4).toNat)
  case atStart => exact ⟨0, by omega, rfl, rfl⟩
  case round =>
    obtain ⟨m, hm, rfl, rfl⟩ := hrel
    by_cases hlt : m < 8
    · have m0 : (0 : Int) ≤ (m : Int) := by omega
      have m8 : (m : Int) < 8 := by omega
      go_wp2
      go_loop [5, 6] (fun s5 s6 => ∃ k : Nat, k ≤ n ∧ s6 = .int .i64 k ∧ s5 = .bool (occB l m k)) (fun _ s6 => n - (intOf s6).toNat)
      case atStart => exact ⟨0, by omega, rfl, by rw [occ_zero]⟩
      case round =>
        obtain ⟨k, hk, rfl, rfl⟩ := hrel
        by_cases hkn : k < n
        · have k0 : (0 : Int) ≤ (k : Int) := by omega
          have kn : (k : Int) < (n : Int) := by omega
          obtain ⟨b, o, hA, _⟩ := H.out.at_ hkn
          subst hA
          obtain ⟨_, c1, _⟩ := route_cells H.out hkn
          have HO := Lib.hid (occ_step l m k)
          cases ho : occB l m k
          · by_cases he : (gr l k).mode = (m : Int)
            · have e1 : ((gr l k).mode == (m : Int)) = true := beq_iff_eq.2 he
              have HE : Hid (occB l m (k + 1) = true) := Lib.hid (by rw [HO.out, ho, decide_eq_true he]; rfl)
              clear he
              go_wp2
              go_round
              case rel => exact ⟨k + 1, by omega, by go_num, by rw [HE.out]⟩
              case measure => simp [intOf]; omega
            · have e1 : ((gr l k).mode == (m : Int)) = false := beq_eq_false_iff_ne.2 he
              have HE : Hid (occB l m (k + 1) = false) := Lib.hid (by rw [HO.out, ho, decide_eq_false he]; rfl)
              clear he
              go_wp2
              go_round
              case rel => exact ⟨k + 1, by omega, by go_num, by rw [HE.out]⟩
              case measure => simp [intOf]; omega
          · have HE : Hid (occB l m (k + 1) = true) := Lib.hid (by rw [HO.out, ho]; rfl)
            go_wp2
            go_round
            case rel => exact ⟨k + 1, by omega, by go_num, by rw [HE.out]⟩
            case measure => simp [intOf]; omega
        · obtain rfl : k = n := by omega
          have hd : ¬ ((k : Int) < (k : Int)) := by omega
          have HL := Lib.hid H.out.1
          cases ho : occB l m k
          · have HE : Hid (sumTo l (m + 1) = sumTo l m) := Lib.hid (if_neg (by rw [HL.out, ho]; simp))
            go_wp2
            go_round
            case rel => exact ⟨m + 1, by omega, by go_num, by rw [HE.out]⟩
            case measure => simp [intOf]; omega
          · have HE : Hid (sumTo l (m + 1) = sumTo l m + 2 ^ m) := Lib.hid (if_pos (by rw [HL.out, ho]))
            have hsl := sum_lt l m
            rcases eight m hlt with rfl | rfl | rfl | rfl | rfl | rfl | rfl | rfl
            all_goals
              simp only [Nat.reducePow] at hsl
              go_wp2
              go_round
              case rel => exact ⟨_ + 1, by omega, rfl, by rw [HE.out]; rfl⟩
              case measure => decide
    · obtain rfl : m = 8 := by omega
      go_wp2
      go_ret
      exact ⟨ret_int (by rw [HS.out]), rfl⟩
end Go.Proofs.YtokjkllfkjiaiaaDoor
