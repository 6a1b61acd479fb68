/-
  Check, CheckExceptions: both; named, small, same. Printed by gen/calc.py.
-/
import Derived.Test.YtjmjejpfilejdaaCalA
import Derived.Test.YtjmjejpfilejdaaCalE
import Derived.Test.YtjmjejpfilejdaaIdR
import Derived.DeepKeys4
namespace Go.Proofs.Ytjmjejpfilejdaa
open Go.RowKit
open Go.Maps (Keyed)
open Go.ChangeMaps Go.WideMaps Go.WideElems

theorem zeroBool (w : World) : (zeroValue 4).run Try.prog w = .ok (.bool false) w := by kernel_rfl
theorem keyedS : Keyed Try.prog 9 := Maps.string_keyed Try.underlying9
theorem laidOutP : laidOutB Try.prog = true := by kernel_rfl
theorem keyedP : Keyed Try.prog 61 := Keyed.of_law (deep_law_laid laidOutP (m := 2) (by omega) (of_decide_eq_true (by kernel_rfl)) (by kernel_rfl) (by kernel_rfl))
/-- pairs of ints as keys -/
def encP (x : Int × Int) : Lit := .string (keyBytes [.int .i64 x.1, .int .i64 x.2])
/-- both fit their kind -/
def okP (x : Int × Int) : Prop := I64 x.1 ∧ I64 x.2
theorem keyOf_pair {a b : Int} (ha : I64 a) (hb : I64 b) : keyOf Try.prog 61 (.agg #[.int .i64 a, .int .i64 b]) = some (encP (a, b)) := by
  have h1 : (Lit.int .i64 a).wf = true := WalkArith.wf_i64 ha
  have h2 : (Lit.int .i64 b).wf = true := WalkArith.wf_i64 hb
  have c1 : Try.prog.cellsOf 61 = 2 := by kernel_rfl
  have c2 : Try.prog.cellsOf 3 = 1 := by kernel_rfl
  have k1 : Try.prog.keyType 61 = true := by kernel_rfl
  obtain ⟨m, hm⟩ : ∃ m, Try.prog.types.size = m + 1 := ⟨_, (Nat.succ_pred_eq_of_pos (of_decide_eq_true (by kernel_rfl))).symm⟩
  unfold keyOf
  rw [Try.underlying61]
  simp only [k1, Value.formed, Try.underlying61, c1]
  simp only [Value.cells, Program.keyLits, Try.underlying61, c1, c2]
  rw [hm]
  simp [Program.keyLits, Try.underlying3, h1, h2, encP, List.range, List.range.loop]
theorem encP_inj {x y : Int × Int} (hx : okP x) (hy : okP y) (h : encP x = encP y) : x = y := by
  have h1 := keyOf_pair hx.1 hx.2
  have h2 := keyOf_pair hy.1 hy.2
  rw [show ((x.1, x.2) : Int × Int) = x from rfl, h] at h1
  rw [show ((y.1, y.2) : Int × Int) = y from rfl] at h2
  have := keyedP.inj h1 h2
  injection this with this
  simp only [Array.mk.injEq, List.cons.injEq, Value.int.injEq, and_true, true_and] at this
  exact Prod.ext this.1 this.2
/-- a callee that changes nothing, met behind a draw -/
theorem quiet_on {P : Program} {f : FuncId} {args : Array Value} {w : World} {a n : Nat} {v : Value} (h : Calls P f args (w.drewN (a + n)) fun e w' => e = .returned v ∧ w.drewN (a + n) = w') :
    Calls P f args (w.drewN (a + n)) fun e w'' => e = .returned v ∧ ∃ m, w'' = w.drewN (a + m) := h.mono fun _ _ ⟨he, hm⟩ => ⟨he, n, hm.symm⟩
/-- what is known of the identifiers' lengths -/
def SizedC (l : List Cal) : Prop := ∀ c ∈ l, c.id.size ≤ 9223372036854775807
theorem SizedC.at_ {l : List Cal} {n : Nat} (h : SizedC l) (hl : l.length = n) : ∀ k, k < n → (gcal l k).id.size ≤ 9223372036854775807 := fun _ hk => h _ (gcal_mem (by omega))
/-- exceptions of ints that fit -/
def SizedX (x : List Exc) : Prop := ∀ c ∈ x, I64 c.cal ∧ I64 c.day
theorem SizedX.at_ {x : List Exc} {n : Nat} (h : SizedX x) (hl : x.length = n) : ∀ k, k < n → okP (keyX x k) := fun _ hk => h _ (excC.g_mem (by omega))

set_option maxHeartbeats 4000000 in
theorem check_any (A : Option Addr) (n c : Nat) (l : List Cal) (w : World) (hx : SAt calC w A n l) (hs : ∀ k, k < n → (gcal l k).id.size ≤ 9223372036854775807) :
    Calls Try.prog 13 #[.slice A n c] w fun e w' => e = .returned (.tuple #[.int .i64 (chkI (errC l) 64 n), .int .i64 (chkE (errC l) 64 n)]) ∧ Below w.heap.size w w' := by
  have H := Lib.hid hx
  have HS := Lib.hid hs
  clear hx hs
  by_cases h64 : n ≤ 64
  · have h64' : ¬ (64 : Int) < (n : Int) := by omega
    have hmm := @run_makeMap Try.prog
    go_enter Try.func13, Try.ntmps13
    go_wp2
    go_loopw [13] (fun i wr => ∃ (k : Nat) (D : DataW Unit), k ≤ n ∧ i = .int .i64 k ∧ wr.ownsMap Try.prog 9 (plainElem Try.prog 4) w.heap.size k D ∧ Hid (SeenD encS (fun _ => True) (idOf l) k D) ∧ Hid (Fine (errC l) k) ∧ Below w.heap.size w wr) (fun i _ => n - (intOf i).toNat)
    case atStart => exact ⟨0, .map [], by omega, rfl, World.ownsMap_made _ _ _ _, Lib.hid (SeenD.zero _ _ _), Lib.hid (Fine.zero _), balloc (Below.refl _ w) _ (Nat.le_refl _)⟩
    case round =>
      obtain ⟨k, D, hk, rfl, hown, HD, HA, hbel⟩ := hrel
      by_cases hlt : k < n
      · have k0 : (0 : Int) ≤ (k : Int) := by omega
        have kn : (k : Int) < (n : Int) := by omega
        obtain ⟨b, o, hA, _⟩ := H.out.at_ hlt
        subst hA
        obtain ⟨c0, c1, c2, c3, c4, c5, c6, c7, c8, c9⟩ := cal_cells (H.out.stays hbel) hlt
        have hsz := HS.out k hlt
        have hbx := balloc hbel (.cells (calA (gcal l k)) 50) (Nat.le_refl _)
        have HM := Lib.hid (hown.alloc (.cells (calA (gcal l k)) 50))
        have HI := Lib.hid hown.isMap
        have hkey := keyOf_string_mk Try.underlying9 (s := (gcal l k).id) (by unfold maxLen; exact hsz)
        clear hown hbel
        cases hv : validB (gcal l k).id
        · have HF := Lib.hid (chk_at h64 hlt HA.out (errC_name hv) (by decide))
          go_wp2_with (go_at_call 30; refine (valid_any _ _ hsz).mono ?_; rintro e w' ⟨rfl, rfl⟩)
          go_ret2
          exact ⟨ret_ii HF.out.1.symm HF.out.2.symm, hbx⟩
        · cases hdd : dupB (idOf l) k
          · cases hf : dayB (gcal l k).frm
            · have HF := Lib.hid (chk_at h64 hlt HA.out (errC_dates hv hdd (dates_from hf)) (by decide))
              go_wp2_with (first | (go_at_call 30; refine (valid_any _ _ hsz).mono ?_; rintro e w' ⟨rfl, rfl⟩) | (go_at_call 31; refine (day_any _ _).mono ?_; rintro e w' ⟨rfl, rfl⟩) | (at_lookup; refine wpList_lookup_own_bool _ rfl _ _ 57 rfl 9 4 keyedS Try.underlying57 Try.underlying4 (zeroBool _) w.heap.size k D rfl HM.out _ _ rfl hkey ?_; intro cc hat; obtain rfl := HD.out.lookS hat))
              go_ret2
              exact ⟨ret_ii HF.out.1.symm HF.out.2.symm, hbx⟩
            · cases ht : dayB (gcal l k).til
              · have HF := Lib.hid (chk_at h64 hlt HA.out (errC_dates hv hdd (dates_til ht)) (by decide))
                go_wp2_with (first | (go_at_call 30; refine (valid_any _ _ hsz).mono ?_; rintro e w' ⟨rfl, rfl⟩) | (go_at_call 31; refine (day_any _ _).mono ?_; rintro e w' ⟨rfl, rfl⟩) | (at_lookup; refine wpList_lookup_own_bool _ rfl _ _ 57 rfl 9 4 keyedS Try.underlying57 Try.underlying4 (zeroBool _) w.heap.size k D rfl HM.out _ _ rfl hkey ?_; intro cc hat; obtain rfl := HD.out.lookS hat))
                go_ret2
                exact ⟨ret_ii HF.out.1.symm HF.out.2.symm, hbx⟩
              · by_cases hft : (gcal l k).til < (gcal l k).frm
                · have HF := Lib.hid (chk_at h64 hlt HA.out (errC_dates hv hdd (dates_turn hft)) (by decide))
                  go_wp2_with (first | (go_at_call 30; refine (valid_any _ _ hsz).mono ?_; rintro e w' ⟨rfl, rfl⟩) | (go_at_call 31; refine (day_any _ _).mono ?_; rintro e w' ⟨rfl, rfl⟩) | (at_lookup; refine wpList_lookup_own_bool _ rfl _ _ 57 rfl 9 4 keyedS Try.underlying57 Try.underlying4 (zeroBool _) w.heap.size k D rfl HM.out _ _ rfl hkey ?_; intro cc hat; obtain rfl := HD.out.lookS hat))
                  go_ret2
                  exact ⟨ret_ii HF.out.1.symm HF.out.2.symm, hbx⟩
                · have HF := Lib.hid (HA.out.step (errC_zero hv hdd (dates_ok hf ht hft)))
                  go_wp2_with (first | (go_at_call 30; refine (valid_any _ _ hsz).mono ?_; rintro e w' ⟨rfl, rfl⟩) | (go_at_call 31; refine (day_any _ _).mono ?_; rintro e w' ⟨rfl, rfl⟩) | (at_lookup; refine wpList_lookup_own_bool _ rfl _ _ 57 rfl 9 4 keyedS Try.underlying57 Try.underlying4 (zeroBool _) w.heap.size k D rfl HM.out _ _ rfl hkey ?_; intro cc hat; obtain rfl := HD.out.lookS hat) | (at_mapUpdate; refine wpList_mapUpdate_own _ rfl _ _ _ 57 rfl 9 4 keyedS Try.underlying57 _ w.heap.size k D rfl HM.out (by unfold maxLen; omega) _ _ _ rfl rfl hkey (.lit (.bool true)) [] (plainElem_bool Try.underlying4 true) ?_; intro w1 hown1 hgrow1))
                  have HB1 := Lib.hid (hbx.grown hgrow1 hbx.size (fun j ej => by cases ej; exact Nat.le_refl _))
                  have HD1 := Lib.hid (HD.out.stepS HI.out)
                  clear hgrow1 hbx
                  go_wp2
                  go_roundw
                  case rel => exact ⟨k + 1, _, by omega, by go_num, hown1, HD1, HF, HB1.out⟩
                  case measure => simp [intOf]; omega
          · have HF := Lib.hid (chk_at h64 hlt HA.out (errC_dup hv hdd) (by decide))
            go_wp2_with (first | (go_at_call 30; refine (valid_any _ _ hsz).mono ?_; rintro e w' ⟨rfl, rfl⟩) | (at_lookup; refine wpList_lookup_own_bool _ rfl _ _ 57 rfl 9 4 keyedS Try.underlying57 Try.underlying4 (zeroBool _) w.heap.size k D rfl HM.out _ _ rfl hkey ?_; intro cc hat; obtain rfl := HD.out.lookS hat))
            go_ret2
            exact ⟨ret_ii HF.out.1.symm HF.out.2.symm, hbx⟩
      · obtain rfl : k = n := by omega
        have hd : ¬ ((k : Int) < (k : Int)) := by omega
        have HF := Lib.hid (chk_end h64 HA.out)
        go_wp2
        go_ret2
        exact ⟨ret_ii HF.out.1.symm HF.out.2.symm, hbel⟩
  · have h64' : (64 : Int) < (n : Int) := by omega
    have HF := Lib.hid (chk_big (err := errC l) (M := 64) (n := n) (by omega))
    go_enter Try.func13, Try.ntmps13
    go_wp2
    go_ret2
    exact ⟨ret_ii HF.out.1.symm HF.out.2.symm, Below.refl _ _⟩

set_option maxHeartbeats 4000000 in
theorem rcheck_any (A : Option Addr) (n c : Nat) (l : List Cal) (w : World) (hx : SAt calC w A n l) (hs : ∀ k, k < n → (gcal l k).id.size ≤ 9223372036854775807) :
    Calls Try.prog 14 #[.slice A n c] w fun e w' => e = .returned (.tuple #[.int .i64 (chkI (errC l) 64 n), .int .i64 (chkE (errC l) 64 n)]) ∧ ∃ q, w' = w.drewN q := by
  have H := Lib.hid hx
  have HS := Lib.hid hs
  clear hx hs
  by_cases h64 : n ≤ 64
  · have h64' : ¬ (64 : Int) < (n : Int) := by omega
    go_enter Try.func14, Try.ntmps14
    go_wp2
    go_loopw [4] (fun i wr => ∃ k q : Nat, k ≤ n ∧ i = .int .i64 k ∧ wr = w.drewN q ∧ Hid (Fine (errC l) k)) (fun i _ => n - (intOf i).toNat)
    case atStart => exact ⟨0, 0, by omega, rfl, rfl, Lib.hid (Fine.zero _)⟩
    case round =>
      obtain ⟨k, q, hk, rfl, rfl, HA⟩ := hrel
      by_cases hlt : k < n
      · have k0 : (0 : Int) ≤ (k : Int) := by omega
        have kn : (k : Int) < (n : Int) := by omega
        obtain ⟨b, o, hA, _⟩ := H.out.at_ hlt
        subst hA
        obtain ⟨c0, _, _, _, _, _, _, _, c8, c9⟩ := cal_cells H.out hlt
        have hsz := HS.out k hlt
        cases hv : validB (gcal l k).id
        · have HF := Lib.hid (chk_at h64 hlt HA.out (errC_name hv) (by decide))
          go_wp2_with (go_at_call 32; refine (rvalid_any _ _ hsz).mono ?_; rintro e w' ⟨rfl, rfl⟩)
          go_ret2
          exact ⟨ret_ii HF.out.1.symm HF.out.2.symm, _, rfl⟩
        · go_wp2_with (go_at_call 32; refine (rvalid_any _ _ hsz).mono ?_; rintro e w' ⟨rfl, rfl⟩)
          go_loopw [5] (fun i wx => ∃ j p : Nat, j ≤ k ∧ i = .int .i64 j ∧ wx = w.drewN p ∧ Hid (∀ m, m < j → idOf l m ≠ idOf l k)) (fun i _ => k - (intOf i).toNat)
          case atStart => exact ⟨0, q, by omega, rfl, rfl, Lib.hid (fun _ h => absurd h (by omega))⟩
          case round =>
            obtain ⟨j, p, hj, rfl, rfl, HN⟩ := hrel
            by_cases hjk : j < k
            · have j0 : (0 : Int) ≤ (j : Int) := by omega
              have jk : (j : Int) < (k : Int) := by omega
              have jn : (j : Int) < (n : Int) := by omega
              obtain ⟨d0, _⟩ := cal_cells H.out (show j < n by omega)
              by_cases he : (gcal l j).id = (gcal l k).id
              · have hse := str_yes he
                have HF := Lib.hid (chk_at h64 hlt HA.out (errC_dup hv (dup_yes (key := idOf l) hjk he)) (by decide))
                clear he
                go_wp2
                go_quiet (fail)
                go_wp2
                go_ret2
                exact ⟨ret_ii HF.out.1.symm HF.out.2.symm, _, by rw [World.drewN_drewN]⟩
              · have hse := str_no he
                have HN2 : Hid (∀ m, m < j + 1 → idOf l m ≠ idOf l k) := Lib.hid fun m hm => by
                  by_cases e : m = j
                  · subst e; exact he
                  · exact HN.out m (by omega)
                clear he
                go_wp2
                go_quiet (fail)
                go_wp2
                go_roundw
                case rel => exact ⟨j + 1, _, by omega, by go_num, rfl, HN2⟩
                case measure => simp [intOf]; omega
            · obtain rfl : j = k := by omega
              have hd : ¬ ((j : Int) < (j : Int)) := by omega
              have hdd := Lib.hid (dup_no HN.out)
              cases hf : dayB (gcal l j).frm
              · have HF := Lib.hid (chk_at h64 hlt HA.out (errC_dates hv hdd.out (dates_from hf)) (by decide))
                go_wp2
                go_quiet ((go_at_call 33; exact quiet_on (rday_any _ _)))
                go_wp2
                go_ret2
                exact ⟨ret_ii HF.out.1.symm HF.out.2.symm, _, by rw [World.drewN_drewN]⟩
              · cases ht : dayB (gcal l j).til
                · have HF := Lib.hid (chk_at h64 hlt HA.out (errC_dates hv hdd.out (dates_til ht)) (by decide))
                  go_wp2
                  go_quiet ((go_at_call 33; exact quiet_on (rday_any _ _)))
                  go_wp2
                  go_ret2
                  exact ⟨ret_ii HF.out.1.symm HF.out.2.symm, _, by rw [World.drewN_drewN]⟩
                · by_cases hft : (gcal l j).til < (gcal l j).frm
                  · have HF := Lib.hid (chk_at h64 hlt HA.out (errC_dates hv hdd.out (dates_turn hft)) (by decide))
                    go_wp2
                    go_quiet ((go_at_call 33; exact quiet_on (rday_any _ _)))
                    go_wp2
                    go_ret2
                    exact ⟨ret_ii HF.out.1.symm HF.out.2.symm, _, by rw [World.drewN_drewN]⟩
                  · have HF := Lib.hid (HA.out.step (errC_zero hv hdd.out (dates_ok hf ht hft)))
                    go_wp2
                    go_quiet ((go_at_call 33; exact quiet_on (rday_any _ _)))
                    go_wp2
                    go_roundw
                    case rel => exact ⟨j + 1, _, by omega, by go_num, rfl, HF⟩
                    case measure => simp [intOf]; omega
      · obtain rfl : k = n := by omega
        have hd : ¬ ((k : Int) < (k : Int)) := by omega
        have HF := Lib.hid (chk_end h64 HA.out)
        go_wp2
        go_ret2
        exact ⟨ret_ii HF.out.1.symm HF.out.2.symm, _, rfl⟩
  · have h64' : (64 : Int) < (n : Int) := by omega
    have HF := Lib.hid (chk_big (err := errC l) (M := 64) (n := n) (by omega))
    go_enter Try.func14, Try.ntmps14
    go_wp2
    go_ret2
    exact ⟨ret_ii HF.out.1.symm HF.out.2.symm, 0, rfl⟩

set_option maxHeartbeats 4000000 in
theorem checkx_any (A : Option Addr) (n c : Nat) (x : List Exc) (z : Int) (w : World) (hx : SAt excC w A n x) (hs : ∀ k, k < n → okP (keyX x k)) :
    Calls Try.prog 15 #[.slice A n c, .int .i64 z] w fun e w' => e = .returned (.tuple #[.int .i64 (chkI (errX x z) 256 n), .int .i64 (chkE (errX x z) 256 n)]) ∧ Below w.heap.size w w' := by
  have H := Lib.hid hx
  have HS := Lib.hid hs
  clear hx hs
  by_cases h64 : n ≤ 256
  · have h64' : ¬ (256 : Int) < (n : Int) := by omega
    have hmm := @run_makeMap Try.prog
    go_enter Try.func15, Try.ntmps15
    go_wp2
    go_loopw [16] (fun i wr => ∃ (k : Nat) (D : DataW Unit), k ≤ n ∧ i = .int .i64 k ∧ wr.ownsMap Try.prog 61 (plainElem Try.prog 4) w.heap.size k D ∧ Hid (SeenD encP okP (keyX x) k D) ∧ Hid (Fine (errX x z) k) ∧ Below w.heap.size w wr) (fun i _ => n - (intOf i).toNat)
    case atStart => exact ⟨0, .map [], by omega, rfl, World.ownsMap_made _ _ _ _, Lib.hid (SeenD.zero _ _ _), Lib.hid (Fine.zero _), balloc (Below.refl _ w) _ (Nat.le_refl _)⟩
    case round =>
      obtain ⟨k, D, hk, rfl, hown, HD, HA, hbel⟩ := hrel
      by_cases hlt : k < n
      · have k0 : (0 : Int) ≤ (k : Int) := by omega
        have kn : (k : Int) < (n : Int) := by omega
        obtain ⟨b, o, hA, _⟩ := H.out.at_ hlt
        subst hA
        obtain ⟨c0, c1, c2⟩ := exc_cells (H.out.stays hbel) hlt
        have HO := Lib.hid (HS.out k hlt)
        have hbx := balloc (balloc hbel (.cells (excA (gx x k)) 53) (Nat.le_refl _)) (.cells #[.int .i64 (gx x k).cal, .int .i64 (gx x k).day] 61) (Nat.le_refl _)
        have HM := Lib.hid ((hown.alloc (.cells (excA (gx x k)) 53)).alloc (.cells #[.int .i64 (gx x k).cal, .int .i64 (gx x k).day] 61))
        have HI := Lib.hid hown.isMap
        have hkey := keyOf_pair HO.out.1 HO.out.2
        clear hown hbel
        by_cases z0 : (gx x k).cal < 0
        · have HF := Lib.hid (chk_at h64 hlt HA.out (errX_low (n := z) z0) (by decide))
          go_wp2
          go_ret2
          exact ⟨ret_ii HF.out.1.symm HF.out.2.symm, hbx⟩
        · by_cases z1 : z ≤ (gx x k).cal
          · have HF := Lib.hid (chk_at h64 hlt HA.out (errX_high (n := z) z1) (by decide))
            go_wp2
            go_ret2
            exact ⟨ret_ii HF.out.1.symm HF.out.2.symm, hbx⟩
          · cases hv : dayB (gx x k).day
            · have HF := Lib.hid (chk_at h64 hlt HA.out (errX_day z0 z1 hv) (by decide))
              go_wp2_with (go_at_call 31; refine (day_any _ _).mono ?_; rintro e w' ⟨rfl, rfl⟩)
              go_ret2
              exact ⟨ret_ii HF.out.1.symm HF.out.2.symm, hbx⟩
            · cases hdd : dupB (keyX x) k
              · have HF := Lib.hid (HA.out.step (errX_zero (by omega) (by omega) hv hdd))
                go_wp2_with (first | (go_at_call 31; refine (day_any _ _).mono ?_; rintro e w' ⟨rfl, rfl⟩) | (at_lookup; refine wpList_lookup_own_bool _ rfl _ _ 60 rfl 61 4 keyedP Try.underlying60 Try.underlying4 (zeroBool _) w.heap.size k D rfl HM.out _ _ rfl hkey ?_; intro cc hat; obtain rfl := HD.out.look HO.out hat) | (at_mapUpdate; refine wpList_mapUpdate_own _ rfl _ _ _ 60 rfl 61 4 keyedP Try.underlying60 _ w.heap.size k D rfl HM.out (by unfold maxLen; omega) _ _ _ rfl rfl hkey (.lit (.bool true)) [] (plainElem_bool Try.underlying4 true) ?_; intro w1 hown1 hgrow1))
                have HB1 := Lib.hid (hbx.grown hgrow1 hbx.size (fun j ej => by cases ej; exact Nat.le_refl _))
                have HD1 := Lib.hid (HD.out.step HI.out trivial (fun y hy e => encP_inj HO.out hy e))
                clear hgrow1 hbx
                go_wp2
                go_roundw
                case rel => exact ⟨k + 1, _, by omega, by go_num, hown1, HD1, HF, HB1.out⟩
                case measure => simp [intOf]; omega
              · have HF := Lib.hid (chk_at h64 hlt HA.out (errX_dup (by omega) (by omega) hv hdd) (by decide))
                go_wp2_with (first | (go_at_call 31; refine (day_any _ _).mono ?_; rintro e w' ⟨rfl, rfl⟩) | (at_lookup; refine wpList_lookup_own_bool _ rfl _ _ 60 rfl 61 4 keyedP Try.underlying60 Try.underlying4 (zeroBool _) w.heap.size k D rfl HM.out _ _ rfl hkey ?_; intro cc hat; obtain rfl := HD.out.look HO.out hat))
                go_ret2
                exact ⟨ret_ii HF.out.1.symm HF.out.2.symm, hbx⟩
      · obtain rfl : k = n := by omega
        have hd : ¬ ((k : Int) < (k : Int)) := by omega
        have HF := Lib.hid (chk_end h64 HA.out)
        go_wp2
        go_ret2
        exact ⟨ret_ii HF.out.1.symm HF.out.2.symm, hbel⟩
  · have h64' : (256 : Int) < (n : Int) := by omega
    have HF := Lib.hid (chk_big (err := errX x z) (M := 256) (n := n) (by omega))
    go_enter Try.func15, Try.ntmps15
    go_wp2
    go_ret2
    exact ⟨ret_ii HF.out.1.symm HF.out.2.symm, Below.refl _ _⟩

set_option maxHeartbeats 4000000 in
theorem rcheckx_any (A : Option Addr) (n c : Nat) (x : List Exc) (z : Int) (w : World) (hx : SAt excC w A n x) :
    Calls Try.prog 16 #[.slice A n c, .int .i64 z] w fun e w' => e = .returned (.tuple #[.int .i64 (chkI (errX x z) 256 n), .int .i64 (chkE (errX x z) 256 n)]) ∧ ∃ q, w' = w.drewN q := by
  have H := Lib.hid hx
  clear hx
  by_cases h64 : n ≤ 256
  · have h64' : ¬ (256 : Int) < (n : Int) := by omega
    go_enter Try.func16, Try.ntmps16
    go_wp2
    go_loopw [6] (fun i wr => ∃ k q : Nat, k ≤ n ∧ i = .int .i64 k ∧ wr = w.drewN q ∧ Hid (Fine (errX x z) k)) (fun i _ => n - (intOf i).toNat)
    case atStart => exact ⟨0, 0, by omega, rfl, rfl, Lib.hid (Fine.zero _)⟩
    case round =>
      obtain ⟨k, q, hk, rfl, rfl, HA⟩ := hrel
      by_cases hlt : k < n
      · have k0 : (0 : Int) ≤ (k : Int) := by omega
        have kn : (k : Int) < (n : Int) := by omega
        obtain ⟨b, o, hA, _⟩ := H.out.at_ hlt
        subst hA
        obtain ⟨c0, c1, c2⟩ := exc_cells H.out hlt
        by_cases z0 : (gx x k).cal < 0
        · have HF := Lib.hid (chk_at h64 hlt HA.out (errX_low (n := z) z0) (by decide))
          go_wp2
          go_ret2
          exact ⟨ret_ii HF.out.1.symm HF.out.2.symm, _, rfl⟩
        by_cases z1 : z ≤ (gx x k).cal
        · have HF := Lib.hid (chk_at h64 hlt HA.out (errX_high (n := z) z1) (by decide))
          go_wp2
          go_ret2
          exact ⟨ret_ii HF.out.1.symm HF.out.2.symm, _, rfl⟩
        cases hv : dayB (gx x k).day
        · have HF := Lib.hid (chk_at h64 hlt HA.out (errX_day z0 z1 hv) (by decide))
          go_wp2_with (go_at_call 33; refine (rday_any _ _).mono ?_; rintro e w' ⟨rfl, rfl⟩)
          go_ret2
          exact ⟨ret_ii HF.out.1.symm HF.out.2.symm, _, rfl⟩
        · go_wp2_with (go_at_call 33; refine (rday_any _ _).mono ?_; rintro e w' ⟨rfl, rfl⟩)
          go_loopw [7] (fun i wx => ∃ j p : Nat, j ≤ k ∧ i = .int .i64 j ∧ wx = w.drewN p ∧ Hid (∀ m, m < j → keyX x m ≠ keyX x k)) (fun i _ => k - (intOf i).toNat)
          case atStart => exact ⟨0, q, by omega, rfl, rfl, Lib.hid (fun _ h => absurd h (by omega))⟩
          case round =>
            obtain ⟨j, p, hj, rfl, rfl, HN⟩ := hrel
            by_cases hjk : j < k
            · have j0 : (0 : Int) ≤ (j : Int) := by omega
              have jk : (j : Int) < (k : Int) := by omega
              have jn : (j : Int) < (n : Int) := by omega
              obtain ⟨d0, d1, _⟩ := exc_cells H.out (show j < n by omega)
              by_cases he : (gx x j).cal = (gx x k).cal
              · have e1 : ((gx x j).cal == (gx x k).cal) = true := beq_iff_eq.2 he
                by_cases he2 : (gx x j).day = (gx x k).day
                · have e2 : ((gx x j).day == (gx x k).day) = true := beq_iff_eq.2 he2
                  have HF := Lib.hid (chk_at h64 hlt HA.out (errX_dup (by omega) (by omega) hv (dup_yes (key := keyX x) hjk (key_eq he he2))) (by decide))
                  clear he he2
                  go_wp2
                  go_quiet (fail)
                  go_wp2
                  go_ret2
                  exact ⟨ret_ii HF.out.1.symm HF.out.2.symm, _, by rw [World.drewN_drewN]⟩
                · have e2 : ((gx x j).day == (gx x k).day) = false := beq_eq_false_iff_ne.2 he2
                  have HN2 : Hid (∀ m, m < j + 1 → keyX x m ≠ keyX x k) := Lib.hid fun m hm => by
                    by_cases e : m = j
                    · subst e; exact key_ne (Or.inr he2)
                    · exact HN.out m (by omega)
                  clear he he2
                  go_wp2
                  go_quiet (fail)
                  go_wp2
                  go_roundw
                  case rel => exact ⟨j + 1, _, by omega, by go_num, rfl, HN2⟩
                  case measure => simp [intOf]; omega
              · have e1 : ((gx x j).cal == (gx x k).cal) = false := beq_eq_false_iff_ne.2 he
                have HN2 : Hid (∀ m, m < j + 1 → keyX x m ≠ keyX x k) := Lib.hid fun m hm => by
                  by_cases e : m = j
                  · subst e; exact key_ne (Or.inl he)
                  · exact HN.out m (by omega)
                clear he
                go_wp2
                go_quiet (fail)
                go_wp2
                go_roundw
                case rel => exact ⟨j + 1, _, by omega, by go_num, rfl, HN2⟩
                case measure => simp [intOf]; omega
            · obtain rfl : j = k := by omega
              have hd : ¬ ((j : Int) < (j : Int)) := by omega
              have HF := Lib.hid (HA.out.step (errX_zero (by omega) (by omega) hv (dup_no HN.out)))
              go_wp2
              go_roundw
              case rel => exact ⟨j + 1, _, by omega, by go_num, rfl, HF⟩
              case measure => simp [intOf]; omega
      · obtain rfl : k = n := by omega
        have hd : ¬ ((k : Int) < (k : Int)) := by omega
        have HF := Lib.hid (chk_end h64 HA.out)
        go_wp2
        go_ret2
        exact ⟨ret_ii HF.out.1.symm HF.out.2.symm, _, rfl⟩
  · have h64' : (256 : Int) < (n : Int) := by omega
    have HF := Lib.hid (chk_big (err := errX x z) (M := 256) (n := n) (by omega))
    go_enter Try.func16, Try.ntmps16
    go_wp2
    go_ret2
    exact ⟨ret_ii HF.out.1.symm HF.out.2.symm, 0, rfl⟩

set_option maxHeartbeats 1000000 in
theorem named_any (A : Option Addr) (n c : Nat) (l : List Cal) (w : World) (hx : SAt calC w A n l) (hs : ∀ k, k < n → (gcal l k).id.size ≤ 9223372036854775807) :
    Calls Try.prog 11 #[.slice A n c] w fun e w' => e = .returned (.bool (namedB l)) ∧ w = w' := by
  have H := Lib.hid hx
  have HS := Lib.hid hs
  clear hx hs
  by_cases hn : n ≤ 70
  · have hn' : ¬ (70 : Int) < (n : Int) := by omega
    go_enter Try.func11, Try.ntmps11
    go_wp2
    go_loop [3] (fun i => ∃ k : Nat, k ≤ n ∧ i = .int .i64 k ∧ Hid (∀ j, j < k → ¬ 1024 < (gcal l j).id.size)) (fun i => n - (intOf i).toNat)
    case atStart => exact ⟨0, by omega, rfl, Lib.hid (fun j hj => absurd hj (by omega))⟩
    case round =>
      obtain ⟨k, hk, rfl, HA⟩ := hrel
      by_cases hlt : k < n
      · have k0 : (0 : Int) ≤ (k : Int) := by omega
        have kn : (k : Int) < (n : Int) := by omega
        obtain ⟨b, o, hA, _⟩ := H.out.at_ hlt
        subst hA
        obtain ⟨c0, _⟩ := cal_cells H.out hlt
        have hsz := HS.out k hlt
        by_cases he : 1024 < (gcal l k).id.size
        · have he' : (1024 : Int) < ((gcal l k).id.size : Int) := by omega
          have HF := Lib.hid (named_bad H.out.1 hlt he)
          go_wp2
          go_ret
          exact ⟨ret_bool HF.out.symm, rfl⟩
        · have he' : ¬ (1024 : Int) < ((gcal l k).id.size : Int) := by omega
          have HF : Hid (∀ j, j < k + 1 → ¬ 1024 < (gcal l j).id.size) := Lib.hid fun j hj => by
            by_cases e : j = k
            · subst e; exact he
            · exact HA.out j (by omega)
          go_wp2
          go_round
          case rel => exact ⟨k + 1, by omega, by go_num, HF⟩
          case measure => simp [intOf]; omega
      · obtain rfl : k = n := by omega
        have hd : ¬ ((k : Int) < (k : Int)) := by omega
        have HF := Lib.hid (named_ok H.out.1 hn HA.out)
        go_wp2
        go_ret
        exact ⟨ret_bool HF.out.symm, rfl⟩
  · have hn' : (70 : Int) < (n : Int) := by omega
    have HF := Lib.hid (named_big H.out.1 (by omega))
    go_enter Try.func11, Try.ntmps11
    go_wp2
    go_ret
    exact ⟨ret_bool HF.out.symm, rfl⟩

set_option maxHeartbeats 400000 in
theorem same_any (A B : Option Addr) (n m c d : Nat) (xs ys : List Int) (w : World) (hx : IntsAt w A n xs) (hy : IntsAt w B m ys) (hn : n ≤ 1000000) (hm : m ≤ 1000000) :
    Calls Try.prog 22 #[.slice A n c, .slice B m d] w fun e w' => e = .returned (.bool (sameB xs ys)) ∧ ∃ q, w' = w.drewN q := by
  have HX := Lib.hid hx
  have HY := Lib.hid hy
  clear hx hy
  by_cases hl : n = m
  · subst hl
    go_enter Try.func22, Try.ntmps22
    go_wp2
    go_loopw [5] (fun k wr => ∃ j q : Nat, j ≤ n ∧ k = .int .i64 j ∧ wr = w.drewN q ∧ ∀ i, i < j → gi xs i = gi ys i) (fun k _ => n - (intOf k).toNat)
    case atStart => exact ⟨0, 0, by omega, rfl, rfl, fun i h => absurd h (by omega)⟩
    case round =>
      obtain ⟨j, q, hj, rfl, rfl, hall⟩ := hrel
      have HA := Lib.hid hall
      clear hall
      by_cases hlt : j < n
      · obtain ⟨ad, rfl, hc1⟩ := HX.out.2 j hlt
        obtain ⟨bd, rfl, hc2⟩ := HY.out.2 j hlt
        have hlt' : (j : Int) < (n : Int) := by omega
        have hj0 : (0 : Int) ≤ (j : Int) := by omega
        by_cases he : gi xs j = gi ys j
        · have hb : (gi xs j != gi ys j) = false := by simp [he]
          have HE := Lib.hid he
          clear he
          go_wp2
          go_quiet (fail)
          go_wp2
          go_roundw
          case rel => exact ⟨j + 1, _, by omega, by go_num, rfl, fun i hi => by
            by_cases e : i = j
            · subst e; exact HE.out
            · exact HA.out i (by omega)⟩
          case measure => simp [intOf]; omega
        · have hb : (gi xs j != gi ys j) = true := by simp [he]
          have HE := Lib.hid he
          clear he
          go_wp2
          go_quiet (fail)
          go_wp2
          go_ret
          exact ⟨ret_bool (sameB_at HE.out).symm, _, by rw [World.drewN_drewN]⟩
      · go_wp2
        go_ret
        exact ⟨ret_bool (sameB_all (by rw [HX.out.1, HY.out.1]) (fun k hk => HA.out k (by have := HX.out.1; omega))).symm, _, rfl⟩
  · have hne : ((n : Int) != (m : Int)) = true := by rw [bne_iff_ne]; omega
    go_enter Try.func22, Try.ntmps22
    go_wp2
    go_ret
    exact ⟨ret_bool (sameB_len (by rw [HX.out.1, HY.out.1]; exact hl)).symm, 0, rfl⟩
end Go.Proofs.Ytjmjejpfilejdaa
