/-
  Zones, InZone, StepFree: both.
-/
import Derived.Test.YteifjnckceeldaaSt2
namespace Go.Proofs.Yteifjnckceeldaa
open Go.RowKit
open Bs (U64 oneN withN)

set_option maxHeartbeats 400000 in
theorem one_any (i : Int) (w : World) :
    Calls Try.prog 26 #[.int .i64 i] w fun e w' => e = .returned (.int .u64 (oneN i : Nat)) ∧ w = w' := by
  by_cases h : 0 ≤ i ∧ i ≤ 63
  · obtain ⟨h1, h2⟩ := h
    go_enter Try.func26, Try.ntmps26
    go_wp2
    go_ret
    exact ⟨ret_int (Bs.one_shl h1 h2), rfl⟩
  · have h0 := Lib.hid (Bs.one_out h)
    rcases (show i < 0 ∨ 63 < i from by omega) with h1 | h1
    · clear h
      go_enter Try.func26, Try.ntmps26
      go_wp2
      go_ret
      exact ⟨ret_int (by rw [h0.out]; rfl), rfl⟩
    · have h2 : ¬ i < 0 := by omega
      clear h
      go_enter Try.func26, Try.ntmps26
      go_wp2
      go_ret
      exact ⟨ret_int (by rw [h0.out]; rfl), rfl⟩

set_option maxHeartbeats 400000 in
theorem with_any (s : Nat) (i : Int) (w : World) (hs : U64 s) :
    Calls Try.prog 25 #[.int .u64 s, .int .i64 i] w fun e w' => e = .returned (.int .u64 (withN s i : Nat)) ∧ w = w' := by
  have hb := Bs.bOr hs (Bs.uOne i)
  go_enter Try.func25, Try.ntmps25
  go_wp2_with (go_at_call 26; refine (one_any _ _).mono ?_; rintro e w' ⟨rfl, rfl⟩)
  go_ret
  exact ⟨rfl, rfl⟩

set_option maxHeartbeats 400000 in
theorem same_any (A B : Option Addr) (n m c d : Nat) (xs ys : List Int) (w : World) (hx : IntsAt w A n xs) (hy : IntsAt w B m ys) (hn : n ≤ 1000000) (hm : m ≤ 1000000) :
    Calls Try.prog 18 #[.slice A n c, .slice B m d] w fun e w' => e = .returned (.bool (sameB xs ys)) ∧ ∃ q, w' = w.drewN q := by
  have HX := Lib.hid hx
  have HY := Lib.hid hy
  clear hx hy
  by_cases hl : n = m
  · subst hl
    go_enter Try.func18, Try.ntmps18
    go_wp2
    go_loopw [5] (fun k wr => ∃ j q : Nat, j ≤ n ∧ k = .int .i64 j ∧ wr = w.drewN q ∧ ∀ i, i < j → gi xs i = gi ys i) (fun k _ => n - (intOf k).toNat)
    case atStart => exact ⟨0, 0, by omega, rfl, rfl, fun i h => absurd h (by omega)⟩
    case round =>
      obtain ⟨j, q, hj, rfl, rfl, hall⟩ := hrel
      have HA := Lib.hid hall
      clear hall
      by_cases hlt : j < n
      · obtain ⟨ad, rfl, hc1⟩ := HX.out.2 j hlt
        obtain ⟨bd, rfl, hc2⟩ := HY.out.2 j hlt
        have hlt' : (j : Int) < (n : Int) := by omega
        have hj0 : (0 : Int) ≤ (j : Int) := by omega
        by_cases he : gi xs j = gi ys j
        · have hb : (gi xs j != gi ys j) = false := by simp [he]
          have HE := Lib.hid he
          clear he
          go_wp2
          go_quiet (fail)
          go_wp2
          go_roundw
          case rel => exact ⟨j + 1, _, by omega, by go_num, rfl, fun i hi => by
            by_cases e : i = j
            · subst e; exact HE.out
            · exact HA.out i (by omega)⟩
          case measure => simp [intOf]; omega
        · have hb : (gi xs j != gi ys j) = true := by simp [he]
          have HE := Lib.hid he
          clear he
          go_wp2
          go_quiet (fail)
          go_wp2
          go_ret
          exact ⟨ret_bool (sameB_at HE.out).symm, _, by rw [World.drewN_drewN]⟩
      · go_wp2
        go_ret
        exact ⟨ret_bool (sameB_all (by rw [HX.out.1, HY.out.1]) (fun k hk => HA.out k (by have := HX.out.1; omega))).symm, _, rfl⟩
  · have hne : ((n : Int) != (m : Int)) = true := by rw [bne_iff_ne]; omega
    go_enter Try.func18, Try.ntmps18
    go_wp2
    go_ret
    exact ⟨ret_bool (sameB_len (by rw [HX.out.1, HY.out.1]; exact hl)).symm, 0, rfl⟩

set_option maxHeartbeats 1000000 in
theorem zones_any (A : Option Addr) (n c : Nat) (xs : List Stop) (w : World) (hx : SAt stopC w A n xs) (hn : n ≤ 1000) :
    Calls Try.prog 16 #[.slice A n c] w fun e w' => e = .returned (.int .u64 (zonesTo xs xs.length : Nat)) ∧ Below w.heap.size w w' := by
  have H := Lib.hid hx
  clear hx
  go_enter Try.func16, Try.ntmps16
  go_wp2
  go_loopw [3, 8] (fun u i wr => ∃ k : Nat, k ≤ n ∧ i = .int .i64 k ∧ u = .int .u64 (zonesTo xs k : Nat) ∧ Below w.heap.size w wr) (fun _ i _ => n - (intOf i).toNat)
  case atStart => exact ⟨0, by omega, rfl, rfl, Below.refl _ _⟩
  case round =>
    obtain ⟨k, hk, rfl, rfl, hbel⟩ := hrel
    by_cases hlt : k < n
    · have k0 : (0 : Int) ≤ (k : Int) := by omega
      have kn : (k : Int) < (n : Int) := by omega
      obtain ⟨b, o, hA, _⟩ := H.out.at_ hlt
      subst hA
      obtain ⟨c0, c1, c2, c3⟩ := stop_cells (H.out.stays hbel) hlt
      have hbx := balloc hbel (.cells #[.string (gs xs k).id, .int .i64 (gs xs k).zone, .bool (gs xs k).free, .int .i64 (gs xs k).change] 43) (Nat.le_refl _)
      have HU := Lib.hid (zones_lt xs k)
      go_wp2_with (go_at_call 25; refine (with_any (zonesTo xs k) (gs xs k).zone _ HU.out).mono ?_; rintro e w' ⟨rfl, rfl⟩)
      go_roundw
      case rel => exact ⟨k + 1, by omega, by go_num, rfl, hbx⟩
      case measure => simp [intOf]; omega
    · obtain rfl : k = n := by omega
      have hd : ¬ ((k : Int) < (k : Int)) := by omega
      have HL := Lib.hid H.out.1
      go_wp2
      go_ret
      exact ⟨ret_int (by rw [HL.out]), hbel⟩

set_option maxHeartbeats 1000000 in
theorem rzones_any (A : Option Addr) (n c : Nat) (xs : List Stop) (w : World) (hx : SAt stopC w A n xs) (hn : n ≤ 1000) :
    Calls Try.prog 17 #[.slice A n c] w fun e w' => e = .returned (.int .u64 (zonesTo xs xs.length : Nat)) ∧ w = w' := by
  have H := Lib.hid hx
  clear hx
  go_enter Try.func17, Try.ntmps17
  go_wp2
  go_loop [3, 4] (fun u i => ∃ k : Nat, k ≤ n ∧ i = .int .i64 k ∧ u = .int .u64 (zonesTo xs k : Nat)) (fun _ i => n - (intOf i).toNat)
  case atStart => exact ⟨0, by omega, rfl, rfl⟩
  case round =>
    obtain ⟨k, hk, rfl, rfl⟩ := hrel
    by_cases hlt : k < n
    · have k0 : (0 : Int) ≤ (k : Int) := by omega
      have kn : (k : Int) < (n : Int) := by omega
      obtain ⟨b, o, hA, _⟩ := H.out.at_ hlt
      subst hA
      obtain ⟨c0, c1, c2, c3⟩ := stop_cells H.out hlt
      by_cases h0 : 0 ≤ (gs xs k).zone
      · by_cases h1 : (gs xs k).zone ≤ 63
        · have h2 : (gs xs k).zone < 64 := by omega
          have hsh := Bs.one_shl h0 h1
          have hor := Bs.bOr (zones_lt xs k) (Bs.uOne (gs xs k).zone)
          go_wp2
          go_round
          case rel => exact ⟨k + 1, by omega, by go_num, rfl⟩
          case measure => simp [intOf]; omega
        · have h2 : ¬ (gs xs k).zone < 64 := by omega
          have HO := Lib.hid (Bs.one_out (i := (gs xs k).zone) (by omega))
          go_wp2
          go_round
          case rel => exact ⟨k + 1, by omega, by go_num, by rw [zonesTo, withN, HO.out, Nat.or_zero]⟩
          case measure => simp [intOf]; omega
      · have HO := Lib.hid (Bs.one_out (i := (gs xs k).zone) (by omega))
        go_wp2
        go_round
        case rel => exact ⟨k + 1, by omega, by go_num, by rw [zonesTo, withN, HO.out, Nat.or_zero]⟩
        case measure => simp [intOf]; omega
    · obtain rfl : k = n := by omega
      have hd : ¬ ((k : Int) < (k : Int)) := by omega
      have HL := Lib.hid H.out.1
      go_wp2
      go_ret
      exact ⟨ret_int (by rw [HL.out]), rfl⟩

set_option maxHeartbeats 1000000 in
theorem free_any (A : Option Addr) (n c : Nat) (xs : List Stop) (w : World) (hx : SAt stopC w A n xs) (hn : n ≤ 1000) :
    Calls Try.prog 21 #[.slice A n c] w fun e w' => e = .returned (.int .u64 (freeTo xs xs.length : Nat)) ∧ Below w.heap.size w w' := by
  have H := Lib.hid hx
  clear hx
  go_enter Try.func21, Try.ntmps21
  go_wp2
  go_loopw [3, 8] (fun u i wr => ∃ k : Nat, k ≤ n ∧ i = .int .i64 k ∧ u = .int .u64 (freeTo xs k : Nat) ∧ Below w.heap.size w wr) (fun _ i _ => n - (intOf i).toNat)
  case atStart => exact ⟨0, by omega, rfl, rfl, Below.refl _ _⟩
  case round =>
    obtain ⟨k, hk, rfl, rfl, hbel⟩ := hrel
    by_cases hlt : k < n
    · have k0 : (0 : Int) ≤ (k : Int) := by omega
      have kn : (k : Int) < (n : Int) := by omega
      obtain ⟨b, o, hA, _⟩ := H.out.at_ hlt
      subst hA
      obtain ⟨c0, c1, c2, c3⟩ := stop_cells (H.out.stays hbel) hlt
      have hbx := balloc hbel (.cells #[.string (gs xs k).id, .int .i64 (gs xs k).zone, .bool (gs xs k).free, .int .i64 (gs xs k).change] 43) (Nat.le_refl _)
      have HU := Lib.hid (free_lt xs k)
      cases hf : (gs xs k).free
      · rw [hf] at c2 hbx
        have HF := Lib.hid hf
        clear hf
        go_wp2
        go_roundw
        case rel => exact ⟨k + 1, by omega, by go_num, by rw [freeTo, HF.out]; rfl, hbx⟩
        case measure => simp [intOf]; omega
      · rw [hf] at c2 hbx
        have HF := Lib.hid hf
        clear hf
        go_wp2_with (go_at_call 25; refine (with_any (freeTo xs k) (k : Int) _ HU.out).mono ?_; rintro e w' ⟨rfl, rfl⟩)
        go_roundw
        case rel => exact ⟨k + 1, by omega, by go_num, by rw [freeTo, HF.out]; rfl, hbx⟩
        case measure => simp [intOf]; omega
    · obtain rfl : k = n := by omega
      have hd : ¬ ((k : Int) < (k : Int)) := by omega
      have HL := Lib.hid H.out.1
      go_wp2
      go_ret
      exact ⟨ret_int (by rw [HL.out]), hbel⟩

theorem free_end {xs : List Stop} {n k : Nat} (hl : xs.length = n) (hk : k ≤ n) (h : ¬ (k < n ∧ k < 64)) : freeTo xs k = freeTo xs xs.length ∨ n < k := by
  by_cases e : k = n
  · left; rw [e, hl]
  · by_cases h2 : k < n
    · left
      rw [hl, free_cut (k := n) (by omega), free_cut (k := k) (by omega)]
    · right; omega

set_option maxHeartbeats 1000000 in
theorem rfree_any (A : Option Addr) (n c : Nat) (xs : List Stop) (w : World) (hx : SAt stopC w A n xs) (hn : n ≤ 1000) :
    Calls Try.prog 22 #[.slice A n c] w fun e w' => e = .returned (.int .u64 (freeTo xs xs.length : Nat)) ∧ w = w' := by
  have H := Lib.hid hx
  clear hx
  go_enter Try.func22, Try.ntmps22
  go_wp2
  go_loop [3, 4] (fun u i => ∃ k : Nat, k ≤ n ∧ i = .int .i64 k ∧ u = .int .u64 (freeTo xs k : Nat)) (fun _ i => n - (intOf i).toNat)
  case atStart => exact ⟨0, by omega, rfl, rfl⟩
  case round =>
    obtain ⟨k, hk, rfl, rfl⟩ := hrel
    by_cases hlt : k < n
    · have k0 : (0 : Int) ≤ (k : Int) := by omega
      have kn : (k : Int) < (n : Int) := by omega
      by_cases h64 : k < 64
      · have k64 : (k : Int) < 64 := by omega
        obtain ⟨b, o, hA, _⟩ := H.out.at_ hlt
        subst hA
        obtain ⟨c0, c1, c2, c3⟩ := stop_cells H.out hlt
        cases hf : (gs xs k).free
        · rw [hf] at c2
          have HF := Lib.hid hf
          clear hf
          go_wp2
          go_round
          case rel => exact ⟨k + 1, by omega, by go_num, by rw [freeTo, HF.out]; rfl⟩
          case measure => simp [intOf]; omega
        · rw [hf] at c2
          have HF := Lib.hid hf
          clear hf
          have hsh := Bs.one_shl k0 (show (k : Int) ≤ 63 by omega)
          rw [Int.toNat_natCast] at hsh
          have hor := Bs.bOr (free_lt xs k) (Bs.uOne (k : Int))
          go_wp2
          go_round
          case rel => exact ⟨k + 1, by omega, by go_num, by rw [freeTo, HF.out]; rfl⟩
          case measure => simp [intOf]; omega
      · have k64 : ¬ (k : Int) < 64 := by omega
        have HE := Lib.hid ((free_end H.out.1 hk (fun h => h64 h.2)).resolve_right (by omega))
        go_wp2
        go_ret
        exact ⟨ret_int (by rw [HE.out]), rfl⟩
    · obtain rfl : k = n := by omega
      have hd : ¬ ((k : Int) < (k : Int)) := by omega
      have HL := Lib.hid H.out.1
      go_wp2
      go_ret
      exact ⟨ret_int (by rw [HL.out]), rfl⟩

theorem cell_new2 (w : World) (o : Obj) (v : Value) (t : TypeId) : ∀ j u, [v][j]? = some u → ((w.alloc o).alloc (.cells #[v] t)).cell? ((⟨w.heap.size + 1, 0, none⟩ : Addr).add j) = some u := by
  have := cell_one_new (w.alloc o) v t
  rwa [World.size_alloc] at this
theorem int_info : (Try.prog.info? 3).map (fun i => (i.zero, i.size, i.bytes)) = some (some (.int .i64 0), 1, 8) := by kernel_rfl

set_option maxHeartbeats 1000000 in
theorem inzone_any (A : Option Addr) (n c : Nat) (xs : List Stop) (z : Int) (w : World) (hx : SAt stopC w A n xs) (hn : n ≤ 1000) :
    Calls Try.prog 19 #[.slice A n c, .int .i64 z] w fun e w' => MadeInts w (inTo xs z xs.length) e w' := by
  obtain ⟨i0, hi, hz0, hz1, hz2⟩ := info_parts int_info
  have H := Lib.hid hx
  clear hx
  go_enter Try.func19, Try.ntmps19
  go_wp2
  go_loopw [5, 10] (fun u i wr => ∃ k : Nat, k ≤ n ∧ i = .int .i64 k ∧ wr.ownsRow w.heap.size 3 1 u (inTo xs z k).length ((inTo xs z k).map (Value.int .i64)) ∧ Below w.heap.size w wr) (fun _ i _ => n - (intOf i).toNat)
  case atStart => exact ⟨0, by omega, rfl, World.ownsRow_nil _ _ _ _, Below.refl _ _⟩
  case round =>
    obtain ⟨k, hk, rfl, hown, hbel⟩ := hrel
    by_cases hlt : k < n
    · have k0 : (0 : Int) ≤ (k : Int) := by omega
      have kn : (k : Int) < (n : Int) := by omega
      obtain ⟨b, o, hA, _⟩ := H.out.at_ hlt
      subst hA
      obtain ⟨c0, c1, c2, c3⟩ := stop_cells (H.out.stays hbel) hlt
      have hbx := balloc hbel (.cells #[.string (gs xs k).id, .int .i64 (gs xs k).zone, .bool (gs xs k).free, .int .i64 (gs xs k).change] 43) (Nat.le_refl _)
      have hil := in_len xs z k
      by_cases he : (gs xs k).zone = z
      · have he' : ((gs xs k).zone == z) = true := by simpa using he
        have HE : Hid (inTo xs z (k + 1) = inTo xs z k ++ [(k : Int)]) := Lib.hid (by rw [inTo, if_pos he])
        have howb := hown.alloc (.cells #[.string (gs xs k).id, .int .i64 (gs xs k).zone, .bool (gs xs k).free, .int .i64 (gs xs k).change] 43)
        clear he hown hbel
        obtain ⟨m, hm⟩ : ∃ m, m = (inTo xs z k).length := ⟨_, rfl⟩
        rw [← hm] at howb hil
        have HM := Lib.hid hm
        clear hm
        go_wp2_with (at_builtin; refine wpList_append_own _ rfl _ _ 39 rfl w.heap.size 3 i0 (.int .i64 0) 1 8 Try.underlying39 hi hz0 hz1 hz2 rfl (by decide) _ _ _ rfl (howb.alloc _) ⟨wr.heap.size + 1, 0, none⟩ 1 1 [.int .i64 k] rfl rfl (cell_new2 _ _ _ _) (by intro u hu; simp at hu; subst hu; rfl) (by unfold maxLen; omega) (by omega) (balloc hbx _ (Nat.le_refl _)).size ?_; intro v' w1 hown' hgrow _)
        have R : Below w.heap.size w w1 := below_app hbx hbx.size (Nat.le_refl _) howb hgrow
        clear howb hgrow hbx
        go_wp2
        go_roundw
        case rel => exact ⟨k + 1, by omega, by go_num, by rw [HE.out, List.length_append, ← HM.out, List.map_append]; exact hown', R⟩
        case measure => simp [intOf]; omega
      · have he' : ((gs xs k).zone == z) = false := by simpa using he
        have HE : Hid (inTo xs z (k + 1) = inTo xs z k) := Lib.hid (by rw [inTo, if_neg he])
        have howb := hown.alloc (.cells #[.string (gs xs k).id, .int .i64 (gs xs k).zone, .bool (gs xs k).free, .int .i64 (gs xs k).change] 43)
        clear he hown hbel
        go_wp2
        go_roundw
        case rel => exact ⟨k + 1, by omega, by go_num, by rw [HE.out]; exact howb, hbx⟩
        case measure => simp [intOf]; omega
    · obtain rfl : k = n := by omega
      have hd : ¬ ((k : Int) < (k : Int)) := by omega
      have HL := Lib.hid H.out.1
      go_wp2
      go_ret
      rw [HL.out]
      exact MadeInts.mk hown hbel

set_option maxHeartbeats 1000000 in
theorem rinzone_any (A : Option Addr) (n c : Nat) (xs : List Stop) (z : Int) (w : World) (hx : SAt stopC w A n xs) (hn : n ≤ 1000) :
    Calls Try.prog 20 #[.slice A n c, .int .i64 z] w fun e w' => MadeInts w (inTo xs z xs.length) e w' := by
  obtain ⟨i0, hi, hz0, hz1, hz2⟩ := info_parts int_info
  have H := Lib.hid hx
  clear hx
  go_enter Try.func20, Try.ntmps20
  go_wp2
  go_loopw [5, 6] (fun u i wr => ∃ k : Nat, k ≤ n ∧ i = .int .i64 k ∧ wr.ownsRow w.heap.size 3 1 u (inTo xs z k).length ((inTo xs z k).map (Value.int .i64)) ∧ Below w.heap.size w wr) (fun _ i _ => n - (intOf i).toNat)
  case atStart => exact ⟨0, by omega, rfl, World.ownsRow_nil _ _ _ _, Below.refl _ _⟩
  case round =>
    obtain ⟨k, hk, rfl, hown, hbel⟩ := hrel
    by_cases hlt : k < n
    · have k0 : (0 : Int) ≤ (k : Int) := by omega
      have kn : (k : Int) < (n : Int) := by omega
      obtain ⟨b, o, hA, _⟩ := H.out.at_ hlt
      subst hA
      obtain ⟨c0, c1, c2, c3⟩ := stop_cells (H.out.stays hbel) hlt
      have hbx := hbel
      have hil := in_len xs z k
      by_cases he : (gs xs k).zone = z
      · have he' : ((gs xs k).zone == z) = true := by simpa using he
        have HE : Hid (inTo xs z (k + 1) = inTo xs z k ++ [(k : Int)]) := Lib.hid (by rw [inTo, if_pos he])
        have howb := hown
        clear he hown hbel
        obtain ⟨m, hm⟩ : ∃ m, m = (inTo xs z k).length := ⟨_, rfl⟩
        rw [← hm] at howb hil
        have HM := Lib.hid hm
        clear hm
        go_wp2_with (at_builtin; refine wpList_append_own _ rfl _ _ 39 rfl w.heap.size 3 i0 (.int .i64 0) 1 8 Try.underlying39 hi hz0 hz1 hz2 rfl (by decide) _ _ _ rfl (howb.alloc _) ⟨wr.heap.size, 0, none⟩ 1 1 [.int .i64 k] rfl rfl (cell_one_new _ _ _) (by intro u hu; simp at hu; subst hu; rfl) (by unfold maxLen; omega) (by omega) (balloc hbx _ (Nat.le_refl _)).size ?_; intro v' w1 hown' hgrow _)
        have R : Below w.heap.size w w1 := below_app hbx hbx.size (Nat.le_refl _) howb hgrow
        clear howb hgrow hbx
        go_wp2
        go_roundw
        case rel => exact ⟨k + 1, by omega, by go_num, by rw [HE.out, List.length_append, ← HM.out, List.map_append]; exact hown', R⟩
        case measure => simp [intOf]; omega
      · have he' : ((gs xs k).zone == z) = false := by simpa using he
        have HE : Hid (inTo xs z (k + 1) = inTo xs z k) := Lib.hid (by rw [inTo, if_neg he])
        have howb := hown
        clear he hown hbel
        go_wp2
        go_roundw
        case rel => exact ⟨k + 1, by omega, by go_num, by rw [HE.out]; exact howb, hbx⟩
        case measure => simp [intOf]; omega
    · obtain rfl : k = n := by omega
      have hd : ¬ ((k : Int) < (k : Int)) := by omega
      have HL := Lib.hid H.out.1
      go_wp2
      go_ret
      rw [HL.out]
      exact MadeInts.mk hown hbel
end Go.Proofs.Yteifjnckceeldaa
