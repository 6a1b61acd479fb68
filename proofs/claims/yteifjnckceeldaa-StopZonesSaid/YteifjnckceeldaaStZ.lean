/-
  The walk of the statement on the zones of stops.
-/
import Derived.Test.YteifjnckceeldaaStW2
namespace Go.Proofs.Yteifjnckceeldaa
open Go.RowKit
open Bs (U64 withN)

theorem zbit {z k : Nat} (hz : U64 z) : (Go.bits .and .u64 ((z : Int) / 2 ^ k) 1 == 1) = z.testBit k := by
  have e : (z : Int) / 2 ^ k = ((z / 2 ^ k : Nat) : Int) := by simp
  rw [e, show (1 : Int) = ((1 : Nat) : Int) from rfl, Bs.bAnd (Nat.lt_of_le_of_lt (Nat.div_le_self _ _) hz) (by show 1 < 18446744073709551616; omega), Nat.and_one_is_mod, Nat.testBit_eq_decide_div_mod_eq]
  rcases Nat.mod_two_eq_zero_or_one (z / 2 ^ k) with h | h
  · rw [h]; rfl
  · rw [h]; rfl
theorem in_has (xs : List Stop) (z : Int) (k : Nat) : 0 < (inTo xs z k).length ↔ ∃ i, i < k ∧ (gs xs i).zone = z := by
  induction k with
  | zero => simp [inTo]
  | succ k ih =>
    unfold inTo
    split
    · rename_i h
      simp only [List.length_append, List.length_cons, List.length_nil]
      exact ⟨fun _ => ⟨k, by omega, h⟩, fun _ => by omega⟩
    · rename_i h
      rw [ih]
      constructor
      · rintro ⟨i, hi, e⟩; exact ⟨i, by omega, e⟩
      · rintro ⟨i, hi, e⟩
        by_cases e2 : i = k
        · subst e2; exact absurd e h
        · exact ⟨i, by omega, e⟩
theorem zone_bit (xs : List Stop) (k j : Nat) (hj : j ≤ 63) : (zonesTo xs k).testBit j = decide (0 < (inTo xs (j : Int) k).length) := by
  have h : (zonesTo xs k).testBit j = true ↔ ∃ i, i < k ∧ (gs xs i).zone = (j : Int) := by
    induction k with
    | zero => simp [zonesTo]
    | succ k ih =>
      rw [zonesTo, Bs.testBit_withN, Bool.or_eq_true, ih, decide_eq_true_eq]
      constructor
      · rintro (⟨i, hi, e⟩ | ⟨e, _⟩)
        · exact ⟨i, by omega, e⟩
        · exact ⟨k, by omega, e⟩
      · rintro ⟨i, hi, e⟩
        by_cases e2 : i = k
        · subst e2; exact .inr ⟨e, hj⟩
        · exact .inl ⟨i, by omega, e⟩
  rw [Bool.eq_iff_iff, h, decide_eq_true_eq, in_has]
theorem in_at {xs : List Stop} {z : Int} {k j : Nat} (h : j < (inTo xs z k).length) : ∃ i, i < k ∧ gi (inTo xs z k) j = (i : Int) ∧ (gs xs i).zone = z := by
  induction k with
  | zero => simp [inTo] at h
  | succ k ih =>
    by_cases e : (gs xs k).zone = z
    · have e1 : inTo xs z (k + 1) = inTo xs z k ++ [(k : Int)] := by rw [inTo, if_pos e]
      rw [e1] at h ⊢
      by_cases hj : j < (inTo xs z k).length
      · obtain ⟨i, hi, h1, h2⟩ := ih hj
        exact ⟨i, by omega, by unfold gi at h1 ⊢; rw [List.getD_eq_getElem?_getD, List.getElem?_append_left hj, ← List.getD_eq_getElem?_getD]; exact h1, h2⟩
      · have : j = (inTo xs z k).length := by simp at h; omega
        subst this
        exact ⟨k, by omega, by simp [gi], e⟩
    · have e1 : inTo xs z (k + 1) = inTo xs z k := by rw [inTo, if_neg e]
      rw [e1] at h ⊢
      obtain ⟨i, hi, h1, h2⟩ := ih h
      exact ⟨i, by omega, h1, h2⟩
theorem in_lt {xs : List Stop} {z : Int} {k j : Nat} (h : j + 1 < (inTo xs z k).length) : gi (inTo xs z k) j < gi (inTo xs z k) (j + 1) := by
  induction k with
  | zero => simp [inTo] at h
  | succ k ih =>
    by_cases e : (gs xs k).zone = z
    · have e1 : inTo xs z (k + 1) = inTo xs z k ++ [(k : Int)] := by rw [inTo, if_pos e]
      rw [e1] at h ⊢
      have hl : ∀ j, j < (inTo xs z k).length → gi (inTo xs z k ++ [(k : Int)]) j = gi (inTo xs z k) j := fun j hj => by
        unfold gi; rw [List.getD_eq_getElem?_getD, List.getElem?_append_left hj, ← List.getD_eq_getElem?_getD]
      by_cases hj : j + 1 < (inTo xs z k).length
      · rw [hl j (by omega), hl (j + 1) hj]
        exact ih hj
      · have : j + 1 = (inTo xs z k).length := by simp at h; omega
        rw [hl j (by omega), this]
        obtain ⟨i, hi, h1, _⟩ := in_at (xs := xs) (z := z) (k := k) (j := j) (by omega)
        rw [h1]
        simp [gi]
        exact hi
    · have e1 : inTo xs z (k + 1) = inTo xs z k := by rw [inTo, if_neg e]
      rw [e1] at h ⊢
      exact ih h
/-- the numbers of the stops of the zones below m, among the first k stops, together -/
def sumN (xs : List Stop) (k : Nat) : Nat → Nat
  | 0 => 0
  | m + 1 => sumN xs k m + (inTo xs (m : Int) k).length
theorem sum_step (xs : List Stop) (k m : Nat) : sumN xs (k + 1) m = sumN xs k m + if 0 ≤ (gs xs k).zone ∧ (gs xs k).zone < (m : Int) then 1 else 0 := by
  induction m with
  | zero => rw [if_neg (by omega)]; rfl
  | succ m ih =>
    unfold sumN
    rw [ih]
    by_cases e : (gs xs k).zone = (m : Int)
    · rw [inTo, if_pos e, if_neg (by omega), if_pos (by omega), List.length_append]
      simp
      omega
    · rw [inTo, if_neg e]
      by_cases e2 : 0 ≤ (gs xs k).zone ∧ (gs xs k).zone < (m : Int)
      · rw [if_pos e2, if_pos (by omega)]; omega
      · rw [if_neg e2, if_neg (by omega)]; omega
theorem sum_all {xs : List Stop} {k : Nat} (h : ∀ i, i < k → 0 ≤ (gs xs i).zone ∧ (gs xs i).zone < 16) : sumN xs k 16 = k := by
  induction k with
  | zero => rfl
  | succ k ih =>
    have := h k (by omega)
    rw [sum_step, ih (fun i hi => h i (by omega)), if_pos (by omega)]
theorem sum_le (xs : List Stop) (k m : Nat) : sumN xs k m ≤ k := by
  induction k with
  | zero =>
    induction m with
    | zero => exact Nat.le_refl _
    | succ m ih => unfold sumN; simp [inTo]; omega
  | succ k ih => rw [sum_step]; split <;> omega
theorem out_inv {s : Stop} (h : outB s = false) : 0 ≤ s.zone ∧ s.zone < 16 := by
  have := of_decide_eq_false h
  omega
theorem fine_zone {xs : List Stop} {n : Nat} (h : Fine xs n) : ∀ i, i < n → 0 ≤ (gs xs i).zone ∧ (gs xs i).zone < 16 := fun i hi => out_inv (err_zero_inv (h i hi)).2.2
theorem zones_small {xs : List Stop} {k : Nat} (h : ∀ i, i < k → 0 ≤ (gs xs i).zone ∧ (gs xs i).zone < 16) : zonesTo xs k < 2 ^ 16 := by
  induction k with
  | zero => simp [zonesTo]
  | succ k ih =>
    rw [zonesTo]
    refine Nat.or_lt_two_pow (ih fun i hi => h i (by omega)) ?_
    have := h k (by omega)
    unfold Bs.oneN
    rw [if_pos (by omega)]
    exact Nat.pow_lt_pow_right (by omega) (by omega)
theorem zones_div {z : Nat} (h : z < 2 ^ 16) : (z : Int) / 2 ^ 16 = 0 ∧ (z : Int) / 65536 = 0 := by
  have : z < 65536 := h
  constructor <;> omega
/-- what the round of zone z needs of its list ls -/
structure InFacts (xs : List Stop) (n : Nat) (z : Nat) (ls : List Int) : Prop where
  len : ls.length ≤ n
  at_ : ∀ j, j < ls.length → ∃ i : Nat, i < n ∧ gi ls j = (i : Int) ∧ (gs xs i).zone = (z : Int)
  lt : ∀ j, j + 1 < ls.length → gi ls j < gi ls (j + 1)
theorem in_facts {xs : List Stop} {n z : Nat} (hl : xs.length = n) : InFacts xs n z (inTo xs (z : Int) xs.length) := by
  subst hl
  exact ⟨in_len _ _ _, fun j hj => in_at hj, fun j hj => in_lt hj⟩

set_option maxRecDepth 100000 in
set_option maxHeartbeats 2000000 in
theorem zonelists_walk (A : Option Addr) (n c : Nat) (xs : List Stop) (w : World) (hx : SAt stopC w A n xs) (hs : Sized xs) :
    Calls Try.prog 9 #[.slice A n c] w fun e w' => e = .returned (.bool true) ∧ Below w.heap.size w w' := by
  have r := Nat.le_refl w.heap.size
  have R := Lib.hid hx
  have HN := Lib.hid hx.1
  have HS := Lib.hid (hs.at_ hx.1)
  have HB := Lib.hid (Below.refl w.heap.size w)
  clear hx hs
  cases hsm : smallB xs
  · go_enter Try.func9, Try.ntmps9
    go_wp2_with fail
    refine (small_any _ _ _ xs _ R.out HS.out).mono ?_
    rintro e w1 ⟨rfl, hb⟩
    have R := Lib.hid (R.out.stays hb)
    have HB := Lib.hid (bthen HB.out hb r)
    clear hb
    go_wp2_with fail
    refine (example_any _).mono ?_
    rintro e w2 ⟨rfl, hb⟩
    have R := Lib.hid (R.out.stays hb)
    have HB := Lib.hid (bthen HB.out hb r)
    clear hb
    go_wp2
    go_ret
    exact ⟨rfl, HB.out⟩
  by_cases h64 : (64 : Int) < (n : Int)
  · go_enter Try.func9, Try.ntmps9
    go_wp2_with fail
    refine (small_any _ _ _ xs _ R.out HS.out).mono ?_
    rintro e w1 ⟨rfl, hb⟩
    have R := Lib.hid (R.out.stays hb)
    have HB := Lib.hid (bthen HB.out hb r)
    clear hb
    go_wp2_with fail
    refine (example_any _).mono ?_
    rintro e w2 ⟨rfl, hb⟩
    have R := Lib.hid (R.out.stays hb)
    have HB := Lib.hid (bthen HB.out hb r)
    clear hb
    go_wp2
    go_ret
    exact ⟨rfl, HB.out⟩
  have h64' : n ≤ 64 := by omega
  have hn : n ≤ 1000 := by omega
  have hck := fun A n c w h h2 => check_any A n c xs w h h2
  by_cases he : chkE xs = 0
  · have HF := Lib.hid (chk_fine HN.out h64' he)
    rw [he, HF.out.2] at hck
    have HZ := Lib.hid (fine_zone HF.out.1)
    clear he
    obtain ⟨z, hz⟩ : ∃ z, z = zonesTo xs xs.length := ⟨_, rfl⟩
    have hza := fun A n c w h h2 => zones_any A n c xs w h h2
    rw [← hz] at hza
    have HU : Hid (U64 z) := Lib.hid (by rw [hz]; exact zones_lt _ _)
    have HD := Lib.hid (zones_div (z := z) (by rw [hz]; exact zones_small (by rw [HN.out]; exact HZ.out)))
    have HT : Hid (∀ j, j ≤ 63 → z.testBit j = decide (0 < (inTo xs (j : Int) xs.length).length)) := Lib.hid (by rw [hz]; exact fun j hj => zone_bit xs _ j hj)
    clear hz
    go_enter Try.func9, Try.ntmps9
    go_wp2_with fail
    refine (small_any _ _ _ xs _ R.out HS.out).mono ?_
    rintro e w1 ⟨rfl, hb⟩
    have R := Lib.hid (R.out.stays hb)
    have HB := Lib.hid (bthen HB.out hb r)
    clear hb
    go_wp2_with fail
    refine (hck _ _ _ _ R.out HS.out).mono ?_
    rintro e w2 ⟨rfl, hb⟩
    have R := Lib.hid (R.out.stays hb)
    have HB := Lib.hid (bthen HB.out hb r)
    clear hb
    clear hck
    go_wp2_with fail
    refine (hza _ _ _ _ R.out hn).mono ?_
    rintro e w3 ⟨rfl, hb⟩
    have R := Lib.hid (R.out.stays hb)
    have HB := Lib.hid (bthen HB.out hb r)
    clear hb
    clear hza
    go_wp2
    go_loopw [6, 7] (fun s z wr => ∃ k : Nat, k ≤ 16 ∧ z = .int .i64 k ∧ s = .int .i64 (sumN xs n k : Nat) ∧ Below w3.heap.size w3 wr) (fun _ i _ => 16 - (intOf i).toNat)
    case atStart => exact ⟨0, by omega, rfl, rfl, Below.refl _ _⟩
    case round =>
      obtain ⟨k, hk, rfl, rfl, hbel⟩ := hrel
      by_cases hlt : k < 16
      · have k16 : (k : Int) < 16 := by omega
        have k0 : (0 : Int) ≤ (k : Int) := by omega
        have hsl := sum_le xs n k
        go_wp2_with fail
        refine (inzone_any _ _ _ xs (k : Int) _ (R.out.stays hbel) hn).mono ?_
        rintro e w4 ⟨A4, c4, rfl, hi, hu, hc, hb, hg⟩
        have hT := HT.out k (by omega)
        have hfc := in_facts (z := k) HN.out
        have hse : sumN xs n (k + 1) = sumN xs n k + (inTo xs (k : Int) xs.length).length := by rw [sumN, HN.out]
        obtain ⟨ls, hls⟩ : ∃ ls, ls = inTo xs k xs.length := ⟨_, rfl⟩
        rw [← hls] at hi hg hT hfc hse
        rw [← hls]
        have hzb := zbit (k := k) HU.out
        rw [hT] at hzb
        have HSE := Lib.hid hse
        have HFC := Lib.hid hfc
        have HI := Lib.hid hi
        have HG := Lib.hid hg
        have hll := hfc.len
        have hbel4 := bthen hbel hb (Nat.le_refl _)
        clear hu hc hls hb hT hse hfc hbel hi hg
        obtain ⟨m, hm⟩ : ∃ m, m = ls.length := ⟨_, rfl⟩
        rw [← hm] at HI HG hll hzb HSE
        rw [← hm]
        have HM := Lib.hid hm
        clear hm
        by_cases hm0 : 0 < m
        · rw [decide_eq_true hm0] at hzb
          have hm0' : (0 : Int) < (m : Int) := by omega
          have hml : decide (n < m) = false := decide_eq_false (by omega)
          go_wp2
          go_loopw [55] (fun i wx => ∃ j : Nat, j ≤ m ∧ i = .int .i64 j ∧ Below w4.heap.size w4 wx) (fun i _ => m - (intOf i).toNat)
          case atStart => exact ⟨0, by omega, rfl, Below.refl _ _⟩
          case round =>
            obtain ⟨j, hj, rfl, hbj⟩ := hrel
            have HBJ := Lib.hid hbj
            clear hbj
            by_cases hjm : j < m
            · have j0 : (0 : Int) ≤ (j : Int) := by omega
              have jm : (j : Int) < (m : Int) := by omega
              obtain ⟨i, hin, hgi, hzi⟩ := HFC.out.at_ j (by rw [← HM.out]; exact hjm)
              obtain ⟨g, hA⟩ := HG.out (by omega)
              subst hA
              have hcj := (HI.out.stays HBJ.out).at_ j hjm
              rw [hgi] at hcj
              have HRX := Lib.hid ((R.out.stays (hbel4)).stays HBJ.out)
              obtain ⟨b, o, hA, _⟩ := R.out.at_ hin
              subst hA
              obtain ⟨c0, c1, c2, c3⟩ := stop_cells HRX.out hin
              rw [hzi] at c1
              have i0 : (0 : Int) ≤ (i : Int) := by omega
              have inn : (i : Int) < (n : Int) := by omega
              have HGI := Lib.hid hgi
              clear hzi hgi
              by_cases hj0 : j = 0
              · have hjn : ¬ (0 : Int) < (j : Int) := by omega
                clear hj0
                go_wp2
                go_roundw
                case rel => exact ⟨j + 1, by omega, by go_num, HBJ.out⟩
                case measure => simp [intOf]; omega
              · have hjp : (0 : Int) < (j : Int) := by omega
                have hlt := HFC.out.lt (j - 1) (by rw [← HM.out]; omega)
                obtain ⟨i', hin', hgi', _⟩ := HFC.out.at_ (j - 1) (by rw [← HM.out]; omega)
                rw [show j - 1 + 1 = j by omega, HGI.out, hgi'] at hlt
                have hcp := (HI.out.stays HBJ.out).at_ (j - 1) (by omega)
                rw [hgi'] at hcp
                clear hgi' hj0
                go_wp2
                go_roundw
                case rel => exact ⟨j + 1, by omega, by go_num, HBJ.out⟩
                case measure => simp [intOf]; omega
            · obtain rfl : j = m := by omega
              have hd : ¬ ((j : Int) < (j : Int)) := by omega
              have HB5 := Lib.hid (bthen hbel4 HBJ.out (Nat.le_refl _))
              clear hbel4
              go_wp2
              go_roundw
              case rel => exact ⟨k + 1, by omega, by go_num, by rw [HSE.out]; go_num, HB5.out⟩
              case measure => simp [intOf]; omega
        · rw [decide_eq_false hm0] at hzb
          have hm0' : ¬ (0 : Int) < (m : Int) := by omega
          have hml : decide (n < m) = false := decide_eq_false (by omega)
          go_wp2
          go_loopw [55] (fun i wx => ∃ j : Nat, j ≤ m ∧ i = .int .i64 j ∧ Below w4.heap.size w4 wx) (fun i _ => m - (intOf i).toNat)
          case atStart => exact ⟨0, by omega, rfl, Below.refl _ _⟩
          case round =>
            obtain ⟨j, hj, rfl, hbj⟩ := hrel
            obtain rfl : j = m := by omega
            have hd : ¬ ((j : Int) < (j : Int)) := by omega
            have HB5 := Lib.hid (bthen hbel4 hbj (Nat.le_refl _))
            clear hbj hbel4
            go_wp2
            go_roundw
            case rel => exact ⟨k + 1, by omega, by go_num, by rw [HSE.out]; go_num, HB5.out⟩
            case measure => simp [intOf]; omega
      · obtain rfl : k = 16 := by omega
        have hsn : sumN xs n 16 = n := sum_all HZ.out
        rw [hsn]
        have hd1 := HD.out.1
        have hd2 := HD.out.2
        clear hsn
        have HB := Lib.hid (bthen HB.out hbel r)
        clear hbel
        go_wp2_with fail
        refine (example_any _).mono ?_
        rintro e w5 ⟨rfl, hb⟩
        have HB := Lib.hid (bthen HB.out hb r)
        clear hb
        go_wp2
        go_ret
        exact ⟨rfl, HB.out⟩
  · have he' : (chkE xs != 0) = true := by simpa using he
    clear he
    go_enter Try.func9, Try.ntmps9
    go_wp2_with fail
    refine (small_any _ _ _ xs _ R.out HS.out).mono ?_
    rintro e w1 ⟨rfl, hb⟩
    have R := Lib.hid (R.out.stays hb)
    have HB := Lib.hid (bthen HB.out hb r)
    clear hb
    go_wp2_with fail
    refine (hck _ _ _ _ R.out HS.out).mono ?_
    rintro e w2 ⟨rfl, hb⟩
    have R := Lib.hid (R.out.stays hb)
    have HB := Lib.hid (bthen HB.out hb r)
    clear hb
    clear hck
    go_wp2_with fail
    refine (example_any _).mono ?_
    rintro e w3 ⟨rfl, hb⟩
    have R := Lib.hid (R.out.stays hb)
    have HB := Lib.hid (bthen HB.out hb r)
    clear hb
    go_wp2
    go_ret
    exact ⟨rfl, HB.out⟩
end Go.Proofs.Yteifjnckceeldaa
