/-
  The reference's First, Without, Sort. Printed by gen/hp7.py.
-/
import Derived.Test.YtndbdgadijbhnaaHeap6
namespace Go.Proofs.Ytndbdgadijbhnaa
open Go.RowKit

/-- the first least of the first k elements -/
def bestTo (lt : Pair → Pair → Bool) (xs : List Pair) : Nat → Nat
  | 0 => 0
  | k + 1 => if k = 0 then 0 else if lt (gp xs k) (gp xs (bestTo lt xs k)) = true then k else bestTo lt xs k
theorem bestTo_lt (lt : Pair → Pair → Bool) (xs : List Pair) {k : Nat} (h : 0 < k) : bestTo lt xs k < k := by
  induction k with
  | zero => omega
  | succ k ih =>
    rw [bestTo]
    split
    · omega
    · split
      · omega
      · have := ih (by omega)
        omega
theorem best_one (lt : Pair → Pair → Bool) (xs : List Pair) : bestTo lt xs 1 = 0 := rfl
theorem best_new {lt : Pair → Pair → Bool} {xs : List Pair} {k : Nat} (h0 : 0 < k) (h : lt (gp xs k) (gp xs (bestTo lt xs k)) = true) : bestTo lt xs (k + 1) = k := by rw [bestTo, if_neg (by omega), if_pos h]
theorem best_old {lt : Pair → Pair → Bool} {xs : List Pair} {k : Nat} (h0 : 0 < k) (h : lt (gp xs k) (gp xs (bestTo lt xs k)) = false) : bestTo lt xs (k + 1) = bestTo lt xs k := by rw [bestTo, if_neg (by omega), if_neg (by rw [h]; exact Bool.noConfusion)]
theorem best_new' {lt : Pair → Pair → Bool} {xs : List Pair} {k j : Nat} (h0 : 0 < k) (hj : j = bestTo lt xs k) (h : lt (gp xs k) (gp xs j) = true) : k = bestTo lt xs (k + 1) := by
  subst hj
  exact (best_new h0 h).symm
theorem best_old' {lt : Pair → Pair → Bool} {xs : List Pair} {k j : Nat} (h0 : 0 < k) (hj : j = bestTo lt xs k) (h : lt (gp xs k) (gp xs j) = false) : j = bestTo lt xs (k + 1) := by
  subst hj
  exact (best_old h0 h).symm
theorem less_at (m : Int) (x y : Pair) (r : Bool) (hr : ltP m x y = r) (w : World) : Calls Try.prog 23 #[.int .i64 m, .agg (pa x), .agg (pa y)] w fun e w' => e = .returned (.bool r) ∧ Below w.heap.size w w' := by
  subst hr
  exact less_any m x y w
theorem four {u : World} {b o n i k : Nat} {xs : List Pair} (h : SAt pairC u (some ⟨b, o, none⟩) n xs) (hi : i < n) (hk : k < n) :
    u.cell? ⟨b, o + i * 2, none⟩ = some (.int .i64 (gp xs i).key) ∧ u.cell? ⟨b, o + i * 2 + 1, none⟩ = some (.int .i64 (gp xs i).mark) ∧ u.cell? ⟨b, o + k * 2, none⟩ = some (.int .i64 (gp xs k).key) ∧ u.cell? ⟨b, o + k * 2 + 1, none⟩ = some (.int .i64 (gp xs k).mark) := by
  obtain ⟨a0, a1⟩ := pair_cells h hi
  obtain ⟨b0, b1⟩ := pair_cells h hk
  exact ⟨a0, a1, b0, b1⟩

set_option maxRecDepth 100000 in
set_option maxHeartbeats 4000000 in
theorem first_any (m : Int) (A : Option Addr) (n c : Nat) (xs : List Pair) (w : World) (hx : SAt pairC w A n xs) (h0 : 0 < n) (hn : n ≤ 1000) :
    Calls Try.prog 12 #[.int .i64 m, .slice A n c] w fun e w' => e = .returned (.int .i64 (bestTo (ltP m) xs n)) ∧ Below w.heap.size w w' := by
  obtain ⟨b, o, hA, _⟩ := hx.at_ h0
  subst hA
  have H := Lib.hid hx
  clear hx
  go_enter Try.func12, Try.ntmps12
  go_wp2
  go_loopw [5, 6] (fun be i wr => ∃ k j : Nat, 1 ≤ k ∧ k ≤ n ∧ j < k ∧ i = .int .i64 k ∧ be = .int .i64 j ∧ Hid (j = bestTo (ltP m) xs k) ∧ Hid (Below w.heap.size w wr)) (fun _ i _ => n - (intOf i).toNat)
  case atStart => exact ⟨1, 0, by omega, by omega, by omega, rfl, rfl, Lib.hid rfl, Lib.hid (Below.refl _ _)⟩
  case round =>
    obtain ⟨k, j, hk1, hkn, hjk, rfl, rfl, HJ, HB⟩ := hrel
    have k0 : (0 : Int) ≤ (k : Int) := by omega
    have j0 : (0 : Int) ≤ (j : Int) := by omega
    by_cases hlt : k < n
    · have hlt' : (k : Int) < (n : Int) := by omega
      have hjn : (j : Int) < (n : Int) := by omega
      have HS := Lib.hid (H.out.stays HB.out)
      have hS := four HS.out.drew hlt (show j < n by omega)
      obtain ⟨r, hr⟩ : ∃ r, ltP m (gp xs k) (gp xs j) = r := ⟨_, rfl⟩
      have HR := Lib.hid hr
      clear hr
      go_wp2_with fail
      go_region_held3 (fun u => u.cell? ⟨b, o + k * 2, none⟩ = some (.int .i64 (gp xs k).key) ∧ u.cell? ⟨b, o + k * 2 + 1, none⟩ = some (.int .i64 (gp xs k).mark) ∧ u.cell? ⟨b, o + j * 2, none⟩ = some (.int .i64 (gp xs j).key) ∧ u.cell? ⟨b, o + j * 2 + 1, none⟩ = some (.int .i64 (gp xs j).mark)) (exact hS) ((first | (go_simp; go_at_call 23; (with_reducible refine (less_at m (gp xs k) (gp xs j) r HR.out _).mono ?_); rintro e w5 ⟨rfl, hb5⟩; have HS5 := Lib.hid (HS.out.drew.stays hb5); have hS := four HS5.out hlt (show j < n by omega); have HB5 := Lib.hid (bthen HB.out.drew hb5 (Nat.le_refl _)); clear hb5)))
      all_goals
        cases r
        · have HN := Lib.hid (best_old' (by omega) HJ.out HR.out)
          go_wp2
          go_roundw
          case rel => exact ⟨k + 1, j, by omega, by omega, by omega, by go_num, rfl, HN, HB5⟩
          case measure => simp [intOf]; omega
        · have HN := Lib.hid (best_new' (by omega) HJ.out HR.out)
          go_wp2
          go_roundw
          case rel => exact ⟨k + 1, k, by omega, by omega, by omega, by go_num, rfl, HN, HB5⟩
          case measure => simp [intOf]; omega
    · obtain rfl : k = n := by omega
      have hd : ¬ ((k : Int) < (k : Int)) := by omega
      go_wp2
      go_ret
      exact ⟨ret_int (by rw [← HJ.out]), HB.out⟩

/-- what is left of the first k elements without element i -/
def woTo (xs : List Pair) (i k : Nat) : List Pair := (xs.take k).eraseIdx i
theorem wo_len (xs : List Pair) (i k : Nat) : (woTo xs i k).length ≤ k := by
  unfold woTo
  have h1 := List.length_eraseIdx_le (xs.take k) i
  have h2 := List.length_take_le k xs
  omega
theorem wo_at {xs : List Pair} {k n : Nat} (hl : xs.length = n) (hk : k < n) : woTo xs k (k + 1) = woTo xs k k := by
  unfold woTo
  have hm : k - (xs.take k).length = 0 := by rw [List.length_take]; omega
  rw [pairC.g_take (by omega), List.eraseIdx_append_of_length_le (by rw [List.length_take]; omega), hm, List.eraseIdx_of_length_le (l := xs.take k) (by rw [List.length_take]; omega)]
  simp
theorem wo_off {xs : List Pair} {i k n : Nat} (hl : xs.length = n) (hk : k < n) (hne : i ≠ k) : woTo xs i (k + 1) = woTo xs i k ++ [gp xs k] := by
  unfold woTo
  rw [pairC.g_take (by omega)]
  by_cases h : i < k
  · rw [List.eraseIdx_append_of_lt_length (by rw [List.length_take]; omega)]
    rfl
  · rw [List.eraseIdx_append_of_length_le (by rw [List.length_take]; omega), List.eraseIdx_of_length_le (l := xs.take k) (by rw [List.length_take]; omega), List.eraseIdx_of_length_le (l := [_]) (by rw [List.length_take, List.length_singleton]; omega)]
    rfl
theorem wo_zero (w : World) (xs : List Pair) (i : Nat) : w.ownsRow w.heap.size 28 pairC.sz (.slice none 0 0) 0 (pairC.all (woTo xs i 0)) := by
  rw [show woTo xs i 0 = [] by simp [woTo]]
  exact World.ownsRow_nil _ _ _ _
theorem wo_all {xs : List Pair} {i n : Nat} (hl : xs.length = n) : woTo xs i n = xs.eraseIdx i := by
  unfold woTo
  rw [List.take_of_length_le (by omega)]

set_option maxRecDepth 100000 in
set_option maxHeartbeats 4000000 in
theorem without_any (A : Option Addr) (n c i : Nat) (xs : List Pair) (w : World) (hx : SAt pairC w A n xs) (hn : n ≤ 1000) :
    Calls Try.prog 15 #[.slice A n c, .int .i64 i] w fun e w' => MadeRow pairC w 28 (xs.eraseIdx i) e w' := by
  obtain ⟨i0, hi, hz0, hz1, hz2⟩ := info_parts pair_info
  have H := Lib.hid hx
  clear hx
  go_enter Try.func15, Try.ntmps15
  go_wp2
  go_loopw [5, 6] (fun so ki wr => ∃ k l : Nat, k ≤ n ∧ l ≤ k ∧ ki = .int .i64 k ∧ Hid (l = (woTo xs i k).length) ∧ Hid (wr.ownsRow w.heap.size 28 pairC.sz so l (pairC.all (woTo xs i k))) ∧ Hid (Below w.heap.size w wr)) (fun _ ki _ => n - (intOf ki).toNat)
  case atStart => exact ⟨0, 0, by omega, by omega, rfl, Lib.hid (by simp [woTo]), Lib.hid (wo_zero w xs i), Lib.hid (Below.refl _ _)⟩
  case round =>
    obtain ⟨k, l, hkn, hlk, rfl, HL, HO, HB⟩ := hrel
    have k0 : (0 : Int) ≤ (k : Int) := by omega
    by_cases hlt : k < n
    · have hlt' : (k : Int) < (n : Int) := by omega
      obtain ⟨b, o, hA, _⟩ := H.out.at_ hlt
      subst hA
      by_cases he : i = k
      · subst he
        have hne : ((i : Int) != (i : Int)) = false := by simp
        have HW := Lib.hid (wo_at H.out.1 hlt)
        go_wp2
        go_roundw
        case rel => exact ⟨i + 1, l, by omega, by omega, by go_num, Lib.hid (by rw [HW.out]; exact HL.out), Lib.hid (by rw [HW.out]; exact HO.out), HB⟩
        case measure => simp [intOf]; omega
      · have hne : ((k : Int) != (i : Int)) = true := by rw [bne_iff_ne]; omega
        have HW := Lib.hid (wo_off (i := i) H.out.1 hlt he)
        obtain ⟨x0, x1⟩ := pair_cells (H.out.stays HB.out) hlt
        clear he
        go_wp2_with (at_builtin; refine wpList_append_own _ rfl _ _ 26 rfl w.heap.size 28 i0 (.agg #[.int .i64 0, .int .i64 0]) pairC.sz 16 Try.underlying26 hi hz0 hz1 hz2 rfl (by decide) _ _ _ rfl (HO.out.alloc _) ⟨_, 0, none⟩ 1 1 (pairC.cs (gp xs k)) rfl rfl (cs_new pairC _ _ _ _ rfl) (pairC.one _) (by unfold maxLen; omega) (by omega) (by have := HB.out.size; simp; omega) ?_; intro v8 w8 hown8 hg8 _)
        have HO8 : Hid (w8.ownsRow w.heap.size 28 pairC.sz v8 (l + 1) (pairC.all (woTo xs i (k + 1)))) := Lib.hid (by rw [HW.out, pairC.all_app, pairC.all_one]; exact hown8)
        have HB8 := Lib.hid (below_app HB.out HB.out.size (Nat.le_refl _) HO.out hg8)
        clear hown8 hg8 x0 x1
        go_wp2
        go_roundw
        case rel => exact ⟨k + 1, l + 1, by omega, by omega, by go_num, Lib.hid (by rw [HW.out, List.length_append, HL.out]; rfl), HO8, HB8⟩
        case measure => simp [intOf]; omega
    · obtain rfl : k = n := by omega
      have hd : ¬ ((k : Int) < (k : Int)) := by omega
      have HW := Lib.hid (wo_all (i := i) H.out.1)
      go_wp2
      go_ret
      exact ⟨_, rfl, by rw [← HW.out, ← HL.out]; exact HO.out, HB.out⟩

theorem sat_grown {α : Type} {C : Codec α} {w w' : World} {b o n : Nat} {xs : List α} {row : Option Nat} {tmp : Obj} (h : SAt C w (some ⟨b, o, none⟩) n xs) (hg : (w.alloc tmp).grownBy w' row) (hne : some b ≠ row) : SAt C w' (some ⟨b, o, none⟩) n xs := by
  have h' := h.alloc tmp
  refine ⟨h.1, fun hn => ?_⟩
  obtain ⟨b', o', e, hc⟩ := h'.2 hn
  injection e with e
  injection e with e1 e2
  subst e1 e2
  exact ⟨b, o, rfl, fun k hk j u hu => hg.cell (hc k hk j u hu) hne⟩
/-- selection sort -/
def selL (lt : Pair → Pair → Bool) : Nat → List Pair → List Pair
  | 0, _ => []
  | f + 1, xs => gp xs (bestTo lt xs (f + 1)) :: selL lt f (xs.eraseIdx (bestTo lt xs (f + 1)))

set_option maxRecDepth 100000 in
set_option maxHeartbeats 4000000 in
theorem rsort_any (m : Int) (A : Option Addr) (n c : Nat) (xs : List Pair) (w : World) (hx : SAt pairC w A n xs) (hn : n ≤ 1000) :
    Calls Try.prog 19 #[.int .i64 m, .slice A n c] w fun e w' => ∃ v, e = .returned v ∧ w'.ownsRow w.heap.size 28 pairC.sz v n (pairC.all (selL (ltP m) n xs)) ∧ Below w.heap.size w w' := by
  obtain ⟨i0, hi, hz0, hz1, hz2⟩ := info_parts pair_info
  have H := Lib.hid hx
  clear hx
  go_enter Try.func19, Try.ntmps19
  go_wp2
  go_loopg [1, 5] n (fun g sl so wr => ∃ (k : Nat) (Ak : Option Addr) (ck : Nat) (xk done : List Pair), k + g = n ∧ sl = .slice Ak g ck ∧ Hid (SAt pairC wr Ak g xk) ∧ Hid (done ++ selL (ltP m) g xk = selL (ltP m) n xs) ∧ Hid (wr.ownsRow w.heap.size 28 pairC.sz so k (pairC.all done)) ∧ Hid (Below w.heap.size w wr) ∧ Hid (∀ b o, Ak = some ⟨b, o, none⟩ → so.ownBlock ≠ some b))
  case atStart => exact ⟨0, A, c, xs, [], by omega, rfl, H, Lib.hid rfl, Lib.hid (World.ownsRow_nil _ _ _ _), Lib.hid (Below.refl _ _), Lib.hid (by intro b o _; simp [Value.ownBlock])⟩
  case round =>
    obtain ⟨k, Ak, ck, xk, done, hkg, rfl, HX, HE, HO, HB, HNB⟩ := hrel
    cases gk with
    | zero =>
      go_wp2
      go_ret
      have hkn : k = n := hkg
      subst hkn
      have hdone : done = selL (ltP m) k xs := by have := HE.out; rwa [selL, List.append_nil] at this
      exact ⟨_, rfl, hdone ▸ HO.out, HB.out⟩
    | succ g2 =>
      have hpos : (0 : Int) < ((g2 + 1 : Nat) : Int) := by omega
      go_wp2_with fail
      refine (first_any m Ak (g2 + 1) ck xk _ HX.out (by omega) (by omega)).mono ?_
      rintro e w1 ⟨rfl, hb1⟩
      obtain ⟨j, hj⟩ : ∃ j, j = bestTo (ltP m) xk (g2 + 1) := ⟨_, rfl⟩
      have HJL := Lib.hid (bestTo_lt (ltP m) xk (k := g2 + 1) (by omega))
      rw [← hj] at HJL
      rw [← hj]
      have hjl := HJL.out
      have HJ := Lib.hid hj
      clear hj
      have HX1 := Lib.hid (HX.out.stays hb1)
      have HO1 := Lib.hid (ownsRow_stays HO.out hb1)
      have HB1 := Lib.hid (bthen HB.out hb1 (Nat.le_refl _))
      clear hb1
      obtain ⟨b, o, hA, _⟩ := HX.out.at_ (k := 0) (by omega)
      subst hA
      obtain ⟨x0, x1⟩ := pair_cells HX1.out hjl
      have j0 : (0 : Int) ≤ (j : Int) := by omega
      have j1 : (j : Int) < ((g2 + 1 : Nat) : Int) := by omega
      have j1' : (j : Int) < (g2 : Int) + 1 := by omega
      go_wp2_with (at_builtin; refine wpList_append_own _ rfl _ _ 26 rfl w.heap.size 28 i0 (.agg #[.int .i64 0, .int .i64 0]) pairC.sz 16 Try.underlying26 hi hz0 hz1 hz2 rfl (by decide) _ _ _ rfl (HO1.out.alloc _) ⟨_, 0, none⟩ 1 1 (pairC.cs (gp xk j)) rfl rfl (cs_new pairC _ _ _ _ rfl) (pairC.one _) (by unfold maxLen; omega) (by omega) (by have := HB1.out.size; simp; omega) ?_; intro v8 w8 hown8 hg8 _)
      have HO8 : Hid (w8.ownsRow w.heap.size 28 pairC.sz v8 (k + 1) (pairC.all (done ++ [gp xk j]))) := Lib.hid (by rw [pairC.all_app, pairC.all_one]; exact hown8)
      have HB8 := Lib.hid (below_app HB1.out HB1.out.size (Nat.le_refl _) HO1.out hg8)
      have HX8 := Lib.hid (sat_grown HX1.out hg8 (fun e => HNB.out b o rfl e.symm))
      clear hown8 hg8 x0 x1
      refine (without_any _ (g2 + 1) ck j xk _ HX8.out (by omega)).mono ?_
      rintro e w9 ⟨v9, rfl, hr9, hb9⟩
      have hlen : (xk.eraseIdx j).length = g2 := by rw [List.length_eraseIdx_of_lt (by rw [HX.out.1]; exact HJL.out), HX.out.1]; omega
      rw [hlen] at hr9
      obtain ⟨A9, c9, hv9, _⟩ := ownsRow_slice hr9
      subst hv9
      have HX9 := Lib.hid (SAt.own hr9 (by decide))
      have HO9 := Lib.hid (ownsRow_stays HO8.out hb9)
      have HB9 := Lib.hid (bthen HB8.out hb9 (Nat.le_refl _))
      have HNB9 : Hid (∀ b' o', A9 = some ⟨b', o', none⟩ → v8.ownBlock ≠ some b') := Lib.hid (fun b' o' e1 e2 => by
        have h1 := (HO8.out.lt b' e2).2
        have h2 := (hr9.lt b' (by rw [e1]; rfl)).1
        omega)
      clear hr9 hb9 hlen
      go_wp2
      go_roundg g2
      case rel => exact ⟨k + 1, A9, c9, xk.eraseIdx j, done ++ [gp xk j], by omega, rfl, HX9, Lib.hid (by rw [← HE.out, selL, ← HJ.out, List.append_assoc]; rfl), HO9, HB9, HNB9⟩
      case measure => omega
end Go.Proofs.Ytndbdgadijbhnaa
