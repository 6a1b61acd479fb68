/-
  merge and Sort of the program, on pairs. Printed by gen/hp9.py.
-/
import Derived.Test.YtndbdgadijbhnaaHref2
import Derived.Test.YtndbdgadijbhnaaFnEq
namespace Go.Proofs.Ytndbdgadijbhnaa
open Go.RowKit

/-- merging -/
def mergeL {α : Type} (lt : α → α → Bool) (xs ys : List α) : List α := List.merge xs ys (fun a b => !lt b a)
/-- merge sort -/
def msortL {α : Type} (lt : α → α → Bool) : Nat → List α → List α
  | 0, xs => xs
  | f + 1, xs => if xs.length < 2 then xs else mergeL lt (msortL lt f (xs.take (xs.length / 2))) (msortL lt f (xs.drop (xs.length / 2)))
theorem merge_nil_left {α : Type} (lt : α → α → Bool) (ys : List α) : mergeL lt [] ys = ys := by simp [mergeL]
theorem merge_nil_right {α : Type} (lt : α → α → Bool) (xs : List α) : mergeL lt xs [] = xs := by simp [mergeL]
theorem merge_right {α : Type} {lt : α → α → Bool} {x y : α} {xs ys : List α} (h : lt y x = true) : mergeL lt (x :: xs) (y :: ys) = y :: mergeL lt (x :: xs) ys := by simp [mergeL, h]
theorem merge_left {α : Type} {lt : α → α → Bool} {x y : α} {xs ys : List α} (h : lt y x = false) : mergeL lt (x :: xs) (y :: ys) = x :: mergeL lt xs (y :: ys) := by simp [mergeL, h]
theorem merge_right' {α : Type} {lt : α → α → Bool} {x y : α} {xk yk xs ys : List α} (hx : xk = x :: xs) (hy : yk = y :: ys) (h : lt y x = true) : mergeL lt xk yk = y :: mergeL lt xk ys := by
  subst hx hy
  exact merge_right h
theorem merge_left' {α : Type} {lt : α → α → Bool} {x y : α} {xk yk xs ys : List α} (hx : xk = x :: xs) (hy : yk = y :: ys) (h : lt y x = false) : mergeL lt xk yk = x :: mergeL lt xs yk := by
  subst hx hy
  exact merge_left h
theorem mergeL_len {α : Type} (lt : α → α → Bool) (xs ys : List α) : (mergeL lt xs ys).length = xs.length + ys.length := by simp [mergeL]
theorem msortL_len {α : Type} (lt : α → α → Bool) (f : Nat) (xs : List α) : (msortL lt f xs).length = xs.length := by
  induction f generalizing xs with
  | zero => rfl
  | succ f ih =>
    rw [msortL]
    split
    · rfl
    · rw [mergeL_len, ih, ih, List.length_take, List.length_drop]
      omega
theorem msortL_short {α : Type} {lt : α → α → Bool} {f n : Nat} {xs : List α} (hn : xs.length = n) (h : n < 2) : msortL lt f xs = xs := by
  cases f with
  | zero => rfl
  | succ f => rw [msortL, if_pos (by omega)]
theorem msortL_long {α : Type} {lt : α → α → Bool} {f n k : Nat} {xs : List α} (hn : xs.length = n) (h : 2 ≤ n) (hk : n / 2 = k) : msortL lt (f + 1) xs = mergeL lt (msortL lt f (xs.take k)) (msortL lt f (xs.drop k)) := by
  subst hk
  rw [msortL, if_neg (by omega), hn]
section
variable {α : Type} {C : Codec α}
theorem SAt.drop {w : World} {b o n : Nat} {xs : List α} (h : SAt C w (some ⟨b, o, none⟩) n xs) (j : Nat) : SAt C w (some ⟨b, o + j * C.sz, none⟩) (n - j) (xs.drop j) :=
  ⟨by rw [List.length_drop, h.1], fun hn => ⟨b, o + j * C.sz, rfl, fun k hk i u hu => by
    rw [C.g_of_drop] at hu
    have := h.cells (k := j + k) (by omega) i u hu
    rw [← this]
    congr 2
    rw [Nat.add_mul]
    omega⟩⟩
theorem SAt.empty {w : World} {A : Option Addr} : SAt C w A 0 ([] : List α) := SAt.nil w A
theorem sat_cons {w : World} {A : Option Addr} {n : Nat} {xs : List α} (h : SAt C w A (n + 1) xs) : xs = C.g xs 0 :: xs.drop 1 := by
  cases xs with
  | nil => have := h.1; simp at this
  | cons x t => simp [Codec.g]
end
/-- the function K answers by lt (the name that the two kinds share) -/
abbrev LessFnP := LessFn
theorem mfourP {u : World} {ba oa bb ob n m : Nat} {xs ys : List Pair} (h : SAt pairC u (some ⟨ba, oa, none⟩) n xs) (h2 : SAt pairC u (some ⟨bb, ob, none⟩) m ys) (hi : 0 < n) (hk : 0 < m) :
    u.cell? ⟨ba, oa, none⟩ = some (.int .i64 (gp xs 0).key) ∧ u.cell? ⟨ba, oa + 1, none⟩ = some (.int .i64 (gp xs 0).mark) ∧ u.cell? ⟨bb, ob, none⟩ = some (.int .i64 (gp ys 0).key) ∧ u.cell? ⟨bb, ob + 1, none⟩ = some (.int .i64 (gp ys 0).mark) := by
  obtain ⟨a0, a1⟩ := pair_cells h hi
  obtain ⟨b0, b1⟩ := pair_cells h2 hk
  simp only [Nat.zero_mul, Nat.add_zero] at a0 a1 b0 b1
  exact ⟨a0, a1, b0, b1⟩

set_option maxRecDepth 100000 in
set_option maxHeartbeats 4000000 in
theorem mergeP_any (K : FuncId) (lt : Pair → Pair → Bool) (hK : LessFnP K lt) (A B : Option Addr) (n m c d : Nat) (xs ys : List Pair) (w : World) (hx : SAt pairC w A n xs) (hy : SAt pairC w B m ys) (hc : n ≤ c) (hd : m ≤ d) (hn : n ≤ 1000) (hm : m ≤ 1000) :
    Calls Try.prog 40 #[.slice A n c, .slice B m d, .func (.func K) #[] #[]] w fun e w' => MadeRow pairC w 28 (mergeL lt xs ys) e w' := by
  obtain ⟨i0, hi, hz0, hz1, hz2⟩ := info_parts pair_info
  have HX := Lib.hid hx
  have HY := Lib.hid hy
  have HK := Lib.hid hK
  have HLEN : Hid ((mergeL lt xs ys).length = n + m) := Lib.hid (by rw [mergeL_len, hx.1, hy.1])
  clear hx hy hK
  go_enter Try.func40, Try.ntmps40
  go_wp2
  go_loopg [0, 1, 7] (n + m) (fun g sa sb so wr => ∃ (Ak Bk : Option Addr) (n' m' c' d' k : Nat) (xk yk done : List Pair), sa = .slice Ak n' c' ∧ sb = .slice Bk m' d' ∧ n' ≤ c' ∧ m' ≤ d' ∧ n' + m' = g ∧ k + g = n + m ∧ Hid (SAt pairC w Ak n' xk) ∧ Hid (SAt pairC w Bk m' yk) ∧ Hid (done ++ mergeL lt xk yk = mergeL lt xs ys) ∧ Hid (wr.ownsRow w.heap.size 28 pairC.sz so k (pairC.all done)) ∧ Hid (Below w.heap.size w wr))
  case atStart => exact ⟨A, B, n, m, c, d, 0, xs, ys, [], rfl, rfl, hc, hd, rfl, by omega, HX, HY, Lib.hid rfl, Lib.hid (World.ownsRow_nil _ _ _ _), Lib.hid (Below.refl _ _)⟩
  case round =>
    obtain ⟨Ak, Bk, n', m', c', d', k, xk, yk, done, rfl, rfl, hc', hd', hg, hkg, HXk, HYk, HE, HO, HB⟩ := hrel
    by_cases hnm : 0 < n' ∧ 0 < m'
    · obtain ⟨hn0, hm0⟩ := hnm
      obtain ⟨n2, rfl⟩ : ∃ n2, n' = n2 + 1 := ⟨n' - 1, by omega⟩
      obtain ⟨m2, rfl⟩ : ∃ m2, m' = m2 + 1 := ⟨m' - 1, by omega⟩
      obtain ⟨g2, rfl⟩ : ∃ g2, gk = g2 + 1 := ⟨gk - 1, by omega⟩
      obtain ⟨ba, oa, hA, _⟩ := HXk.out.at_ (k := 0) (by omega)
      subst hA
      obtain ⟨bb, ob, hA, _⟩ := HYk.out.at_ (k := 0) (by omega)
      subst hA
      have n0 : (0 : Int) < ((n2 + 1 : Nat) : Int) := by omega
      have m0 : (0 : Int) < ((m2 + 1 : Nat) : Int) := by omega
      have n0' : (0 : Int) < (n2 : Int) + 1 := by omega
      have m0' : (0 : Int) < (m2 : Int) + 1 := by omega
      have q1 : (1 : Int) ≤ (n2 : Int) + 1 := by omega
      have q2 : (1 : Int) ≤ (m2 : Int) + 1 := by omega
      have q3 : (n2 : Int) + 1 ≤ (c' : Int) := by omega
      have q4 : (m2 : Int) + 1 ≤ (d' : Int) := by omega
      have q5 : (1 : Int) ≤ (c' : Int) := by omega
      have q6 : (1 : Int) ≤ (d' : Int) := by omega
      have HCX := Lib.hid (sat_cons HXk.out)
      have HCY := Lib.hid (sat_cons HYk.out)
      obtain ⟨r, hr⟩ : ∃ r, lt (gp yk 0) (gp xk 0) = r := ⟨_, rfl⟩
      have HR := Lib.hid hr
      clear hr
      obtain ⟨hent, hless⟩ := HK.out
      have hless2 : ∀ u, Calls Try.prog K #[.agg (pa (gp yk 0)), .agg (pa (gp xk 0))] u fun e w' => e = .returned (.bool r) ∧ Below u.heap.size u w' := fun u => by have := hless (gp yk 0) (gp xk 0) u; rwa [HR.out] at this
      clear hless
      have hS := mfourP (HXk.out.stays HB.out).drew (HYk.out.stays HB.out).drew (show 0 < n2 + 1 by omega) (show 0 < m2 + 1 by omega)
      go_wp2_with fail
      go_region_held3 (fun u => u.cell? ⟨ba, oa, none⟩ = some (.int .i64 (gp xk 0).key) ∧ u.cell? ⟨ba, oa + 1, none⟩ = some (.int .i64 (gp xk 0).mark) ∧ u.cell? ⟨bb, ob, none⟩ = some (.int .i64 (gp yk 0).key) ∧ u.cell? ⟨bb, ob + 1, none⟩ = some (.int .i64 (gp yk 0).mark)) (exact hS) ((first | (go_simp; (with_reducible refine (hless2 _).mono ?_); rintro e w5 ⟨rfl, hb5⟩; have HB5 := Lib.hid (bthen HB.out.drew hb5 (Nat.le_refl _)); have HO5 := Lib.hid (ownsRow_stays (show wr.drew.ownsRow _ _ _ _ _ _ from HO.out) hb5); have hS := mfourP (HXk.out.stays HB5.out) (HYk.out.stays HB5.out) (show 0 < n2 + 1 by omega) (show 0 < m2 + 1 by omega); clear hb5)))
      clear hless2
      obtain ⟨x0, x1, y0, y1⟩ := hS
      cases r
      · have HMM := Lib.hid (merge_left' (lt := lt) HCX.out HCY.out HR.out)
        by_cases hce : c' = 1
        · obtain rfl : n2 = 0 := by omega
          have hce' : ((c' : Nat) : Int) = 1 := by omega
          go_wp2_with (at_builtin; refine wpList_append_own _ rfl _ _ 26 rfl w.heap.size 28 i0 (.agg #[.int .i64 0, .int .i64 0]) pairC.sz 16 Try.underlying26 hi hz0 hz1 hz2 rfl (by decide) _ _ _ rfl (HO5.out.alloc _) ⟨_, 0, none⟩ 1 1 (pairC.cs (gp xk 0)) rfl rfl (cs_new pairC _ _ _ _ rfl) (pairC.one _) (by unfold maxLen; omega) (by omega) (by have := HB5.out.size; simp; omega) ?_; intro v8 w8 hown8 hg8 _)
          have HO8 : Hid (w8.ownsRow w.heap.size 28 pairC.sz v8 (k + 1) (pairC.all (done ++ [gp xk 0]))) := Lib.hid (by rw [pairC.all_app, pairC.all_one]; exact hown8)
          have HB8 := Lib.hid (below_app HB5.out HB5.out.size (Nat.le_refl _) HO5.out hg8)
          clear hown8 hg8
          have HE2 : Hid ((done ++ [gp xk 0]) ++ mergeL lt (xk.drop 1) yk = mergeL lt xs ys) := Lib.hid (by rw [← HE.out, HMM.out, List.append_assoc]; rfl)
          go_wp2
          go_roundg g2
          case rel => exact ⟨_, some ⟨bb, ob, none⟩, 0, m2 + 1, _, d', k + 1, xk.drop 1, yk, done ++ [gp xk 0], rfl, rfl, by omega, by omega, by omega, by omega, Lib.hid ⟨by rw [List.length_drop, HXk.out.1], fun h => absurd h (by omega)⟩, HYk, HE2, HO8, HB8⟩
          case measure => omega
        · have hce' : (1 : Int) ≠ (c' : Int) := by omega
          have hce2 : ¬ 1 = c' := by omega
          have hce3 : ¬ c' ≤ 1 := by omega
          have hce4 : ¬ c' - 1 = 0 := by omega
          have hce5 : 1 < c' := by omega
          go_wp2_with (at_builtin; refine wpList_append_own _ rfl _ _ 26 rfl w.heap.size 28 i0 (.agg #[.int .i64 0, .int .i64 0]) pairC.sz 16 Try.underlying26 hi hz0 hz1 hz2 rfl (by decide) _ _ _ rfl (HO5.out.alloc _) ⟨_, 0, none⟩ 1 1 (pairC.cs (gp xk 0)) rfl rfl (cs_new pairC _ _ _ _ rfl) (pairC.one _) (by unfold maxLen; omega) (by omega) (by have := HB5.out.size; simp; omega) ?_; intro v8 w8 hown8 hg8 _)
          have HO8 : Hid (w8.ownsRow w.heap.size 28 pairC.sz v8 (k + 1) (pairC.all (done ++ [gp xk 0]))) := Lib.hid (by rw [pairC.all_app, pairC.all_one]; exact hown8)
          have HB8 := Lib.hid (below_app HB5.out HB5.out.size (Nat.le_refl _) HO5.out hg8)
          clear hown8 hg8
          have HE2 : Hid ((done ++ [gp xk 0]) ++ mergeL lt (xk.drop 1) yk = mergeL lt xs ys) := Lib.hid (by rw [← HE.out, HMM.out, List.append_assoc]; rfl)
          go_wp2
          go_roundg g2
          case rel => exact ⟨_, some ⟨bb, ob, none⟩, n2, m2 + 1, _, d', k + 1, xk.drop 1, yk, done ++ [gp xk 0], rfl, rfl, by omega, by omega, by omega, by omega, Lib.hid (by have := HXk.out.drop 1; rwa [Nat.one_mul, Nat.add_sub_cancel] at this), HYk, HE2, HO8, HB8⟩
          case measure => omega
      · have HMM := Lib.hid (merge_right' (lt := lt) HCX.out HCY.out HR.out)
        by_cases hce : d' = 1
        · obtain rfl : m2 = 0 := by omega
          have hce' : ((d' : Nat) : Int) = 1 := by omega
          go_wp2_with (at_builtin; refine wpList_append_own _ rfl _ _ 26 rfl w.heap.size 28 i0 (.agg #[.int .i64 0, .int .i64 0]) pairC.sz 16 Try.underlying26 hi hz0 hz1 hz2 rfl (by decide) _ _ _ rfl (HO5.out.alloc _) ⟨_, 0, none⟩ 1 1 (pairC.cs (gp yk 0)) rfl rfl (cs_new pairC _ _ _ _ rfl) (pairC.one _) (by unfold maxLen; omega) (by omega) (by have := HB5.out.size; simp; omega) ?_; intro v8 w8 hown8 hg8 _)
          have HO8 : Hid (w8.ownsRow w.heap.size 28 pairC.sz v8 (k + 1) (pairC.all (done ++ [gp yk 0]))) := Lib.hid (by rw [pairC.all_app, pairC.all_one]; exact hown8)
          have HB8 := Lib.hid (below_app HB5.out HB5.out.size (Nat.le_refl _) HO5.out hg8)
          clear hown8 hg8
          have HE2 : Hid ((done ++ [gp yk 0]) ++ mergeL lt xk (yk.drop 1) = mergeL lt xs ys) := Lib.hid (by rw [← HE.out, HMM.out, List.append_assoc]; rfl)
          go_wp2
          go_roundg g2
          case rel => exact ⟨some ⟨ba, oa, none⟩, _, n2 + 1, 0, c', _, k + 1, xk, yk.drop 1, done ++ [gp yk 0], rfl, rfl, by omega, by omega, by omega, by omega, HXk, Lib.hid ⟨by rw [List.length_drop, HYk.out.1], fun h => absurd h (by omega)⟩, HE2, HO8, HB8⟩
          case measure => omega
        · have hce' : (1 : Int) ≠ (d' : Int) := by omega
          have hce2 : ¬ 1 = d' := by omega
          have hce3 : ¬ d' ≤ 1 := by omega
          have hce4 : ¬ d' - 1 = 0 := by omega
          have hce5 : 1 < d' := by omega
          go_wp2_with (at_builtin; refine wpList_append_own _ rfl _ _ 26 rfl w.heap.size 28 i0 (.agg #[.int .i64 0, .int .i64 0]) pairC.sz 16 Try.underlying26 hi hz0 hz1 hz2 rfl (by decide) _ _ _ rfl (HO5.out.alloc _) ⟨_, 0, none⟩ 1 1 (pairC.cs (gp yk 0)) rfl rfl (cs_new pairC _ _ _ _ rfl) (pairC.one _) (by unfold maxLen; omega) (by omega) (by have := HB5.out.size; simp; omega) ?_; intro v8 w8 hown8 hg8 _)
          have HO8 : Hid (w8.ownsRow w.heap.size 28 pairC.sz v8 (k + 1) (pairC.all (done ++ [gp yk 0]))) := Lib.hid (by rw [pairC.all_app, pairC.all_one]; exact hown8)
          have HB8 := Lib.hid (below_app HB5.out HB5.out.size (Nat.le_refl _) HO5.out hg8)
          clear hown8 hg8
          have HE2 : Hid ((done ++ [gp yk 0]) ++ mergeL lt xk (yk.drop 1) = mergeL lt xs ys) := Lib.hid (by rw [← HE.out, HMM.out, List.append_assoc]; rfl)
          go_wp2
          go_roundg g2
          case rel => exact ⟨some ⟨ba, oa, none⟩, _, n2 + 1, m2, c', _, k + 1, xk, yk.drop 1, done ++ [gp yk 0], rfl, rfl, by omega, by omega, by omega, by omega, HXk, Lib.hid (by have := HYk.out.drop 1; rwa [Nat.one_mul, Nat.add_sub_cancel] at this), HE2, HO8, HB8⟩
          case measure => omega
    · have HMM : Hid (mergeL lt xk yk = xk ++ yk) := Lib.hid (by
        rcases Nat.eq_zero_or_pos n' with h0 | h0
        · have := List.eq_nil_of_length_eq_zero (HXk.out.1.trans h0)
          rw [this, merge_nil_left]; rfl
        · have := List.eq_nil_of_length_eq_zero (HYk.out.1.trans (by omega))
          rw [this, merge_nil_right, List.append_nil])
      by_cases h0 : 0 < n'
      · obtain rfl : m' = 0 := by omega
        have n0 : (0 : Int) < (n' : Int) := by omega
        have hkk : k + n' + 0 = n + m := by omega
        have HKK := Lib.hid hkk
        clear hkk
        go_wp2_with (first | (at_builtin; refine wpList_append_sat (C := pairC) rfl (.tmp 40) (.tmp 41) 26 rfl w.heap.size 28 i0 (.agg #[.int .i64 0, .int .i64 0]) 16 Try.underlying26 hi hz0 hz1 hz2 rfl (by decide) _ k done rfl HO.out _ _ _ xk rfl (HXk.out.stays HB.out) (by unfold maxLen; omega) (by omega) HB.out.size ?_; intro v8 w8 hr8 hb8; have HB8 := Lib.hid (HB.out.trans hb8)) | (at_builtin; refine wpList_append_sat (C := pairC) rfl (.tmp 43) (.tmp 44) 26 rfl w.heap.size 28 i0 (.agg #[.int .i64 0, .int .i64 0]) 16 Try.underlying26 hi hz0 hz1 hz2 rfl (by decide) _ _ (done ++ xk) rfl hr8 _ _ _ yk rfl (HYk.out.stays HB8.out) (by unfold maxLen; omega) (by omega) HB8.out.size ?_; intro v9 w9 hr9 hb9))
        have HB9 := Lib.hid (HB8.out.trans hb9)
        have HR9 := Lib.hid hr9
        clear hr8 hb8 hr9 hb9
        go_wp2
        go_ret
        exact ⟨_, rfl, by rw [HLEN.out, ← HE.out, HMM.out, ← List.append_assoc]; exact HKK.out ▸ HR9.out, HB9.out⟩
      · obtain rfl : n' = 0 := by omega
        have hkk : k + 0 + m' = n + m := by omega
        have HKK := Lib.hid hkk
        clear hkk
        go_wp2_with (first | (at_builtin; refine wpList_append_sat (C := pairC) rfl (.tmp 40) (.tmp 41) 26 rfl w.heap.size 28 i0 (.agg #[.int .i64 0, .int .i64 0]) 16 Try.underlying26 hi hz0 hz1 hz2 rfl (by decide) _ k done rfl HO.out _ _ _ xk rfl (HXk.out.stays HB.out) (by unfold maxLen; omega) (by omega) HB.out.size ?_; intro v8 w8 hr8 hb8; have HB8 := Lib.hid (HB.out.trans hb8)) | (at_builtin; refine wpList_append_sat (C := pairC) rfl (.tmp 43) (.tmp 44) 26 rfl w.heap.size 28 i0 (.agg #[.int .i64 0, .int .i64 0]) 16 Try.underlying26 hi hz0 hz1 hz2 rfl (by decide) _ _ (done ++ xk) rfl hr8 _ _ _ yk rfl (HYk.out.stays HB8.out) (by unfold maxLen; omega) (by omega) HB8.out.size ?_; intro v9 w9 hr9 hb9))
        have HB9 := Lib.hid (HB8.out.trans hb9)
        have HR9 := Lib.hid hr9
        clear hr8 hb8 hr9 hb9
        go_wp2
        go_ret
        exact ⟨_, rfl, by rw [HLEN.out, ← HE.out, HMM.out, ← List.append_assoc]; exact HKK.out ▸ HR9.out, HB9.out⟩

set_option maxRecDepth 100000 in
set_option maxHeartbeats 4000000 in
theorem sortP_any (K : FuncId) (lt : Pair → Pair → Bool) (hK : LessFnP K lt) (f : Nat) : ∀ (A : Option Addr) (c n : Nat) (xs : List Pair) (w : World), SAt pairC w A n xs → n ≤ f → n ≤ c → n ≤ 1000 →
    Calls Try.prog 28 #[.slice A n c, .func (.func K) #[] #[]] w fun e w' => MadeRow pairC w 28 (msortL lt f xs) e w' := by
  obtain ⟨i0, hi, hz0, hz1, hz2⟩ := info_parts pair_info
  have he2 := fun w => eql_fn w 54 K Try.underlying54
  have HK := Lib.hid hK
  clear hK
  induction f with
  | zero =>
    intro A c n xs w hx hn hc h1000
    obtain rfl : n = 0 := by omega
    have H := Lib.hid hx
    have HM := Lib.hid (msortL_short (lt := lt) (f := 0) hx.1 (by omega))
    clear hx
    go_enter Try.func28, Try.ntmps28
    go_wp2_with (at_builtin; refine wpList_append_sat (C := pairC) rfl (.tmp 14) (.tmp 15) 26 rfl w.heap.size 28 i0 (.agg #[.int .i64 0, .int .i64 0]) 16 Try.underlying26 hi hz0 hz1 hz2 rfl (by decide) (.slice none 0 0) 0 [] rfl (World.ownsRow_nil _ _ _ _) _ _ _ xs rfl H.out (by unfold maxLen; omega) (by omega) (Nat.le_refl _) ?_; intro v8 w8 hr8 hb8)
    have HR8 := Lib.hid hr8
    have HB8 := Lib.hid hb8
    clear hr8 hb8
    go_wp2
    go_ret
    exact ⟨_, rfl, by rw [HM.out, H.out.1]; simpa using HR8.out, HB8.out⟩
  | succ f ih =>
    intro A c n xs w hx hn hc h1000
    have H := Lib.hid hx
    clear hx
    by_cases h2 : n < 2
    · have h2' : (n : Int) < 2 := by omega
      have HM := Lib.hid (msortL_short (lt := lt) (f := f + 1) H.out.1 h2)
      clear ih
      go_enter Try.func28, Try.ntmps28
      go_wp2_with (at_builtin; refine wpList_append_sat (C := pairC) rfl (.tmp 14) (.tmp 15) 26 rfl w.heap.size 28 i0 (.agg #[.int .i64 0, .int .i64 0]) 16 Try.underlying26 hi hz0 hz1 hz2 rfl (by decide) (.slice none 0 0) 0 [] rfl (World.ownsRow_nil _ _ _ _) _ _ _ xs rfl H.out (by unfold maxLen; omega) (by omega) (Nat.le_refl _) ?_; intro v8 w8 hr8 hb8)
      have HR8 := Lib.hid hr8
      have HB8 := Lib.hid hb8
      clear hr8 hb8
      go_wp2
      go_ret
      exact ⟨_, rfl, by rw [HM.out, H.out.1]; simpa using HR8.out, HB8.out⟩
    · have h2' : ¬ (n : Int) < 2 := by omega
      obtain ⟨h, hh⟩ : ∃ h, n / 2 = h := ⟨_, rfl⟩
      have HM := Lib.hid (msortL_long (lt := lt) (f := f) H.out.1 (by omega) hh)
      have hdiv : (n : Int) / 2 = (h : Int) := by omega
      have h0 : (0 : Int) ≤ (h : Int) := by omega
      have hhn : (h : Int) ≤ (n : Int) := by omega
      have hhc : (h : Int) ≤ (c : Int) := by omega
      have hnc : (n : Int) ≤ (c : Int) := by omega
      have e1 : ¬ h = c := by omega
      have e2 : ¬ c = h := by omega
      have e3 : ¬ c - h = 0 := by omega
      have e4 : ¬ c ≤ h := by omega
      have e5 : h < c := by omega
      have g1 : h ≤ f := by omega
      have g2 : n - h ≤ f := by omega
      have g3 : h ≤ c := by omega
      have g4 : n - h ≤ c - h := by omega
      have g5 : h ≤ n := by omega
      have g6 : (msortL lt f (xs.take h)).length ≤ 1000 := by rw [msortL_len, List.length_take]; omega
      have g7 : (msortL lt f (xs.drop h)).length ≤ 1000 := by rw [msortL_len, List.length_drop, H.out.1]; omega
      obtain ⟨b, o, hA, _⟩ := H.out.at_ (k := 0) (by omega)
      subst hA
      have HH := Lib.hid hh
      have IH := Lib.hid ih
      clear hh ih
      have HX := Lib.hid H.out.drew
      have HB := Lib.hid ((Below.refl w.heap.size w).drew)
      have hS : True := trivial
      go_enter Try.func28, Try.ntmps28
      go_wp2_with fail
      go_region_held3 (fun _ => True) (exact trivial) ((first
        | (go_simp; go_at_call 28; (with_reducible refine (IH.out (some ⟨b, o, none⟩) c h (xs.take h) _ (HX.out.take g5) g1 g3 (by omega)).mono ?_); rintro e w5 ⟨v5, rfl, hr5, hb5⟩; obtain ⟨A5, c5, rfl, hc5⟩ := ownsRow_slice hr5; have HSL := Lib.hid (SAt.own hr5 (by decide)); have HC5 := Lib.hid hc5; (try have HSR := Lib.hid (HSR.out.stays hb5)); have HX := Lib.hid (HX.out.stays hb5); have HB := Lib.hid (bthen HB.out hb5 (Nat.le_refl _)); clear hr5 hb5)
        | (go_simp; go_at_call 28; (with_reducible refine (IH.out (some ⟨b, o + h * 2, none⟩) (c - h) (n - h) (xs.drop h) _ (HX.out.drop h) g2 g4 (by omega)).mono ?_); rintro e w6 ⟨v6, rfl, hr6, hb6⟩; obtain ⟨A6, c6, rfl, hc6⟩ := ownsRow_slice hr6; have HSR := Lib.hid (SAt.own hr6 (by decide)); have HC6 := Lib.hid hc6; (try have HSL := Lib.hid (HSL.out.stays hb6)); have HX := Lib.hid (HX.out.stays hb6); have HB := Lib.hid (bthen HB.out hb6 (Nat.le_refl _)); clear hr6 hb6)
        | (go_simp; go_at_call 40; (with_reducible refine (mergeP_any K lt HK.out _ _ _ _ _ _ _ _ _ HSL.out HSR.out HC5.out HC6.out g6 g7).mono ?_); rintro e w7 ⟨v7, rfl, hr7, hb7⟩; have HR7 := Lib.hid (ownsRow_base hr7 HB.out.size); have HB := Lib.hid (bthen HB.out hb7 (Nat.le_refl _)); clear hr7 hb7)))
      all_goals
        go_wp2
        go_ret
        exact ⟨_, rfl, by rw [HM.out]; exact HR7.out, HB.out⟩
end Go.Proofs.Ytndbdgadijbhnaa
