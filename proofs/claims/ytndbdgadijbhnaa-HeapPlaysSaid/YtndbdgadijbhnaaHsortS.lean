/-
  merge and Sort of the program, on strings. Printed by gen/hp9.py.
-/
import Derived.Test.YtndbdgadijbhnaaHsort
import Derived.Test.YtndbdgadijbhnaaFnEq
namespace Go.Proofs.Ytndbdgadijbhnaa
open Go.RowKit

/-- how a string lies in memory -/
def strC : Codec ByteArray where
  cs s := [.string s]
  sz := 1
  d := ⟨#[]⟩
  len _ := rfl
  one x u hu := by
    simp at hu
    subst hu
    rfl
/-- string k -/
def gstr (xs : List ByteArray) (k : Nat) : ByteArray := strC.g xs k
theorem str_cell {w : World} {b o n k : Nat} {xs : List ByteArray} (h : SAt strC w (some ⟨b, o, none⟩) n xs) (hk : k < n) : w.cell? ⟨b, o + k, none⟩ = some (.string (gstr xs k)) := by
  have hc := h.cells hk 0 _ rfl
  have e : o + k * strC.sz + 0 = o + k := by show o + k * 1 + 0 = o + k; omega
  rwa [e] at hc
theorem mfourS {u : World} {ba oa bb ob n m : Nat} {xs ys : List ByteArray} (h : SAt strC u (some ⟨ba, oa, none⟩) n xs) (h2 : SAt strC u (some ⟨bb, ob, none⟩) m ys) (hi : 0 < n) (hk : 0 < m) :
    u.cell? ⟨ba, oa, none⟩ = some (.string (gstr xs 0)) ∧ u.cell? ⟨bb, ob, none⟩ = some (.string (gstr ys 0)) := ⟨str_cell h hi, str_cell h2 hk⟩
theorem sdrop {w : World} {b o n h : Nat} {xs : List ByteArray} (hx : SAt strC w (some ⟨b, o + h * strC.sz, none⟩) n xs) : SAt strC w (some ⟨b, o + h, none⟩) n xs := by
  have e : o + h * strC.sz = o + h := by show o + h * 1 = o + h; omega
  rwa [e] at hx
theorem str_info : (Try.prog.info? 9).map (fun i => (i.zero, i.size, i.bytes)) = some (some (.string ⟨#[]⟩), 1, 16) := by kernel_rfl
/-- the function K answers by lt on strings -/
def LessFnS (K : FuncId) (lt : ByteArray → ByteArray → Bool) : Prop :=
  (∀ args w, (callFunc K args).run Try.prog w = .ok (.enter K args) w) ∧ ∀ x y w, Calls Try.prog K #[.string x, .string y] w fun e w' => e = .returned (.bool (lt x y)) ∧ Below w.heap.size w w'
/-- the order of strings -/
def ltS (x y : ByteArray) : Bool := Op.bytesLess x.toList y.toList
theorem lessString_any (x y : ByteArray) (w : World) : Calls Try.prog 25 #[.string x, .string y] w fun e w' => e = .returned (.bool (ltS x y)) ∧ Below w.heap.size w w' := by
  go_enter Try.func25, Try.ntmps25
  go_wp2
  go_ret
  exact ⟨rfl, Below.refl _ _⟩
theorem lessString_fn : LessFnS 25 ltS := ⟨enters_of Try.func25 (by kernel_rfl) rfl, lessString_any⟩

set_option maxRecDepth 100000 in
set_option maxHeartbeats 4000000 in
theorem mergeS_any (K : FuncId) (lt : ByteArray → ByteArray → Bool) (hK : LessFnS K lt) (A B : Option Addr) (n m c d : Nat) (xs ys : List ByteArray) (w : World) (hx : SAt strC w A n xs) (hy : SAt strC w B m ys) (hc : n ≤ c) (hd : m ≤ d) (hn : n ≤ 1000) (hm : m ≤ 1000) :
    Calls Try.prog 39 #[.slice A n c, .slice B m d, .func (.func K) #[] #[]] w fun e w' => MadeRow strC w 9 (mergeL lt xs ys) e w' := by
  obtain ⟨i0, hi, hz0, hz1, hz2⟩ := info_parts str_info
  have HX := Lib.hid hx
  have HY := Lib.hid hy
  have HK := Lib.hid hK
  have HLEN : Hid ((mergeL lt xs ys).length = n + m) := Lib.hid (by rw [mergeL_len, hx.1, hy.1])
  clear hx hy hK
  go_enter Try.func39, Try.ntmps39
  go_wp2
  go_loopg [0, 1, 7] (n + m) (fun g sa sb so wr => ∃ (Ak Bk : Option Addr) (n' m' c' d' k : Nat) (xk yk done : List ByteArray), sa = .slice Ak n' c' ∧ sb = .slice Bk m' d' ∧ n' ≤ c' ∧ m' ≤ d' ∧ n' + m' = g ∧ k + g = n + m ∧ Hid (SAt strC w Ak n' xk) ∧ Hid (SAt strC w Bk m' yk) ∧ Hid (done ++ mergeL lt xk yk = mergeL lt xs ys) ∧ Hid (wr.ownsRow w.heap.size 9 strC.sz so k (strC.all done)) ∧ Hid (Below w.heap.size w wr))
  case atStart => exact ⟨A, B, n, m, c, d, 0, xs, ys, [], rfl, rfl, hc, hd, rfl, by omega, HX, HY, Lib.hid rfl, Lib.hid (World.ownsRow_nil _ _ _ _), Lib.hid (Below.refl _ _)⟩
  case round =>
    obtain ⟨Ak, Bk, n', m', c', d', k, xk, yk, done, rfl, rfl, hc', hd', hg, hkg, HXk, HYk, HE, HO, HB⟩ := hrel
    by_cases hnm : 0 < n' ∧ 0 < m'
    · obtain ⟨hn0, hm0⟩ := hnm
      obtain ⟨n2, rfl⟩ : ∃ n2, n' = n2 + 1 := ⟨n' - 1, by omega⟩
      obtain ⟨m2, rfl⟩ : ∃ m2, m' = m2 + 1 := ⟨m' - 1, by omega⟩
      obtain ⟨g2, rfl⟩ : ∃ g2, gk = g2 + 1 := ⟨gk - 1, by omega⟩
      obtain ⟨ba, oa, hA, _⟩ := HXk.out.at_ (k := 0) (by omega)
      subst hA
      obtain ⟨bb, ob, hA, _⟩ := HYk.out.at_ (k := 0) (by omega)
      subst hA
      have n0 : (0 : Int) < ((n2 + 1 : Nat) : Int) := by omega
      have m0 : (0 : Int) < ((m2 + 1 : Nat) : Int) := by omega
      have n0' : (0 : Int) < (n2 : Int) + 1 := by omega
      have m0' : (0 : Int) < (m2 : Int) + 1 := by omega
      have q1 : (1 : Int) ≤ (n2 : Int) + 1 := by omega
      have q2 : (1 : Int) ≤ (m2 : Int) + 1 := by omega
      have q3 : (n2 : Int) + 1 ≤ (c' : Int) := by omega
      have q4 : (m2 : Int) + 1 ≤ (d' : Int) := by omega
      have q5 : (1 : Int) ≤ (c' : Int) := by omega
      have q6 : (1 : Int) ≤ (d' : Int) := by omega
      have HCX := Lib.hid (sat_cons HXk.out)
      have HCY := Lib.hid (sat_cons HYk.out)
      obtain ⟨r, hr⟩ : ∃ r, lt (gstr yk 0) (gstr xk 0) = r := ⟨_, rfl⟩
      have HR := Lib.hid hr
      clear hr
      obtain ⟨hent, hless⟩ := HK.out
      have hless2 : ∀ u, Calls Try.prog K #[.string ( (gstr yk 0)), .string ( (gstr xk 0))] u fun e w' => e = .returned (.bool r) ∧ Below u.heap.size u w' := fun u => by have := hless (gstr yk 0) (gstr xk 0) u; rwa [HR.out] at this
      clear hless
      have hS := mfourS (HXk.out.stays HB.out).drew (HYk.out.stays HB.out).drew (show 0 < n2 + 1 by omega) (show 0 < m2 + 1 by omega)
      go_wp2_with fail
      go_region_held3 (fun u => u.cell? ⟨ba, oa, none⟩ = some (.string (gstr xk 0)) ∧ u.cell? ⟨bb, ob, none⟩ = some (.string (gstr yk 0))) (exact hS) ((first | (go_simp; (with_reducible refine (hless2 _).mono ?_); rintro e w5 ⟨rfl, hb5⟩; have HB5 := Lib.hid (bthen HB.out.drew hb5 (Nat.le_refl _)); have HO5 := Lib.hid (ownsRow_stays (show wr.drew.ownsRow _ _ _ _ _ _ from HO.out) hb5); have hS := mfourS (HXk.out.stays HB5.out) (HYk.out.stays HB5.out) (show 0 < n2 + 1 by omega) (show 0 < m2 + 1 by omega); clear hb5)))
      clear hless2
      obtain ⟨x0, y0⟩ := hS
      cases r
      · have HMM := Lib.hid (merge_left' (lt := lt) HCX.out HCY.out HR.out)
        by_cases hce : c' = 1
        · obtain rfl : n2 = 0 := by omega
          have hce' : ((c' : Nat) : Int) = 1 := by omega
          go_wp2_with (at_builtin; refine wpList_append_own _ rfl _ _ 46 rfl w.heap.size 9 i0 (.string ⟨#[]⟩) strC.sz 16 Try.underlying46 hi hz0 hz1 hz2 rfl (by decide) _ _ _ rfl (HO5.out.alloc _) ⟨_, 0, none⟩ 1 1 (strC.cs (gstr xk 0)) rfl rfl (cs_new strC _ _ _ _ rfl) (strC.one _) (by unfold maxLen; omega) (by omega) (by have := HB5.out.size; simp; omega) ?_; intro v8 w8 hown8 hg8 _)
          have HO8 : Hid (w8.ownsRow w.heap.size 9 strC.sz v8 (k + 1) (strC.all (done ++ [gstr xk 0]))) := Lib.hid (by rw [strC.all_app, strC.all_one]; exact hown8)
          have HB8 := Lib.hid (below_app HB5.out HB5.out.size (Nat.le_refl _) HO5.out hg8)
          clear hown8 hg8
          have HE2 : Hid ((done ++ [gstr xk 0]) ++ mergeL lt (xk.drop 1) yk = mergeL lt xs ys) := Lib.hid (by rw [← HE.out, HMM.out, List.append_assoc]; rfl)
          go_wp2
          go_roundg g2
          case rel => exact ⟨_, some ⟨bb, ob, none⟩, 0, m2 + 1, _, d', k + 1, xk.drop 1, yk, done ++ [gstr xk 0], rfl, rfl, by omega, by omega, by omega, by omega, Lib.hid ⟨by rw [List.length_drop, HXk.out.1], fun h => absurd h (by omega)⟩, HYk, HE2, HO8, HB8⟩
          case measure => omega
        · have hce' : (1 : Int) ≠ (c' : Int) := by omega
          have hce2 : ¬ 1 = c' := by omega
          have hce3 : ¬ c' ≤ 1 := by omega
          have hce4 : ¬ c' - 1 = 0 := by omega
          have hce5 : 1 < c' := by omega
          go_wp2_with (at_builtin; refine wpList_append_own _ rfl _ _ 46 rfl w.heap.size 9 i0 (.string ⟨#[]⟩) strC.sz 16 Try.underlying46 hi hz0 hz1 hz2 rfl (by decide) _ _ _ rfl (HO5.out.alloc _) ⟨_, 0, none⟩ 1 1 (strC.cs (gstr xk 0)) rfl rfl (cs_new strC _ _ _ _ rfl) (strC.one _) (by unfold maxLen; omega) (by omega) (by have := HB5.out.size; simp; omega) ?_; intro v8 w8 hown8 hg8 _)
          have HO8 : Hid (w8.ownsRow w.heap.size 9 strC.sz v8 (k + 1) (strC.all (done ++ [gstr xk 0]))) := Lib.hid (by rw [strC.all_app, strC.all_one]; exact hown8)
          have HB8 := Lib.hid (below_app HB5.out HB5.out.size (Nat.le_refl _) HO5.out hg8)
          clear hown8 hg8
          have HE2 : Hid ((done ++ [gstr xk 0]) ++ mergeL lt (xk.drop 1) yk = mergeL lt xs ys) := Lib.hid (by rw [← HE.out, HMM.out, List.append_assoc]; rfl)
          go_wp2
          go_roundg g2
          case rel => exact ⟨_, some ⟨bb, ob, none⟩, n2, m2 + 1, _, d', k + 1, xk.drop 1, yk, done ++ [gstr xk 0], rfl, rfl, by omega, by omega, by omega, by omega, Lib.hid (by have := HXk.out.drop 1; rwa [Nat.one_mul, Nat.add_sub_cancel] at this), HYk, HE2, HO8, HB8⟩
          case measure => omega
      · have HMM := Lib.hid (merge_right' (lt := lt) HCX.out HCY.out HR.out)
        by_cases hce : d' = 1
        · obtain rfl : m2 = 0 := by omega
          have hce' : ((d' : Nat) : Int) = 1 := by omega
          go_wp2_with (at_builtin; refine wpList_append_own _ rfl _ _ 46 rfl w.heap.size 9 i0 (.string ⟨#[]⟩) strC.sz 16 Try.underlying46 hi hz0 hz1 hz2 rfl (by decide) _ _ _ rfl (HO5.out.alloc _) ⟨_, 0, none⟩ 1 1 (strC.cs (gstr yk 0)) rfl rfl (cs_new strC _ _ _ _ rfl) (strC.one _) (by unfold maxLen; omega) (by omega) (by have := HB5.out.size; simp; omega) ?_; intro v8 w8 hown8 hg8 _)
          have HO8 : Hid (w8.ownsRow w.heap.size 9 strC.sz v8 (k + 1) (strC.all (done ++ [gstr yk 0]))) := Lib.hid (by rw [strC.all_app, strC.all_one]; exact hown8)
          have HB8 := Lib.hid (below_app HB5.out HB5.out.size (Nat.le_refl _) HO5.out hg8)
          clear hown8 hg8
          have HE2 : Hid ((done ++ [gstr yk 0]) ++ mergeL lt xk (yk.drop 1) = mergeL lt xs ys) := Lib.hid (by rw [← HE.out, HMM.out, List.append_assoc]; rfl)
          go_wp2
          go_roundg g2
          case rel => exact ⟨some ⟨ba, oa, none⟩, _, n2 + 1, 0, c', _, k + 1, xk, yk.drop 1, done ++ [gstr yk 0], rfl, rfl, by omega, by omega, by omega, by omega, HXk, Lib.hid ⟨by rw [List.length_drop, HYk.out.1], fun h => absurd h (by omega)⟩, HE2, HO8, HB8⟩
          case measure => omega
        · have hce' : (1 : Int) ≠ (d' : Int) := by omega
          have hce2 : ¬ 1 = d' := by omega
          have hce3 : ¬ d' ≤ 1 := by omega
          have hce4 : ¬ d' - 1 = 0 := by omega
          have hce5 : 1 < d' := by omega
          go_wp2_with (at_builtin; refine wpList_append_own _ rfl _ _ 46 rfl w.heap.size 9 i0 (.string ⟨#[]⟩) strC.sz 16 Try.underlying46 hi hz0 hz1 hz2 rfl (by decide) _ _ _ rfl (HO5.out.alloc _) ⟨_, 0, none⟩ 1 1 (strC.cs (gstr yk 0)) rfl rfl (cs_new strC _ _ _ _ rfl) (strC.one _) (by unfold maxLen; omega) (by omega) (by have := HB5.out.size; simp; omega) ?_; intro v8 w8 hown8 hg8 _)
          have HO8 : Hid (w8.ownsRow w.heap.size 9 strC.sz v8 (k + 1) (strC.all (done ++ [gstr yk 0]))) := Lib.hid (by rw [strC.all_app, strC.all_one]; exact hown8)
          have HB8 := Lib.hid (below_app HB5.out HB5.out.size (Nat.le_refl _) HO5.out hg8)
          clear hown8 hg8
          have HE2 : Hid ((done ++ [gstr yk 0]) ++ mergeL lt xk (yk.drop 1) = mergeL lt xs ys) := Lib.hid (by rw [← HE.out, HMM.out, List.append_assoc]; rfl)
          go_wp2
          go_roundg g2
          case rel => exact ⟨some ⟨ba, oa, none⟩, _, n2 + 1, m2, c', _, k + 1, xk, yk.drop 1, done ++ [gstr yk 0], rfl, rfl, by omega, by omega, by omega, by omega, HXk, Lib.hid (by have := HYk.out.drop 1; rwa [Nat.one_mul, Nat.add_sub_cancel] at this), HE2, HO8, HB8⟩
          case measure => omega
    · have HMM : Hid (mergeL lt xk yk = xk ++ yk) := Lib.hid (by
        rcases Nat.eq_zero_or_pos n' with h0 | h0
        · have := List.eq_nil_of_length_eq_zero (HXk.out.1.trans h0)
          rw [this, merge_nil_left]; rfl
        · have := List.eq_nil_of_length_eq_zero (HYk.out.1.trans (by omega))
          rw [this, merge_nil_right, List.append_nil])
      by_cases h0 : 0 < n'
      · obtain rfl : m' = 0 := by omega
        have n0 : (0 : Int) < (n' : Int) := by omega
        have hkk : k + n' + 0 = n + m := by omega
        have HKK := Lib.hid hkk
        clear hkk
        go_wp2_with (first | (at_builtin; refine wpList_append_sat (C := strC) rfl (.tmp 40) (.tmp 41) 46 rfl w.heap.size 9 i0 (.string ⟨#[]⟩) 16 Try.underlying46 hi hz0 hz1 hz2 rfl (by decide) _ k done rfl HO.out _ _ _ xk rfl (HXk.out.stays HB.out) (by unfold maxLen; omega) (by omega) HB.out.size ?_; intro v8 w8 hr8 hb8; have HB8 := Lib.hid (HB.out.trans hb8)) | (at_builtin; refine wpList_append_sat (C := strC) rfl (.tmp 43) (.tmp 44) 46 rfl w.heap.size 9 i0 (.string ⟨#[]⟩) 16 Try.underlying46 hi hz0 hz1 hz2 rfl (by decide) _ _ (done ++ xk) rfl hr8 _ _ _ yk rfl (HYk.out.stays HB8.out) (by unfold maxLen; omega) (by omega) HB8.out.size ?_; intro v9 w9 hr9 hb9))
        have HB9 := Lib.hid (HB8.out.trans hb9)
        have HR9 := Lib.hid hr9
        clear hr8 hb8 hr9 hb9
        go_wp2
        go_ret
        exact ⟨_, rfl, by rw [HLEN.out, ← HE.out, HMM.out, ← List.append_assoc]; exact HKK.out ▸ HR9.out, HB9.out⟩
      · obtain rfl : n' = 0 := by omega
        have hkk : k + 0 + m' = n + m := by omega
        have HKK := Lib.hid hkk
        clear hkk
        go_wp2_with (first | (at_builtin; refine wpList_append_sat (C := strC) rfl (.tmp 40) (.tmp 41) 46 rfl w.heap.size 9 i0 (.string ⟨#[]⟩) 16 Try.underlying46 hi hz0 hz1 hz2 rfl (by decide) _ k done rfl HO.out _ _ _ xk rfl (HXk.out.stays HB.out) (by unfold maxLen; omega) (by omega) HB.out.size ?_; intro v8 w8 hr8 hb8; have HB8 := Lib.hid (HB.out.trans hb8)) | (at_builtin; refine wpList_append_sat (C := strC) rfl (.tmp 43) (.tmp 44) 46 rfl w.heap.size 9 i0 (.string ⟨#[]⟩) 16 Try.underlying46 hi hz0 hz1 hz2 rfl (by decide) _ _ (done ++ xk) rfl hr8 _ _ _ yk rfl (HYk.out.stays HB8.out) (by unfold maxLen; omega) (by omega) HB8.out.size ?_; intro v9 w9 hr9 hb9))
        have HB9 := Lib.hid (HB8.out.trans hb9)
        have HR9 := Lib.hid hr9
        clear hr8 hb8 hr9 hb9
        go_wp2
        go_ret
        exact ⟨_, rfl, by rw [HLEN.out, ← HE.out, HMM.out, ← List.append_assoc]; exact HKK.out ▸ HR9.out, HB9.out⟩

set_option maxRecDepth 100000 in
set_option maxHeartbeats 4000000 in
theorem sortS_any (K : FuncId) (lt : ByteArray → ByteArray → Bool) (hK : LessFnS K lt) (f : Nat) : ∀ (A : Option Addr) (c n : Nat) (xs : List ByteArray) (w : World), SAt strC w A n xs → n ≤ f → n ≤ c → n ≤ 1000 →
    Calls Try.prog 24 #[.slice A n c, .func (.func K) #[] #[]] w fun e w' => MadeRow strC w 9 (msortL lt f xs) e w' := by
  obtain ⟨i0, hi, hz0, hz1, hz2⟩ := info_parts str_info
  have he2 := fun w => eql_fn w 48 K Try.underlying48
  have HK := Lib.hid hK
  clear hK
  induction f with
  | zero =>
    intro A c n xs w hx hn hc h1000
    obtain rfl : n = 0 := by omega
    have H := Lib.hid hx
    have HM := Lib.hid (msortL_short (lt := lt) (f := 0) hx.1 (by omega))
    clear hx
    go_enter Try.func24, Try.ntmps24
    go_wp2_with (at_builtin; refine wpList_append_sat (C := strC) rfl (.tmp 14) (.tmp 15) 46 rfl w.heap.size 9 i0 (.string ⟨#[]⟩) 16 Try.underlying46 hi hz0 hz1 hz2 rfl (by decide) (.slice none 0 0) 0 [] rfl (World.ownsRow_nil _ _ _ _) _ _ _ xs rfl H.out (by unfold maxLen; omega) (by omega) (Nat.le_refl _) ?_; intro v8 w8 hr8 hb8)
    have HR8 := Lib.hid hr8
    have HB8 := Lib.hid hb8
    clear hr8 hb8
    go_wp2
    go_ret
    exact ⟨_, rfl, by rw [HM.out, H.out.1]; simpa using HR8.out, HB8.out⟩
  | succ f ih =>
    intro A c n xs w hx hn hc h1000
    have H := Lib.hid hx
    clear hx
    by_cases h2 : n < 2
    · have h2' : (n : Int) < 2 := by omega
      have HM := Lib.hid (msortL_short (lt := lt) (f := f + 1) H.out.1 h2)
      clear ih
      go_enter Try.func24, Try.ntmps24
      go_wp2_with (at_builtin; refine wpList_append_sat (C := strC) rfl (.tmp 14) (.tmp 15) 46 rfl w.heap.size 9 i0 (.string ⟨#[]⟩) 16 Try.underlying46 hi hz0 hz1 hz2 rfl (by decide) (.slice none 0 0) 0 [] rfl (World.ownsRow_nil _ _ _ _) _ _ _ xs rfl H.out (by unfold maxLen; omega) (by omega) (Nat.le_refl _) ?_; intro v8 w8 hr8 hb8)
      have HR8 := Lib.hid hr8
      have HB8 := Lib.hid hb8
      clear hr8 hb8
      go_wp2
      go_ret
      exact ⟨_, rfl, by rw [HM.out, H.out.1]; simpa using HR8.out, HB8.out⟩
    · have h2' : ¬ (n : Int) < 2 := by omega
      obtain ⟨h, hh⟩ : ∃ h, n / 2 = h := ⟨_, rfl⟩
      have HM := Lib.hid (msortL_long (lt := lt) (f := f) H.out.1 (by omega) hh)
      have hdiv : (n : Int) / 2 = (h : Int) := by omega
      have h0 : (0 : Int) ≤ (h : Int) := by omega
      have hhn : (h : Int) ≤ (n : Int) := by omega
      have hhc : (h : Int) ≤ (c : Int) := by omega
      have hnc : (n : Int) ≤ (c : Int) := by omega
      have e1 : ¬ h = c := by omega
      have e2 : ¬ c = h := by omega
      have e3 : ¬ c - h = 0 := by omega
      have e4 : ¬ c ≤ h := by omega
      have e5 : h < c := by omega
      have g1 : h ≤ f := by omega
      have g2 : n - h ≤ f := by omega
      have g3 : h ≤ c := by omega
      have g4 : n - h ≤ c - h := by omega
      have g5 : h ≤ n := by omega
      have g6 : (msortL lt f (xs.take h)).length ≤ 1000 := by rw [msortL_len, List.length_take]; omega
      have g7 : (msortL lt f (xs.drop h)).length ≤ 1000 := by rw [msortL_len, List.length_drop, H.out.1]; omega
      obtain ⟨b, o, hA, _⟩ := H.out.at_ (k := 0) (by omega)
      subst hA
      have HH := Lib.hid hh
      have IH := Lib.hid ih
      clear hh ih
      have HX := Lib.hid H.out.drew
      have HB := Lib.hid ((Below.refl w.heap.size w).drew)
      have hS : True := trivial
      go_enter Try.func24, Try.ntmps24
      go_wp2_with fail
      go_region_held3 (fun _ => True) (exact trivial) ((first
        | (go_simp; go_at_call 24; (with_reducible refine (IH.out (some ⟨b, o, none⟩) c h (xs.take h) _ (HX.out.take g5) g1 g3 (by omega)).mono ?_); rintro e w5 ⟨v5, rfl, hr5, hb5⟩; obtain ⟨A5, c5, rfl, hc5⟩ := ownsRow_slice hr5; have HSL := Lib.hid (SAt.own hr5 (by decide)); have HC5 := Lib.hid hc5; (try have HSR := Lib.hid (HSR.out.stays hb5)); have HX := Lib.hid (HX.out.stays hb5); have HB := Lib.hid (bthen HB.out hb5 (Nat.le_refl _)); clear hr5 hb5)
        | (go_simp; go_at_call 24; (with_reducible refine (IH.out (some ⟨b, o + h, none⟩) (c - h) (n - h) (xs.drop h) _ (sdrop (HX.out.drop h)) g2 g4 (by omega)).mono ?_); rintro e w6 ⟨v6, rfl, hr6, hb6⟩; obtain ⟨A6, c6, rfl, hc6⟩ := ownsRow_slice hr6; have HSR := Lib.hid (SAt.own hr6 (by decide)); have HC6 := Lib.hid hc6; (try have HSL := Lib.hid (HSL.out.stays hb6)); have HX := Lib.hid (HX.out.stays hb6); have HB := Lib.hid (bthen HB.out hb6 (Nat.le_refl _)); clear hr6 hb6)
        | (go_simp; go_at_call 39; (with_reducible refine (mergeS_any K lt HK.out _ _ _ _ _ _ _ _ _ HSL.out HSR.out HC5.out HC6.out g6 g7).mono ?_); rintro e w7 ⟨v7, rfl, hr7, hb7⟩; have HR7 := Lib.hid (ownsRow_base hr7 HB.out.size); have HB := Lib.hid (bthen HB.out hb7 (Nat.le_refl _)); clear hr7 hb7)))
      all_goals
        go_wp2
        go_ret
        exact ⟨_, rfl, by rw [HM.out]; exact HR7.out, HB.out⟩
end Go.Proofs.Ytndbdgadijbhnaa
