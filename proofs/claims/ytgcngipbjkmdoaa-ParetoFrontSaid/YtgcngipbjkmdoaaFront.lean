/-
  put, whatever the front; Front, Merge.
-/
import Derived.Test.YtgcngipbjkmdoaaPut2
namespace Go.Proofs.Ytgcngipbjkmdoaa
open Go.RowKit
open Vec (V vi leV eqV domV ltV cmpV covV keepV lowV highV putV frontV mergeV)

theorem put_any (base : Nat) (A : Option Addr) (n c : Nat) (xs : List V) (v : V) (w : World) (hown : w.ownsRow base 23 4 (.slice A n c) n (vcs xs)) (hbase : base ≤ w.heap.size) (hn : n ≤ 1000) :
    Calls Try.prog 31 #[.slice A n c, .agg #[.int .i64 (vi v 0), .int .i64 (vi v 1), .int .i64 (vi v 2), .int .i64 (vi v 3)]] w fun e w' => Put base w xs v e w' := by
  by_cases hcov : covV xs v = true
  · exact put_cov base A n c xs v w hown hbase hn hcov
  · rcases hown.2 with ⟨h, h0⟩ | ⟨g, cap, cur, h, hb, hg, h1⟩
    · injection h with h1 h2 h3
      subst h1 h2 h3
      have hl : xs = [] := List.eq_nil_of_length_eq_zero (VecsAt.own hown).1
      subst hl
      exact put_nil base v w hbase
    · injection h with h1 h2 h3
      subst h1 h3
      exact put_new base g n c xs v w hown (Array.getElem?_eq_some_iff.1 hg).1 hbase hn (by simpa using hcov)

theorem putV_len (f : List V) (v : V) : (putV f v).length ≤ f.length + 1 := by
  unfold putV
  split
  · omega
  · have h1 : (keepV f v).length ≤ f.length := List.length_filter_le _ _
    have h2 := congrArg List.length (Vec.sorted_low_high (keepV f v) v)
    simp only [List.length_append, List.length_cons] at h2 ⊢
    omega
theorem foldl_len (l f : List V) : (l.foldl putV f).length ≤ f.length + l.length := by
  induction l generalizing f with
  | nil => simp
  | cons x l ih =>
    have := ih (putV f x)
    have := putV_len f x
    simp only [List.foldl_cons, List.length_cons]
    omega
theorem frontV_len (l : List V) : (frontV l).length ≤ l.length := by simpa [frontV] using foldl_len l []
theorem foldl_take {xs : List V} {k : Nat} (h : k < xs.length) (f : List V) : (xs.take (k + 1)).foldl putV f = putV ((xs.take k).foldl putV f) (gv xs k) := by
  rw [take_gv h, List.foldl_append]
  rfl

set_option maxHeartbeats 1000000 in
theorem front_any (A : Option Addr) (n c : Nat) (xs : List V) (w : World) (hx : VecsAt w A n xs) (hn : n ≤ 1000) :
    Calls Try.prog 21 #[.slice A n c] w fun e w' => MadeVecs w.heap.size w 23 (frontV xs) e w' := by
  have H := Lib.hid hx
  clear hx
  go_enter Try.func21, Try.ntmps21
  go_wp2
  go_loopw [3, 8] (fun v i wr => ∃ (k : Nat) (fs : List V), k ≤ n ∧ i = .int .i64 k ∧ Hid (fs = (xs.take k).foldl putV []) ∧ wr.ownsRow w.heap.size 23 4 v fs.length (vcs fs) ∧ Below w.heap.size w wr) (fun _ i _ => n - (intOf i).toNat)
  case atStart => exact ⟨0, [], by omega, rfl, Lib.hid rfl, World.ownsRow_nil _ _ _ _, Below.refl _ _⟩
  case round =>
    obtain ⟨k, fs, hk, rfl, HF, hown, hbel⟩ := hrel
    by_cases hlt : k < n
    · have k0 : (0 : Int) ≤ (k : Int) := by omega
      have kn : (k : Int) < (n : Int) := by omega
      have hfl : fs.length ≤ 1000 := by
        have := foldl_len (xs.take k) []
        rw [← HF.out, List.length_take] at this
        simp at this
        omega
      obtain ⟨A2, c2, rfl, hc2⟩ := ownsRow_slice hown
      obtain ⟨b, o, rfl, c0, c1, c2, c3⟩ := (H.out.stays hbel).at_ hlt
      go_wp2_with fail
      refine (put_any w.heap.size _ _ _ fs _ _ (hown.alloc _) (by have := hbel.size; simp; omega) hfl).mono ?_
      rintro e w1 ⟨v', rfl, hown', hb'⟩
      have R : Below w.heap.size w w1 := (balloc hbel _ (Nat.le_refl _)).trans hb'
      clear hown hb' c0 c1 c2 c3
      go_wp2
      go_roundw
      case rel => exact ⟨k + 1, putV fs (gv xs k), by omega, by go_num, Lib.hid (by rw [foldl_take (by rw [H.out.1]; exact hlt), ← HF.out]), hown', R⟩
      case measure => simp [intOf]; omega
    · obtain rfl : k = n := by omega
      have hd : ¬ ((k : Int) < (k : Int)) := by omega
      have hf : fs = frontV xs := by rw [HF.out, List.take_of_length_le (by rw [H.out.1]; omega)]; rfl
      subst hf
      go_wp2
      go_ret
      exact ⟨_, rfl, hown, hbel⟩

set_option maxHeartbeats 1000000 in
theorem merge_any (A B : Option Addr) (n c m d : Nat) (xs ys : List V) (w : World) (hx : VecsAt w A n xs) (hy : VecsAt w B m ys) (hn : n + m ≤ 1000) :
    Calls Try.prog 22 #[.slice A n c, .slice B m d] w fun e w' => MadeVecs w.heap.size w 23 (mergeV xs ys) e w' := by
  have H := Lib.hid hy
  have HX := Lib.hid hx
  go_enter Try.func22, Try.ntmps22
  go_wp2_with fail
  refine (front_any _ _ _ xs _ HX.out (by omega)).mono ?_
  rintro e w1 ⟨v1, rfl, hown1, hb1⟩
  have hl1 := Lib.hid (frontV_len xs)
  clear hx hy
  go_wp2
  go_loopw [5, 12] (fun v i wr => ∃ (k : Nat) (fs : List V), k ≤ m ∧ i = .int .i64 k ∧ Hid (fs = (ys.take k).foldl putV (frontV xs)) ∧ wr.ownsRow w.heap.size 23 4 v fs.length (vcs fs) ∧ Below w.heap.size w wr) (fun _ i _ => m - (intOf i).toNat)
  case atStart => exact ⟨0, frontV xs, by omega, rfl, Lib.hid rfl, hown1, hb1⟩
  case round =>
    obtain ⟨k, fs, hk, rfl, HF, hown, hbel⟩ := hrel
    by_cases hlt : k < m
    · have k0 : (0 : Int) ≤ (k : Int) := by omega
      have kn : (k : Int) < (m : Int) := by omega
      have hfl : fs.length ≤ 1000 := by
        have := foldl_len (ys.take k) (frontV xs)
        rw [← HF.out, List.length_take] at this
        have := hl1.out
        rw [HX.out.1] at this
        omega
      obtain ⟨A2, c2, rfl, hc2⟩ := ownsRow_slice hown
      obtain ⟨b, o, rfl, c0, c1, c2, c3⟩ := (H.out.stays hbel).at_ hlt
      go_wp2_with fail
      refine (put_any w.heap.size _ _ _ fs _ _ (hown.alloc _) (by have := hbel.size; simp; omega) hfl).mono ?_
      rintro e w1 ⟨v', rfl, hown', hb'⟩
      have R : Below w.heap.size w w1 := (balloc hbel _ (Nat.le_refl _)).trans hb'
      clear hown hb' c0 c1 c2 c3
      go_wp2
      go_roundw
      case rel => exact ⟨k + 1, putV fs (gv ys k), by omega, by go_num, Lib.hid (by rw [foldl_take (by rw [H.out.1]; exact hlt), ← HF.out]), hown', R⟩
      case measure => simp [intOf]; omega
    · obtain rfl : k = m := by omega
      have hd : ¬ ((k : Int) < (k : Int)) := by omega
      have hf : fs = mergeV xs ys := by rw [HF.out, List.take_of_length_le (by rw [H.out.1]; omega)]; rfl
      subst hf
      go_wp2
      go_ret
      exact ⟨_, rfl, hown, hbel⟩
end Go.Proofs.Ytgcngipbjkmdoaa
