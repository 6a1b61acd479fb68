/-
  The walks of HeapNil and HeapStrings. Printed by gen/hpw4.py.
-/
import Derived.Test.YtndbdgadijbhnaaHw1
import Derived.Test.YtndbdgadijbhnaaHOpen
namespace Go.Proofs.Ytndbdgadijbhnaa
open Go.RowKit

set_option maxHeartbeats 400000 in
theorem push_nil (x : Pair) (w : World) : Calls Try.prog 13 #[.pointer none, .agg (pa x)] w fun e w' => e = .returned (.tuple #[]) ∧ Below w.heap.size w w' := by
  have HB := Lib.hid (al1 w (.cells (pa x) 28))
  go_enter Try.func13, Try.ntmps13
  go_wp2
  (try simp only [Exit.inBlock, Exit.then])
  first | refine bodyPost_ret (results_none rfl _ _ _) rfl ?_ | refine bodyPost_end (results_none rfl _ _ _) rfl ?_
  exact ⟨rfl, HB.out⟩
set_option maxHeartbeats 400000 in
theorem drain_nil (w : World) : Calls Try.prog 18 #[.pointer none] w fun e w' => e = .returned (.slice none 0 0) ∧ w = w' := by
  go_enter Try.func18, Try.ntmps18
  go_wp2
  go_loopw [3] (fun so wr => so = .slice none 0 0 ∧ wr = w) (fun _ _ => 0)
  case atStart => exact ⟨rfl, rfl⟩
  case round =>
    obtain ⟨rfl, rfl⟩ := hrel
    go_wp2_with fail
    refine (len_nil _).mono ?_
    rintro e w' ⟨rfl, rfl⟩
    go_wp2
    go_ret
    exact ⟨rfl, rfl⟩
set_option maxHeartbeats 1000000 in
theorem sort_nil (A : Option Addr) (c n : Nat) (xs : List Pair) (w : World) (hx : SAt pairC w A n xs) (h1000 : n ≤ 1000) : Calls Try.prog 28 #[.slice A n c, .nilFunc] w fun e w' => MadeRow pairC w 28 xs e w' := by
  obtain ⟨i0, hi, hz0, hz1, hz2⟩ := info_parts pair_info
  have he1 := fun w => eql_nil w 54 Try.underlying54
  have H := Lib.hid hx
  clear hx
  by_cases h2 : n < 2
  · have h2' : (n : Int) < 2 := by omega
    go_enter Try.func28, Try.ntmps28
    go_wp2_with (at_builtin; refine wpList_append_sat (C := pairC) rfl (.tmp 14) (.tmp 15) 26 rfl w.heap.size 28 i0 (.agg #[.int .i64 0, .int .i64 0]) 16 Try.underlying26 hi hz0 hz1 hz2 rfl (by decide) (.slice none 0 0) 0 [] rfl (World.ownsRow_nil _ _ _ _) _ _ _ xs rfl H.out (by unfold maxLen; omega) (by omega) (Nat.le_refl _) ?_; intro v8 w8 hr8 hb8)
    have HR8 := Lib.hid hr8
    have HB8 := Lib.hid hb8
    clear hr8 hb8
    go_wp2
    go_ret
    exact ⟨_, rfl, by rw [H.out.1]; simpa using HR8.out, HB8.out⟩
  · have h2' : ¬ (n : Int) < 2 := by omega
    go_enter Try.func28, Try.ntmps28
    go_wp2_with (at_builtin; refine wpList_append_sat (C := pairC) rfl (.tmp 14) (.tmp 15) 26 rfl w.heap.size 28 i0 (.agg #[.int .i64 0, .int .i64 0]) 16 Try.underlying26 hi hz0 hz1 hz2 rfl (by decide) (.slice none 0 0) 0 [] rfl (World.ownsRow_nil _ _ _ _) _ _ _ xs rfl H.out (by unfold maxLen; omega) (by omega) (Nat.le_refl _) ?_; intro v8 w8 hr8 hb8)
    have HR8 := Lib.hid hr8
    have HB8 := Lib.hid hb8
    clear hr8 hb8
    go_wp2
    go_ret
    exact ⟨_, rfl, by rw [H.out.1]; simpa using HR8.out, HB8.out⟩

set_option maxRecDepth 100000 in
set_option maxHeartbeats 4000000 in
theorem nil_walk (A : Option Addr) (n c : Nat) (xs : List Pair) (w : World) (hx : SAt pairC w A n xs) (_g : True) :
    Calls Try.prog 9 #[.slice A n c] w fun e w' => e = .returned (.bool true) ∧ Below w.heap.size w w' := by
  have HX := Lib.hid hx
  clear hx
  by_cases h200 : (200 : Int) < (n : Int)
  · go_enter Try.func9, Try.ntmps9
    go_wp2_with fail
    refine (example_any _).mono ?_
    rintro e w2 ⟨rfl, hb2⟩
    have HB2 := Lib.hid hb2
    clear hb2
    go_wp2
    go_ret
    exact ⟨rfl, HB2.out⟩
  · have hn200 : n ≤ 200 := by omega
    go_enter Try.func9, Try.ntmps9
    go_wp2_with fail
    refine (new_nil _).mono ?_
    rintro e w' ⟨rfl, rfl⟩
    go_wp2
    go_loopw [18] (fun i wr => ∃ k : Nat, k ≤ n ∧ i = .int .i64 k ∧ Hid (Below w.heap.size w wr)) (fun i _ => n - (intOf i).toNat)
    case atStart => exact ⟨0, by omega, rfl, Lib.hid (Below.refl _ _)⟩
    case round =>
      obtain ⟨k, hkn, rfl, HB⟩ := hrel
      have k0 : (0 : Int) ≤ (k : Int) := by omega
      by_cases hlt : k < n
      · have hlt' : (k : Int) < (n : Int) := by omega
        obtain ⟨b, o, hA, _⟩ := HX.out.at_ hlt
        subst hA
        obtain ⟨c0, c1⟩ := pair_cells (HX.out.stays HB.out) hlt
        have HBW := Lib.hid (balloc HB.out (.cells #[.int .i64 (gp xs k).key, .int .i64 (gp xs k).mark] 28) (Nat.le_refl _))
        go_wp2_with fail
        refine (push_nil (gp xs k) _).mono ?_
        rintro e w3 ⟨rfl, hb3⟩
        have HB3 := Lib.hid (bthen HBW.out hb3 (Nat.le_refl _))
        clear hb3 c0 c1
        go_wp2
        go_roundw
        case rel => exact ⟨k + 1, by omega, by go_num, HB3⟩
        case measure => simp [intOf]; omega
      · obtain rfl : k = n := by omega
        have hd : ¬ ((k : Int) < (k : Int)) := by omega
        go_wp2_with fail
        refine (pop_nil _).mono ?_
        rintro e w4 ⟨rfl, hb4⟩
        obtain ⟨X, hX⟩ : ∃ X, X = w4.heap.size := ⟨_, rfl⟩
        obtain ⟨W5, hW5⟩ : ∃ W5, W5 = w4.alloc (.cells #[.int .i64 0, .int .i64 0] 28) := ⟨_, rfl⟩
        have hb5 : Below wr.heap.size wr W5 := by rw [hW5]; exact balloc hb4 _ (Nat.le_refl _)
        have HX5 : Hid (Box2 W5 X ⟨0, 0⟩) := Lib.hid (by rw [hW5]; exact Box2.new w4 ⟨0, 0⟩ _ _ hX)
        have HB5 := Lib.hid (bthen HB.out hb5 (Nat.le_refl _))
        clear hb4 hb5
        go_upto_region 12 with fail
        rw [← hW5, ← hX]
        clear hW5 hX
        go_wp2_with fail
        refine (peek_nil _).mono ?_
        rintro e w6 ⟨rfl, hb6⟩
        obtain ⟨Y, hY⟩ : ∃ Y, Y = w6.heap.size := ⟨_, rfl⟩
        obtain ⟨W7, hW7⟩ : ∃ W7, W7 = w6.alloc (.cells #[.int .i64 0, .int .i64 0] 28) := ⟨_, rfl⟩
        have hb7 : Below W5.heap.size W5 W7 := by rw [hW7]; exact balloc hb6 _ (Nat.le_refl _)
        have HY7 : Hid (Box2 W7 Y ⟨0, 0⟩) := Lib.hid (by rw [hW7]; exact Box2.new w6 ⟨0, 0⟩ _ _ hY)
        have HX7 := Lib.hid (HX5.out.stays hb7)
        have HB7 := Lib.hid (bthen HB5.out hb7 (Nat.le_refl _))
        clear hb6 hb7
        go_upto_region 13 with fail
        rw [← hW7, ← hY]
        clear hW7 hY
        obtain ⟨x0, x1, _, _⟩ := HX7.out
        obtain ⟨y0, y1, _, _⟩ := HY7.out
        have hne : ∀ w, (binOp .eql 28 (.agg #[.int .i64 0, .int .i64 0]) (.agg #[.int .i64 0, .int .i64 0])).run Try.prog w = .ok (.bool true) w := fun w => by
          have := eql_pair ⟨0, 0⟩ ⟨0, 0⟩ w
          rwa [eqP_self] at this
        go_wp2_with fail
        refine (len_nil _).mono ?_
        rintro e w' ⟨rfl, rfl⟩
        go_wp2_with fail
        refine (drain_nil _).mono ?_
        rintro e w' ⟨rfl, rfl⟩
        go_wp2_with fail
        refine (sort_nil A c k xs _ (HX.out.stays HB7.out) (by omega)).mono ?_
        rintro e w8 ⟨v8, rfl, hr8, hb8⟩
        obtain ⟨A8, c8, hv8, _⟩ := ownsRow_slice hr8
        subst hv8
        have HR8 := Lib.hid (SAt.own hr8 (by decide))
        have HB8 := Lib.hid (bthen HB7.out hb8 (Nat.le_refl _))
        clear hr8 hb8 x0 x1 y0 y1
        go_wp2_with fail
        refine (same_yes _ _ _ _ _ _ xs _ HR8.out (HX.out.stays HB8.out) (by rw [HX.out.1]; omega)).mono ?_
        rintro e w' ⟨rfl, q, rfl⟩
        go_wp2_with fail
        refine (example_any _).mono ?_
        rintro e w10 ⟨rfl, hb10⟩
        have HB10 := Lib.hid (bthen (bdrewN HB8.out q) hb10 (Nat.le_refl _))
        clear hb10
        go_wp2
        go_ret
        exact ⟨rfl, HB10.out⟩

/-- the order of bytes' lists -/
theorem bl_nt : ∀ (x y z : List UInt8), Op.bytesLess y x = false → Op.bytesLess z y = false → Op.bytesLess z x = false
  | [], _, z, _, _ => by cases z <;> rfl
  | a :: x, [], z, h, _ => by simp [Op.bytesLess] at h
  | a :: x, b :: y, [], _, h => by simp [Op.bytesLess] at h
  | a :: x, b :: y, c :: z, h1, h2 => by
    simp only [Op.bytesLess, Bool.or_eq_false_iff, Bool.and_eq_false_iff, decide_eq_false_iff_not, beq_eq_false_iff_ne, UInt8.lt_iff_toNat_lt, ne_eq, ← UInt8.toNat_inj] at h1 h2 ⊢
    have ih := bl_nt x y z
    refine ⟨by omega, ?_⟩
    by_cases e : c.toNat = a.toNat
    · refine .inr (ih ?_ ?_)
      · rcases h1.2 with h | h
        · omega
        · exact h
      · rcases h2.2 with h | h
        · omega
        · exact h
    · exact .inl e
theorem bl_asym : ∀ (x y : List UInt8), Op.bytesLess x y = true → Op.bytesLess y x = false
  | _, [], h => by simp [Op.bytesLess] at h
  | [], _ :: _, _ => rfl
  | a :: x, b :: y, h => by
    simp only [Op.bytesLess, Bool.or_eq_true, Bool.and_eq_true, decide_eq_true_eq, beq_iff_eq, Bool.or_eq_false_iff, Bool.and_eq_false_iff, decide_eq_false_iff_not, beq_eq_false_iff_ne, UInt8.lt_iff_toNat_lt, ne_eq, ← UInt8.toNat_inj] at h ⊢
    have ih := bl_asym x y
    refine ⟨by omega, ?_⟩
    rcases h with h | h
    · exact .inl (by omega)
    · exact .inr (ih h.2)
theorem bl_total : ∀ (x y : List UInt8), Op.bytesLess y x = false → (Op.bytesLess x y || x == y) = true
  | [], [], _ => rfl
  | a :: x, [], h => by simp [Op.bytesLess] at h
  | [], _ :: _, _ => rfl
  | a :: x, b :: y, h => by
    have ih := bl_total x y
    simp only [Op.bytesLess, Bool.or_eq_false_iff, Bool.and_eq_false_iff, decide_eq_false_iff_not, beq_eq_false_iff_ne, UInt8.lt_iff_toNat_lt, ne_eq, ← UInt8.toNat_inj, Bool.or_eq_true, Bool.and_eq_true, decide_eq_true_eq, beq_iff_eq, List.cons.injEq] at h ih ⊢
    by_cases e : a.toNat < b.toNat
    · exact .inl (.inl e)
    · have e2 : a.toNat = b.toNat := by omega
      rcases h.2 with h' | h'
      · omega
      · rcases ih h' with h3 | h3
        · exact .inl (.inr ⟨e2, h3⟩)
        · exact .inr ⟨e2, h3⟩
theorem merge_pw {α : Type} {lt : α → α → Bool} (ht : ∀ a b c, lt b a = false → lt c b = false → lt c a = false) (has : ∀ a b, lt a b = true → lt b a = false) : ∀ (xs ys : List α), xs.Pairwise (fun a b => lt b a = false) → ys.Pairwise (fun a b => lt b a = false) → (mergeL lt xs ys).Pairwise (fun a b => lt b a = false)
  | [], ys, _, h2 => by rw [merge_nil_left]; exact h2
  | x :: xs, [], h1, _ => by rw [merge_nil_right]; exact h1
  | x :: xs, y :: ys, h1, h2 => by
    obtain ⟨a1, a2⟩ := List.pairwise_cons.1 h1
    obtain ⟨b1, b2⟩ := List.pairwise_cons.1 h2
    cases h : lt y x
    · rw [merge_left h]
      refine List.pairwise_cons.2 ⟨fun z hz => ?_, merge_pw ht has xs (y :: ys) a2 h2⟩
      rcases List.mem_append.1 ((mergeL_perm _ _ _).subset hz) with hz | hz
      · exact a1 z hz
      · rcases List.mem_cons.1 hz with rfl | hz
        · exact h
        · exact ht x y z h (b1 z hz)
    · rw [merge_right h]
      refine List.pairwise_cons.2 ⟨fun z hz => ?_, merge_pw ht has (x :: xs) ys h1 b2⟩
      rcases List.mem_append.1 ((mergeL_perm _ _ _).subset hz) with hz | hz
      · rcases List.mem_cons.1 hz with rfl | hz
        · exact has _ _ h
        · exact ht y x z (has _ _ h) (a1 z hz)
      · exact b1 z hz
termination_by xs ys => xs.length + ys.length
theorem msort_pw {α : Type} {lt : α → α → Bool} (ht : ∀ a b c, lt b a = false → lt c b = false → lt c a = false) (has : ∀ a b, lt a b = true → lt b a = false) (g : Nat) (xs : List α) (hg : xs.length ≤ g) : (msortL lt g xs).Pairwise (fun a b => lt b a = false) := by
  induction g generalizing xs with
  | zero => rw [List.eq_nil_of_length_eq_zero (by omega : xs.length = 0)]; exact List.Pairwise.nil
  | succ g ih =>
    rw [msortL]
    split
    · rename_i hc
      match xs, hc with
      | [], _ => exact List.Pairwise.nil
      | [x], _ => exact List.pairwise_singleton _ _
      | x :: y :: t, hc => simp at hc; omega
    · exact merge_pw ht has _ _ (ih _ (by rw [List.length_take]; omega)) (ih _ (by rw [List.length_drop]; omega))
/-- the greater one is not greater -/
theorem str_sorted {xs : List ByteArray} {n j : Nat} (hn : xs.length = n) (hj0 : 0 < j) (hj : j < n) : (!(Op.bytesLess (gstr (msortL ltS n xs) (j - 1)).toList (gstr (msortL ltS n xs) j).toList || (gstr (msortL ltS n xs) (j - 1)).toList == (gstr (msortL ltS n xs) j).toList)) = false := by
  have hp := msort_pw (lt := ltS) (fun a b c => bl_nt a.toList b.toList c.toList) (fun a b => bl_asym a.toList b.toList) n xs (by omega)
  have hl : (msortL ltS n xs).length = n := by rw [msortL_len, hn]
  have h := List.pairwise_iff_getElem.1 hp (j - 1) j (by omega) (by omega) (by omega)
  have e1 : gstr (msortL ltS n xs) (j - 1) = (msortL ltS n xs)[j - 1]'(by omega) := strC.g_eq (by omega)
  have e2 : gstr (msortL ltS n xs) j = (msortL ltS n xs)[j]'(by omega) := strC.g_eq (by omega)
  rw [e1, e2, bl_total _ _ h]
  rfl
/-- how often s stands among the first k strings -/
def cntTo (xs : List ByteArray) (s : ByteArray) : Nat → Nat
  | 0 => 0
  | k + 1 => cntTo xs s k + if ((gstr xs k).toList == s.toList) = true then 1 else 0
theorem cntTo_le (xs : List ByteArray) (s : ByteArray) (k : Nat) : cntTo xs s k ≤ k := by
  induction k with
  | zero => exact Nat.le_refl _
  | succ k ih => rw [cntTo]; split <;> omega
theorem cntTo_eq (xs : List ByteArray) (s : ByteArray) (n : Nat) (hn : xs.length = n) : ∀ k, k ≤ n → cntTo xs s k = (xs.take k).countP (fun t => t.toList == s.toList) := by
  intro k
  induction k with
  | zero => intro _; rfl
  | succ k ih =>
    intro h
    rw [cntTo, ih (by omega), strC.g_take (by omega), List.countP_append, List.countP_singleton]
    rfl
theorem cnt_perm {xs ys : List ByteArray} (h : xs.Perm ys) (s : ByteArray) (n : Nat) (hn : xs.length = n) : cntTo xs s n = cntTo ys s n := by
  have hy : ys.length = n := by rw [← h.length_eq, hn]
  rw [cntTo_eq xs s n hn n (Nat.le_refl _), cntTo_eq ys s n hy n (Nat.le_refl _), List.take_of_length_le (by omega), List.take_of_length_le (by omega)]
  exact h.countP_eq _
set_option maxHeartbeats 1000000 in
theorem times_any (A : Option Addr) (c n : Nat) (xs : List ByteArray) (s : ByteArray) (w : World) (hx : SAt strC w A n xs) (h1000 : n ≤ 1000) : Calls Try.prog 26 #[.slice A n c, .string s] w fun e w' => e = .returned (.int .i64 (cntTo xs s n)) ∧ w = w' := by
  have HX := Lib.hid hx
  clear hx
  go_enter Try.func26, Try.ntmps26
  go_wp2
  go_loopw [5, 10] (fun cn i wr => ∃ k q : Nat, k ≤ n ∧ q ≤ k ∧ i = .int .i64 k ∧ cn = .int .i64 q ∧ Hid (q = cntTo xs s k) ∧ wr = w) (fun _ i _ => n - (intOf i).toNat)
  case atStart => exact ⟨0, 0, by omega, by omega, rfl, rfl, Lib.hid rfl, rfl⟩
  case round =>
    obtain ⟨k, q, hkn, hqk, rfl, rfl, HQ, rfl⟩ := hrel
    have k0 : (0 : Int) ≤ (k : Int) := by omega
    by_cases hlt : k < n
    · have hlt' : (k : Int) < (n : Int) := by omega
      obtain ⟨b, o, hA, _⟩ := HX.out.at_ hlt
      subst hA
      have c0 := str_cell HX.out hlt
      cases he : ((gstr xs k).toList == s.toList)
      · have HN : Hid (q = cntTo xs s (k + 1)) := Lib.hid (by rw [cntTo, he, ← HQ.out]; rfl)
        go_wp2
        go_roundw
        case rel => exact ⟨k + 1, q, by omega, by omega, by go_num, rfl, HN, by first | rfl | trivial⟩
        case measure => simp [intOf]; omega
      · have HN : Hid (q + 1 = cntTo xs s (k + 1)) := Lib.hid (by rw [cntTo, he, ← HQ.out]; rfl)
        go_wp2
        go_roundw
        case rel => exact ⟨k + 1, q + 1, by omega, by omega, by go_num, by go_num, HN, by first | rfl | trivial⟩
        case measure => simp [intOf]; omega
    · obtain rfl : k = n := by omega
      have hd : ¬ ((k : Int) < (k : Int)) := by omega
      go_wp2
      go_ret
      exact ⟨ret_int (by rw [← HQ.out]), rfl⟩

set_option maxRecDepth 100000 in
set_option maxHeartbeats 4000000 in
theorem strings_walk (A : Option Addr) (n c : Nat) (xs : List ByteArray) (w : World) (hx : SAt strC w A n xs) (hs : SizedS xs) (hc : n ≤ c) :
    Calls Try.prog 8 #[.slice A n c] w fun e w' => e = .returned (.bool true) ∧ Below w.heap.size w w' := by
  have HX := Lib.hid hx
  have HSZ := Lib.hid hs
  clear hx hs
  by_cases h200 : (200 : Int) < (n : Int)
  · go_enter Try.func8, Try.ntmps8
    go_wp2_with fail
    refine (example_any _).mono ?_
    rintro e w2 ⟨rfl, hb2⟩
    have HB2 := Lib.hid hb2
    clear hb2
    go_wp2
    go_ret
    exact ⟨rfl, HB2.out⟩
  · have hn200 : n ≤ 200 := by omega
    go_enter Try.func8, Try.ntmps8
    go_wp2
    go_loopw [14] (fun i wr => ∃ k : Nat, k ≤ n ∧ i = .int .i64 k ∧ wr = w) (fun i _ => n - (intOf i).toNat)
    case atStart => exact ⟨0, by omega, rfl, rfl⟩
    case round =>
      obtain ⟨k, hkn, rfl, rfl⟩ := hrel
      have k0 : (0 : Int) ≤ (k : Int) := by omega
      by_cases hlt : k < n
      · have hlt' : (k : Int) < (n : Int) := by omega
        have hsz : (gstr xs k).size ≤ 9223372036854775807 := HSZ.out _ (strC.g_mem (by rw [HX.out.1]; exact hlt))
        obtain ⟨b, o, hA, _⟩ := HX.out.at_ hlt
        subst hA
        have c0 := str_cell HX.out hlt
        by_cases hbig : (256 : Int) < ((gstr xs k).size : Int)
        · go_wp2_with fail
          refine (example_any _).mono ?_
          rintro e w2 ⟨rfl, hb2⟩
          have HB2 := Lib.hid hb2
          clear hb2
          go_wp2
          go_ret
          exact ⟨rfl, HB2.out⟩
        · go_wp2
          go_roundw
          case rel => exact ⟨k + 1, by omega, by go_num, by first | rfl | trivial⟩
          case measure => simp [intOf]; omega
      · obtain rfl : k = n := by omega
        have hd : ¬ ((k : Int) < (k : Int)) := by omega
        have HSRT := Lib.hid (fun j h1 h2 => str_sorted (j := j) HX.out.1 h1 h2)
        have HCNT := Lib.hid (fun s => cnt_perm (msortL_perm ltS k xs) s k (by rw [msortL_len, HX.out.1]))
        have hso := fun u (hu : SAt strC u A k xs) => sortS_any _ ltS lessString_fn k A c k xs u hu (Nat.le_refl _) hc (by omega)
        have HML := Lib.hid (msortL_len ltS k xs)
        obtain ⟨D, hD⟩ : ∃ D, D = msortL ltS k xs := ⟨_, rfl⟩
        rw [← hD] at HSRT HCNT HML hso
        have HSO := Lib.hid hso
        clear hD hso
        go_wp2_with fail
        refine (HSO.out _ HX.out).mono ?_
        rintro e w3 ⟨v3, rfl, hr3, hb3⟩
        rw [HML.out, HX.out.1] at hr3
        obtain ⟨A3, c3, hv3, _⟩ := ownsRow_slice hr3
        subst hv3
        have HD3 := Lib.hid (SAt.own hr3 (by decide))
        have HB3 := Lib.hid hb3
        have HX3 := Lib.hid (HX.out.stays hb3)
        clear hr3 hb3
        go_wp2
        go_loopw [32] (fun i wr2 => ∃ j : Nat, j ≤ k ∧ i = .int .i64 j ∧ wr2 = w3) (fun i _ => k - (intOf i).toNat)
        case atStart => exact ⟨0, by omega, rfl, rfl⟩
        case round =>
          obtain ⟨j, hjk, rfl, rfl⟩ := hrel
          have j0 : (0 : Int) ≤ (j : Int) := by omega
          by_cases hlt : j < k
          · have hlt' : (j : Int) < (k : Int) := by omega
            obtain ⟨b3, o3, hA, _⟩ := HD3.out.at_ hlt
            subst hA
            have c0 := str_cell HD3.out hlt
            have hcc := HCNT.out (gstr D j)
            obtain ⟨q, hq⟩ : ∃ q, q = cntTo xs (gstr D j) k := ⟨_, rfl⟩
            have ht1 := fun u (hu : SAt strC u (some ⟨b3, o3, none⟩) k D) => times_any (some ⟨b3, o3, none⟩) c3 k D (gstr D j) u hu (by omega)
            have ht2 := fun u (hu : SAt strC u A k xs) => times_any A c k xs (gstr D j) u hu (by omega)
            rw [hcc, ← hq] at ht1
            rw [← hq] at ht2
            have HT1 := Lib.hid ht1
            have HT2 := Lib.hid ht2
            clear hcc hq ht1 ht2
            have hqq : ((q : Int) != (q : Int)) = false := by simp
            by_cases hj0 : 0 < j
            · have hj0' : (0 : Int) < (j : Int) := by omega
              have hw1 : (1 : Int) ≤ (j : Int) := by omega
              have hw2 : (0 : Int) ≤ (j : Int) - 1 := by omega
              have hw3 : ((j : Int) - 1).toNat = j - 1 := by omega
              have hw4 : (j : Int) - 1 < (k : Int) := by omega
              have c1 := str_cell HD3.out (show j - 1 < k by omega)
              have hst := HSRT.out j hj0 hlt
              go_wp2_with fail
              refine (HT1.out _ HD3.out).mono ?_
              rintro e w' ⟨rfl, rfl⟩
              go_wp2_with fail
              refine (HT2.out _ HX3.out).mono ?_
              rintro e w' ⟨rfl, rfl⟩
              go_wp2
              go_roundw
              case rel => exact ⟨j + 1, by omega, by go_num, by first | rfl | trivial⟩
              case measure => simp [intOf]; omega
            · obtain rfl : j = 0 := by omega
              rw [Nat.add_zero] at c0
              go_wp2_with fail
              refine (HT1.out _ HD3.out).mono ?_
              rintro e w' ⟨rfl, rfl⟩
              go_wp2_with fail
              refine (HT2.out _ HX3.out).mono ?_
              rintro e w' ⟨rfl, rfl⟩
              go_wp2
              go_roundw
              case rel => exact ⟨1, by omega, by first | rfl | go_num, by first | rfl | trivial⟩
              case measure => simp [intOf]; omega
          · obtain rfl : j = k := by omega
            have hd : ¬ ((j : Int) < (j : Int)) := by omega
            go_wp2_with fail
            refine (example_any _).mono ?_
            rintro e w5 ⟨rfl, hb5⟩
            have HB5 := Lib.hid (bthen HB3.out hb5 (Nat.le_refl _))
            clear hb5
            go_wp2
            go_ret
            exact ⟨rfl, HB5.out⟩
end Go.Proofs.Ytndbdgadijbhnaa
