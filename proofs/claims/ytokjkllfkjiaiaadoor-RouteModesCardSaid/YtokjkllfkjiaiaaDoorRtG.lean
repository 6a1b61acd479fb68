/-
  The text of a set of modes, and the set with a text: both. Printed by gen/rtg.py.
-/
import Derived.Test.YtokjkllfkjiaiaaDoorRtB
import Derived.WalkMore
import Derived.Deep.LoopGhost
namespace Go.Proofs.YtokjkllfkjiaiaaDoor
open Go.RowKit
open Bs (U64 oneN hasB withN)

theorem empty_no {s : ByteArray} (h : s.size ≠ 0) : s.toList.isEmpty = false := by
  rw [ByteArray.toList_eq]
  have := size_list s
  cases hl : s.data.toList with
  | nil => rw [hl] at this; exact absurd this.symm h
  | cons _ _ => rfl
theorem empty_size {s : ByteArray} {b : Bool} (h : s.toList.isEmpty = b) : (s.size = 0) = (b = true) := by
  rw [ByteArray.toList_eq] at h
  rw [← h, List.isEmpty_iff, ← size_list, List.length_eq_zero_iff]
theorem addM_first {s : ByteArray} {m : Nat} (h : s.toList.isEmpty = true) : addM s m = s ++ nameOf m := by
  unfold addM
  rw [if_pos (by rw [empty_size h])]
theorem addM_more {s : ByteArray} {m : Nat} (h : s.toList.isEmpty = false) : addM s m = s ++ plusS ++ nameOf m := by
  unfold addM
  rw [if_neg (by rw [empty_size h]; simp)]
theorem name_size {m : Nat} (h : m < 8) : (nameOf m).size ≤ 9 := by
  rcases eight m h with rfl | rfl | rfl | rfl | rfl | rfl | rfl | rfl <;> decide
theorem add_size (s : ByteArray) {m : Nat} (h : m < 8) : (addM s m).size ≤ s.size + 10 := by
  have := name_size h
  unfold addM
  split
  · rw [ByteArray.size_append]; omega
  · rw [ByteArray.size_append, ByteArray.size_append]
    have : plusS.size = 1 := rfl
    omega
theorem fmt_size {n k : Nat} (h : k ≤ 8) : (fmtTo n k).size ≤ 10 * k := by
  induction k with
  | zero => exact Nat.le_refl _
  | succ k ih =>
    have h1 := ih (by omega)
    have h2 := add_size (fmtTo n k) (m := k) (by omega)
    cases hb : hasB n k
    · rw [fmt_miss hb]; omega
    · rw [fmt_hit hb]; omega
theorem let_43 : letB 43 = true := by decide
theorem let_az {n : Nat} (h : 97 ≤ n) (h2 : n ≤ 122) : letB n = true := by unfold letB; rw [decide_eq_true (p := 97 ≤ n ∧ n ≤ 122) ⟨h, h2⟩, Bool.or_true]
theorem let_no {n : Nat} (h : n ≠ 43) (h2 : n < 97 ∨ 122 < n) : letB n = false := by unfold letB; rw [decide_eq_false h, decide_eq_false (by omega)]; rfl
theorem letter_any (n : Nat) (w : World) : Calls Tryd.prog 34 #[.int .u8 n] w fun e w' => e = .returned (.bool (letB n)) ∧ w = w' := by
  by_cases h0 : n = 43
  · subst h0
    go_enter Tryd.func34, Tryd.ntmps34
    go_wp2
    go_ret
    exact ⟨ret_bool let_43.symm, rfl⟩
  · have e0 : ((n : Int) == 43) = false := beq_eq_false_iff_ne.2 (by omega)
    by_cases h1 : 97 ≤ n
    · by_cases h2 : n ≤ 122
      · have H := Lib.hid (let_az h1 h2)
        go_enter Tryd.func34, Tryd.ntmps34
        go_wp2
        go_ret
        exact ⟨ret_bool H.out.symm, rfl⟩
      · have H := Lib.hid (let_no h0 (by omega))
        go_enter Tryd.func34, Tryd.ntmps34
        go_wp2
        go_ret
        exact ⟨ret_bool H.out.symm, rfl⟩
    · have H := Lib.hid (let_no h0 (by omega))
      go_enter Tryd.func34, Tryd.ntmps34
      go_wp2
      go_ret
      exact ⟨ret_bool H.out.symm, rfl⟩

set_option maxHeartbeats 2000000 in
theorem rfmt_any (m : Int) (w : World) : Calls Tryd.prog 19 #[.int .i64 m] w fun e w' => e = .returned (.tuple #[.string (fmtS m), .int .i64 (fmtE m)]) ∧ Below w.heap.size w w' := by
  have r := Nat.le_refl w.heap.size
  by_cases h0 : m < 0
  · have H := Lib.hid (fmt_low h0)
    go_enter Tryd.func19, Tryd.ntmps19
    go_wp2
    go_ret2
    exact ⟨ret_si H.out.1.symm H.out.2.symm, Below.refl _ _⟩
  by_cases h1 : 255 < m
  · have H := Lib.hid (fmt_high h1)
    go_enter Tryd.func19, Tryd.ntmps19
    go_wp2
    go_ret2
    exact ⟨ret_si H.out.1.symm H.out.2.symm, Below.refl _ _⟩
  obtain ⟨n, rfl⟩ : ∃ n : Nat, m = (n : Int) := ⟨m.toNat, by omega⟩
  have hw := w64_small (n := (n : Int)) (by omega) (by omega)
  rw [Int.toNat_natCast] at hw
  have HW := Lib.hid hw
  clear hw
  go_enter Tryd.func19, Tryd.ntmps19
  go_wp2
  go_loopw [4, 5] (fun s4 s5 wr => ∃ (k : Nat) (u : ByteArray), k ≤ 8 ∧ s5 = .int .i64 k ∧ s4 = .string u ∧ Hid (u = fmtTo n k) ∧ Hid (Below w.heap.size w wr)) (fun _ s5 _ => 8 - (intOf s5).toNat)
  case atStart => exact ⟨0, _, by omega, rfl, rfl, Lib.hid rfl, Lib.hid (Below.refl _ _)⟩
  case round =>
    obtain ⟨k, u, hk, rfl, rfl, HF, HB⟩ := hrel
    by_cases hlt : k < 8
    · have k0 : (0 : Int) ≤ (k : Int) := by omega
      have k8 : (k : Int) < 8 := by omega
      have hbt := bit_any (n : Int) k wr hlt
      rw [HW.out] at hbt
      cases hb : hasB n k
      · have HE := Lib.hid (fmt_miss hb)
        rw [hb] at hbt
        clear hb
        go_wp2_with (go_at_call 32; refine hbt.mono ?_; rintro e w' ⟨rfl, rfl⟩)
        go_roundw
        case rel => exact ⟨k + 1, u, by omega, by go_num, rfl, Lib.hid (by rw [HE.out]; exact HF.out), HB⟩
        case measure => simp [intOf]; omega
      · have HE := Lib.hid (fmt_hit hb)
        rw [hb] at hbt
        clear hb
        go_wp2_with fail
        refine hbt.mono ?_
        rintro e w' ⟨rfl, rfl⟩
        have hus := fmt_size (n := n) hk
        rw [← HF.out] at hus
        have hns := name_size hlt
        cases hz : u.toList.isEmpty
        · have HA := Lib.hid (addM_more (m := k) hz)
          have hz1 : (!u.toList.isEmpty) = true := by rw [hz]; rfl
          go_wp2_with fail
          refine (names_any _).mono ?_
          rintro e w1 ⟨b, rfl, HN, hb⟩
          have c := HN.out k hlt
          have HB := Lib.hid (bthen HB.out hb r)
          have hus2 : (u ++ plusS).size = u.size + 1 := ByteArray.size_append
          have hus3 := Lib.hid hus2
          clear hb hus2
          go_wp2
          go_roundw
          case rel => exact ⟨k + 1, _, by omega, by go_num, rfl, Lib.hid (by rw [HE.out, ← HF.out, HA.out]), HB⟩
          case measure => simp [intOf]; omega
        · have HA := Lib.hid (addM_first (m := k) hz)
          have hz1 : (!u.toList.isEmpty) = false := by rw [hz]; rfl
          go_wp2_with fail
          refine (names_any _).mono ?_
          rintro e w1 ⟨b, rfl, HN, hb⟩
          have c := HN.out k hlt
          have HB := Lib.hid (bthen HB.out hb r)
          clear hb
          go_wp2
          go_roundw
          case rel => exact ⟨k + 1, _, by omega, by go_num, rfl, Lib.hid (by rw [HE.out, ← HF.out, HA.out]), HB⟩
          case measure => simp [intOf]; omega
    · obtain rfl : k = 8 := by omega
      by_cases hn0 : n = 0
      · have hz : u.toList.isEmpty = true := by rw [HF.out, hn0, ByteArray.toList_eq]; decide +kernel
        have HR : Hid (fmtS (n : Int) = noneS ∧ fmtE (n : Int) = 0) := Lib.hid (by rw [hn0]; exact fmt_zero)
        clear hn0
        go_wp2
        go_ret2
        exact ⟨ret_si HR.out.1.symm HR.out.2.symm, HB.out⟩
      · have hz : u.toList.isEmpty = false := by rw [HF.out]; exact empty_no (back hn0 (by omega)).2
        have HR := Lib.hid (fmt_some hn0 (by omega))
        clear hn0
        go_wp2
        go_ret2
        exact ⟨ret_si (by rw [HR.out.1]; exact HF.out) HR.out.2.symm, HB.out⟩

theorem ref_at {s : ByteArray} {k : Nat} (hk : k < 256) (h : fmtS (k : Int) = s) (hb : ∀ j : Nat, j < k → fmtS (j : Int) ≠ s) : refI s = k ∧ refE s = 0 := by
  have : refN s = k := firstN_eq hk (by simp [h]) (fun j hj => by simp [hb j hj])
  unfold refI refE
  rw [this, if_pos hk, if_pos hk]
  exact ⟨rfl, rfl⟩
theorem ref_none {s : ByteArray} (hb : ∀ j : Nat, j < 256 → fmtS (j : Int) ≠ s) : refI s = 0 ∧ refE s = 3 := by
  have : refN s = 256 := firstN_none (fun j hj => by simp [hb j hj])
  unfold refI refE
  rw [this]
  exact ⟨rfl, rfl⟩
theorem ref_step {s : ByteArray} {k : Nat} (h : ∀ j : Nat, j < k → fmtS (j : Int) ≠ s) (h2 : fmtS (k : Int) ≠ s) : ∀ j : Nat, j < k + 1 → fmtS (j : Int) ≠ s := fun j hj => by
  by_cases e : j = k
  · subst e; exact h2
  · exact h j (by omega)
set_option maxHeartbeats 1000000 in
theorem rparse_any (s : ByteArray) (w : World) : Calls Tryd.prog 21 #[.string s] w fun e w' => e = .returned (.tuple #[.int .i64 (refI s), .int .i64 (refE s)]) ∧ Below w.heap.size w w' := by
  have r := Nat.le_refl w.heap.size
  go_enter Tryd.func21, Tryd.ntmps21
  go_wp2
  go_loopw [4] (fun s4 wr => ∃ k : Nat, k ≤ 256 ∧ s4 = .int .i64 k ∧ Hid (∀ j : Nat, j < k → fmtS (j : Int) ≠ s) ∧ Hid (Below w.heap.size w wr)) (fun s4 _ => 256 - (intOf s4).toNat)
  case atStart => exact ⟨0, by omega, rfl, Lib.hid (fun j hj => absurd hj (by omega)), Lib.hid (Below.refl _ _)⟩
  case round =>
    obtain ⟨k, hk, rfl, HA, HB⟩ := hrel
    by_cases hlt : k < 256
    · have k0 : (0 : Int) ≤ (k : Int) := by omega
      have k8 : (k : Int) < 256 := by omega
      have hc := rfmt_any (k : Int) wr
      by_cases he : fmtS (k : Int) = s
      · have hs := str_yes he
        have HF := Lib.hid (ref_at hlt he HA.out)
        clear he
        go_wp2_with fail
        refine hc.mono ?_
        rintro e w1 ⟨rfl, hb⟩
        have HB := Lib.hid (bthen HB.out hb r)
        clear hb
        go_wp2
        go_ret2
        exact ⟨ret_ii HF.out.1.symm HF.out.2.symm, HB.out⟩
      · have hs := str_no he
        have HF := Lib.hid (ref_step HA.out he)
        clear he
        go_wp2_with fail
        refine hc.mono ?_
        rintro e w1 ⟨rfl, hb⟩
        have HB := Lib.hid (bthen HB.out hb r)
        clear hb
        go_wp2
        go_roundw
        case rel => exact ⟨k + 1, by omega, by go_num, HF, HB⟩
        case measure => simp [intOf]; omega
    · obtain rfl : k = 256 := by omega
      have HF := Lib.hid (ref_none HA.out)
      go_wp2
      go_ret2
      exact ⟨ret_ii HF.out.1.symm HF.out.2.symm, HB.out⟩

theorem none_list : noneS.toList = [110, 111, 110, 101] := by rw [ByteArray.toList_eq]
theorem parse_yes {s : ByteArray} (h : s = noneS) : parseI s = 0 ∧ parseE s = 0 := ⟨if_pos h, if_pos h⟩
theorem parse_dead {s : ByteArray} {i : Nat} (h : parseTo s i = none) : ∀ j, i ≤ j → parseTo s j = none := by
  intro j
  induction j with
  | zero => intro hj; obtain rfl : i = 0 := by omega
            exact h
  | succ j ih =>
    intro hj
    by_cases e : i = j + 1
    · subst e; exact h
    · unfold parseTo
      rw [ih (by omega)]
      rfl
theorem parse_fail {s : ByteArray} {i : Nat} (hs : s ≠ noneS) (hi : i ≤ s.size + 1) (h : parseTo s i = none) : parseI s = 0 ∧ parseE s = 3 := by
  unfold parseI parseE
  rw [if_neg hs, if_neg hs, parse_dead h _ hi]
  exact ⟨rfl, rfl⟩
theorem parse_done {s : ByteArray} {m a : Nat} (hs : s ≠ noneS) (h : parseTo s (s.size + 1) = some (m, a)) : parseI s = m ∧ parseE s = 0 := by
  unfold parseI parseE
  rw [if_neg hs, if_neg hs, h]
  exact ⟨rfl, rfl⟩
theorem step_eq {s : ByteArray} {i m a : Nat} (h : parseTo s i = some (m, a)) : parseTo s (i + 1) = stepP s i (m, a) := by
  unfold parseTo
  rw [h]
  rfl
theorem step_bad {s : ByteArray} {i : Nat} {st : Nat × Nat} (h : i < s.size) (hl : letB (byteN s i) = false) : stepP s i st = none := if_pos ⟨h, hl⟩
theorem step_on {s : ByteArray} {i : Nat} {st : Nat × Nat} (h : i < s.size) (hl : letB (byteN s i) = true) (hp : byteN s i ≠ 43) : stepP s i st = some st := by
  unfold stepP
  rw [if_neg (by rw [hl]; simp), if_pos ⟨h, hp⟩]
theorem step_seg {s : ByteArray} {i m a : Nat} (h : ¬ (i < s.size ∧ letB (byteN s i) = false)) (h2 : ¬ (i < s.size ∧ byteN s i ≠ 43)) :
    stepP s i (m, a) = if parB (s.extract a i) = false ∨ m / 2 ^ parN (s.extract a i) ≠ 0 then none else some (m ||| 2 ^ parN (s.extract a i), i + 1) := by
  unfold stepP
  rw [if_neg h, if_neg h2]
theorem seg_yes {s : ByteArray} {i m a : Nat} (h : parB (s.extract a i) = true) : (if parB (s.extract a i) = false ∨ m / 2 ^ parN (s.extract a i) ≠ 0 then none else some (m ||| 2 ^ parN (s.extract a i), i + 1)) =
    if m / 2 ^ parN (s.extract a i) ≠ 0 then none else some (m ||| 2 ^ parN (s.extract a i), i + 1) := by
  rw [h]
  simp
theorem or_all : (List.range 256).all (fun m => (List.range 8).all fun p => bits .or .i64 (m : Int) ((2 ^ p : Nat) : Int) == ((m ||| 2 ^ p : Nat) : Int)) = true := by decide +kernel
theorem or_i64 {m p : Nat} (hm : m < 256) (hp : p < 8) : bits .or .i64 (m : Int) ((2 ^ p : Nat) : Int) = ((m ||| 2 ^ p : Nat) : Int) := by
  have := List.all_eq_true.1 (List.all_eq_true.1 or_all m (List.mem_range.2 hm)) p (List.mem_range.2 hp)
  exact beq_iff_eq.1 this
set_option maxRecDepth 100000 in
set_option maxHeartbeats 4000000 in
theorem parse_any (s : ByteArray) (w : World) (hsz : s.size ≤ 1000) (hN : NamesAt w) : Calls Tryd.prog 20 #[.string s] w fun e w' => e = .returned (.tuple #[.int .i64 (parseI s), .int .i64 (parseE s)]) ∧ w = w' := by
  have HN := Lib.hid hN
  clear hN
  by_cases hs : s = noneS
  · have H := Lib.hid (parse_yes hs)
    have he := str_yes hs
    rw [none_list] at he
    clear hs
    go_enter Tryd.func20, Tryd.ntmps20
    go_wp2
    go_step3
    go_wp2
    try rw [Exit.noGoto_ret]
    go_ret2
    exact ⟨ret_ii H.out.1.symm H.out.2.symm, rfl⟩
  have HS := Lib.hid hs
  have he := str_no hs
  rw [none_list] at he
  clear hs
  go_enter Tryd.func20, Tryd.ntmps20
  go_wp2
  go_step3
  go_wp2
  go_step3
  go_wp2
  go_loopg [4, 5, 6] (s.size + 2) (fun g s4 s5 s6 wx => ∃ i m a : Nat, i + g = s.size + 2 ∧ i ≤ s.size + 1 ∧ s6 = .int .i64 i ∧ s4 = .int .i64 m ∧ s5 = .int .i64 a ∧ Hid (parseTo s i = some (m, a)) ∧ a ≤ i ∧ m < 256 ∧ (a ≤ s.size ∨ a = s.size + 1) ∧ (i ≤ s.size ∨ a = s.size + 1) ∧ wx = w)
  case atStart => exact ⟨0, 0, 0, by omega, by omega, rfl, rfl, rfl, Lib.hid rfl, by omega, by omega, by omega, by omega, rfl⟩
  case round =>
    obtain ⟨i, m, a, hig, hi, rfl, rfl, rfl, HP, hai, hm, ha, hia, rfl⟩ := hrel
    have HIG := Lib.hid hig
    clear hig
    by_cases hle : i ≤ s.size
    · have HST := Lib.hid (step_eq HP.out)
      have hbr : ((a : Int) != (s.size : Int) + 1) = true := bne_iff_ne.2 (by omega)
      have hle' : (i : Int) ≤ (s.size : Int) := by omega
      have a0 : (0 : Int) ≤ (a : Int) := by omega
      have ai' : (a : Int) ≤ (i : Int) := by omega
      clear hia ha
      by_cases hlt : i < s.size
      · have HE := Lib.hid (byteN_eq hlt)
        have hlt' : (i : Int) < (s.size : Int) := by omega
        have hlc := letter_any s[i].toNat wr
        rw [← HE.out] at hlc
        cases hl : letB (byteN s i)
        · have HF := Lib.hid (parse_fail HS.out (by omega) (HST.out.trans (step_bad hlt hl)))
          rw [hl, HE.out] at hlc
          clear hl
          go_wp2_with (go_at_call 34; refine hlc.mono ?_; rintro e w' ⟨rfl, rfl⟩)
          try rw [Exit.noGoto_ret]
          go_ret2
          exact ⟨ret_ii HF.out.1.symm HF.out.2.symm, rfl⟩
        · by_cases hp : byteN s i = 43
          · have HSG := Lib.hid (step_seg (s := s) (i := i) (m := m) (a := a) (fun h => by rw [hl] at h; cases h.2) (fun h => h.2 hp))
            rw [hl, HE.out] at hlc
            have hp2 : ((s[i].toNat : Int) != 43) = false := by rw [← HE.out, hp]; rfl
            clear hp hl
            go_wp2_with (go_at_call 34; refine hlc.mono ?_; rintro e w' ⟨rfl, rfl⟩)
            have hpar := par_any (s.extract a i) wr HN.out
            cases hpb : parB (s.extract a i)
            · have HF := Lib.hid (parse_fail HS.out (by omega) (HST.out.trans (HSG.out.trans (if_pos (Or.inl hpb)))))
              rw [hpb] at hpar
              clear hpb
              refine hpar.mono ?_
              rintro e w' ⟨rfl, rfl⟩
              go_wp2_with fail
              try rw [Exit.noGoto_ret]
              go_ret2
              exact ⟨ret_ii HF.out.1.symm HF.out.2.symm, rfl⟩
            · have hpi : parI (s.extract a i) = (parN (s.extract a i) : Int) := if_pos (of_decide_eq_true hpb)
              have hp8 : parN (s.extract a i) < 8 := of_decide_eq_true hpb
              rw [hpi, hpb] at hpar
              have HSG := Lib.hid (HSG.out.trans (seg_yes hpb))
              clear hpi hpb
              generalize parN (s.extract a i) = p at hpar hp8 HSG
              rcases eight p hp8 with rfl | rfl | rfl | rfl | rfl | rfl | rfl | rfl
              · clear hp8
                refine hpar.mono ?_
                rintro e w' ⟨rfl, rfl⟩
                by_cases hd : m < 1
                · have hq : ((m : Int) != 0) = false := by simp; omega
                  have HF := Lib.hid (HST.out.trans (HSG.out.trans (if_neg (by simp; omega))))
                  have hor := or_i64 hm (p := 0) (by omega)
                  have hor : bits .or .i64 (m : Int) 1 = ((m ||| 2 ^ 0 : Nat) : Int) := hor
                  have h256 : m ||| 2 ^ 0 < 2 ^ 8 := Nat.or_lt_two_pow hm (by omega)
                  have H256 := Lib.hid h256
                  clear h256
                  go_wp2_with fail
                  go_roundg (s.size + 2 - (i + 1))
                  case measure => have := HIG.out; omega
                  case rel => exact ⟨i + 1, m ||| 2 ^ 0, i + 1, by omega, by omega, by go_num, rfl, by go_num, HF, by omega, H256.out, by omega, by omega, rfl⟩
                · have hq : ((m : Int) != 0) = true := by simp; omega
                  have HF := Lib.hid (parse_fail HS.out (by omega) (HST.out.trans (HSG.out.trans (if_pos (by simp; omega)))))
                  go_wp2_with fail
                  try rw [Exit.noGoto_ret]
                  go_ret2
                  exact ⟨ret_ii HF.out.1.symm HF.out.2.symm, rfl⟩
              · clear hp8
                refine hpar.mono ?_
                rintro e w' ⟨rfl, rfl⟩
                by_cases hd : m < 2
                · have hq : ((m : Int) / 2 != 0) = false := by simp; omega
                  have HF := Lib.hid (HST.out.trans (HSG.out.trans (if_neg (by simp; omega))))
                  have hor := or_i64 hm (p := 1) (by omega)
                  have hor : bits .or .i64 (m : Int) 2 = ((m ||| 2 ^ 1 : Nat) : Int) := hor
                  have h256 : m ||| 2 ^ 1 < 2 ^ 8 := Nat.or_lt_two_pow hm (by omega)
                  have H256 := Lib.hid h256
                  clear h256
                  go_wp2_with fail
                  go_roundg (s.size + 2 - (i + 1))
                  case measure => have := HIG.out; omega
                  case rel => exact ⟨i + 1, m ||| 2 ^ 1, i + 1, by omega, by omega, by go_num, rfl, by go_num, HF, by omega, H256.out, by omega, by omega, rfl⟩
                · have hq : ((m : Int) / 2 != 0) = true := by simp; omega
                  have HF := Lib.hid (parse_fail HS.out (by omega) (HST.out.trans (HSG.out.trans (if_pos (by simp; omega)))))
                  go_wp2_with fail
                  try rw [Exit.noGoto_ret]
                  go_ret2
                  exact ⟨ret_ii HF.out.1.symm HF.out.2.symm, rfl⟩
              · clear hp8
                refine hpar.mono ?_
                rintro e w' ⟨rfl, rfl⟩
                by_cases hd : m < 4
                · have hq : ((m : Int) / 4 != 0) = false := by simp; omega
                  have HF := Lib.hid (HST.out.trans (HSG.out.trans (if_neg (by simp; omega))))
                  have hor := or_i64 hm (p := 2) (by omega)
                  have hor : bits .or .i64 (m : Int) 4 = ((m ||| 2 ^ 2 : Nat) : Int) := hor
                  have h256 : m ||| 2 ^ 2 < 2 ^ 8 := Nat.or_lt_two_pow hm (by omega)
                  have H256 := Lib.hid h256
                  clear h256
                  go_wp2_with fail
                  go_roundg (s.size + 2 - (i + 1))
                  case measure => have := HIG.out; omega
                  case rel => exact ⟨i + 1, m ||| 2 ^ 2, i + 1, by omega, by omega, by go_num, rfl, by go_num, HF, by omega, H256.out, by omega, by omega, rfl⟩
                · have hq : ((m : Int) / 4 != 0) = true := by simp; omega
                  have HF := Lib.hid (parse_fail HS.out (by omega) (HST.out.trans (HSG.out.trans (if_pos (by simp; omega)))))
                  go_wp2_with fail
                  try rw [Exit.noGoto_ret]
                  go_ret2
                  exact ⟨ret_ii HF.out.1.symm HF.out.2.symm, rfl⟩
              · clear hp8
                refine hpar.mono ?_
                rintro e w' ⟨rfl, rfl⟩
                by_cases hd : m < 8
                · have hq : ((m : Int) / 8 != 0) = false := by simp; omega
                  have HF := Lib.hid (HST.out.trans (HSG.out.trans (if_neg (by simp; omega))))
                  have hor := or_i64 hm (p := 3) (by omega)
                  have hor : bits .or .i64 (m : Int) 8 = ((m ||| 2 ^ 3 : Nat) : Int) := hor
                  have h256 : m ||| 2 ^ 3 < 2 ^ 8 := Nat.or_lt_two_pow hm (by omega)
                  have H256 := Lib.hid h256
                  clear h256
                  go_wp2_with fail
                  go_roundg (s.size + 2 - (i + 1))
                  case measure => have := HIG.out; omega
                  case rel => exact ⟨i + 1, m ||| 2 ^ 3, i + 1, by omega, by omega, by go_num, rfl, by go_num, HF, by omega, H256.out, by omega, by omega, rfl⟩
                · have hq : ((m : Int) / 8 != 0) = true := by simp; omega
                  have HF := Lib.hid (parse_fail HS.out (by omega) (HST.out.trans (HSG.out.trans (if_pos (by simp; omega)))))
                  go_wp2_with fail
                  try rw [Exit.noGoto_ret]
                  go_ret2
                  exact ⟨ret_ii HF.out.1.symm HF.out.2.symm, rfl⟩
              · clear hp8
                refine hpar.mono ?_
                rintro e w' ⟨rfl, rfl⟩
                by_cases hd : m < 16
                · have hq : ((m : Int) / 16 != 0) = false := by simp; omega
                  have HF := Lib.hid (HST.out.trans (HSG.out.trans (if_neg (by simp; omega))))
                  have hor := or_i64 hm (p := 4) (by omega)
                  have hor : bits .or .i64 (m : Int) 16 = ((m ||| 2 ^ 4 : Nat) : Int) := hor
                  have h256 : m ||| 2 ^ 4 < 2 ^ 8 := Nat.or_lt_two_pow hm (by omega)
                  have H256 := Lib.hid h256
                  clear h256
                  go_wp2_with fail
                  go_roundg (s.size + 2 - (i + 1))
                  case measure => have := HIG.out; omega
                  case rel => exact ⟨i + 1, m ||| 2 ^ 4, i + 1, by omega, by omega, by go_num, rfl, by go_num, HF, by omega, H256.out, by omega, by omega, rfl⟩
                · have hq : ((m : Int) / 16 != 0) = true := by simp; omega
                  have HF := Lib.hid (parse_fail HS.out (by omega) (HST.out.trans (HSG.out.trans (if_pos (by simp; omega)))))
                  go_wp2_with fail
                  try rw [Exit.noGoto_ret]
                  go_ret2
                  exact ⟨ret_ii HF.out.1.symm HF.out.2.symm, rfl⟩
              · clear hp8
                refine hpar.mono ?_
                rintro e w' ⟨rfl, rfl⟩
                by_cases hd : m < 32
                · have hq : ((m : Int) / 32 != 0) = false := by simp; omega
                  have HF := Lib.hid (HST.out.trans (HSG.out.trans (if_neg (by simp; omega))))
                  have hor := or_i64 hm (p := 5) (by omega)
                  have hor : bits .or .i64 (m : Int) 32 = ((m ||| 2 ^ 5 : Nat) : Int) := hor
                  have h256 : m ||| 2 ^ 5 < 2 ^ 8 := Nat.or_lt_two_pow hm (by omega)
                  have H256 := Lib.hid h256
                  clear h256
                  go_wp2_with fail
                  go_roundg (s.size + 2 - (i + 1))
                  case measure => have := HIG.out; omega
                  case rel => exact ⟨i + 1, m ||| 2 ^ 5, i + 1, by omega, by omega, by go_num, rfl, by go_num, HF, by omega, H256.out, by omega, by omega, rfl⟩
                · have hq : ((m : Int) / 32 != 0) = true := by simp; omega
                  have HF := Lib.hid (parse_fail HS.out (by omega) (HST.out.trans (HSG.out.trans (if_pos (by simp; omega)))))
                  go_wp2_with fail
                  try rw [Exit.noGoto_ret]
                  go_ret2
                  exact ⟨ret_ii HF.out.1.symm HF.out.2.symm, rfl⟩
              · clear hp8
                refine hpar.mono ?_
                rintro e w' ⟨rfl, rfl⟩
                by_cases hd : m < 64
                · have hq : ((m : Int) / 64 != 0) = false := by simp; omega
                  have HF := Lib.hid (HST.out.trans (HSG.out.trans (if_neg (by simp; omega))))
                  have hor := or_i64 hm (p := 6) (by omega)
                  have hor : bits .or .i64 (m : Int) 64 = ((m ||| 2 ^ 6 : Nat) : Int) := hor
                  have h256 : m ||| 2 ^ 6 < 2 ^ 8 := Nat.or_lt_two_pow hm (by omega)
                  have H256 := Lib.hid h256
                  clear h256
                  go_wp2_with fail
                  go_roundg (s.size + 2 - (i + 1))
                  case measure => have := HIG.out; omega
                  case rel => exact ⟨i + 1, m ||| 2 ^ 6, i + 1, by omega, by omega, by go_num, rfl, by go_num, HF, by omega, H256.out, by omega, by omega, rfl⟩
                · have hq : ((m : Int) / 64 != 0) = true := by simp; omega
                  have HF := Lib.hid (parse_fail HS.out (by omega) (HST.out.trans (HSG.out.trans (if_pos (by simp; omega)))))
                  go_wp2_with fail
                  try rw [Exit.noGoto_ret]
                  go_ret2
                  exact ⟨ret_ii HF.out.1.symm HF.out.2.symm, rfl⟩
              · clear hp8
                refine hpar.mono ?_
                rintro e w' ⟨rfl, rfl⟩
                by_cases hd : m < 128
                · have hq : ((m : Int) / 128 != 0) = false := by simp; omega
                  have HF := Lib.hid (HST.out.trans (HSG.out.trans (if_neg (by simp; omega))))
                  have hor := or_i64 hm (p := 7) (by omega)
                  have hor : bits .or .i64 (m : Int) 128 = ((m ||| 2 ^ 7 : Nat) : Int) := hor
                  have h256 : m ||| 2 ^ 7 < 2 ^ 8 := Nat.or_lt_two_pow hm (by omega)
                  have H256 := Lib.hid h256
                  clear h256
                  go_wp2_with fail
                  go_roundg (s.size + 2 - (i + 1))
                  case measure => have := HIG.out; omega
                  case rel => exact ⟨i + 1, m ||| 2 ^ 7, i + 1, by omega, by omega, by go_num, rfl, by go_num, HF, by omega, H256.out, by omega, by omega, rfl⟩
                · have hq : ((m : Int) / 128 != 0) = true := by simp; omega
                  have HF := Lib.hid (parse_fail HS.out (by omega) (HST.out.trans (HSG.out.trans (if_pos (by simp; omega)))))
                  go_wp2_with fail
                  try rw [Exit.noGoto_ret]
                  go_ret2
                  exact ⟨ret_ii HF.out.1.symm HF.out.2.symm, rfl⟩
          · have HF := Lib.hid (HST.out.trans (step_on hlt hl hp))
            rw [hl, HE.out] at hlc
            have hp2 : ((s[i].toNat : Int) != 43) = true := bne_iff_ne.2 (by rw [← HE.out]; omega)
            clear hp hl
            go_wp2_with (go_at_call 34; refine hlc.mono ?_; rintro e w' ⟨rfl, rfl⟩)
            go_roundg (s.size + 2 - (i + 1))
            case measure => have := HIG.out; omega
            case rel => exact ⟨i + 1, m, a, by omega, by omega, by go_num, rfl, rfl, HF, by omega, hm, by omega, by omega, rfl⟩
      · obtain rfl : i = s.size := by omega
        have HSG := Lib.hid (step_seg (s := s) (i := s.size) (m := m) (a := a) (fun h => absurd h.1 (by omega)) (fun h => absurd h.1 (by omega)))
        have hlt' : ¬ ((s.size : Int) < (s.size : Int)) := by omega
        go_wp2_with fail
        have hpar := par_any (s.extract a s.size) wr HN.out
        cases hpb : parB (s.extract a s.size)
        · have HF := Lib.hid (parse_fail HS.out (by omega) (HST.out.trans (HSG.out.trans (if_pos (Or.inl hpb)))))
          rw [hpb] at hpar
          clear hpb
          refine hpar.mono ?_
          rintro e w' ⟨rfl, rfl⟩
          go_wp2_with fail
          try rw [Exit.noGoto_ret]
          go_ret2
          exact ⟨ret_ii HF.out.1.symm HF.out.2.symm, rfl⟩
        · have hpi : parI (s.extract a s.size) = (parN (s.extract a s.size) : Int) := if_pos (of_decide_eq_true hpb)
          have hp8 : parN (s.extract a s.size) < 8 := of_decide_eq_true hpb
          rw [hpi, hpb] at hpar
          have HSG := Lib.hid (HSG.out.trans (seg_yes hpb))
          clear hpi hpb
          generalize parN (s.extract a s.size) = p at hpar hp8 HSG
          rcases eight p hp8 with rfl | rfl | rfl | rfl | rfl | rfl | rfl | rfl
          · clear hp8
            refine hpar.mono ?_
            rintro e w' ⟨rfl, rfl⟩
            by_cases hd : m < 1
            · have hq : ((m : Int) != 0) = false := by simp; omega
              have HF := Lib.hid (HST.out.trans (HSG.out.trans (if_neg (by simp; omega))))
              have hor := or_i64 hm (p := 0) (by omega)
              have hor : bits .or .i64 (m : Int) 1 = ((m ||| 2 ^ 0 : Nat) : Int) := hor
              have h256 : m ||| 2 ^ 0 < 2 ^ 8 := Nat.or_lt_two_pow hm (by omega)
              have H256 := Lib.hid h256
              clear h256
              go_wp2_with fail
              go_roundg (s.size + 2 - (s.size + 1))
              case measure => have := HIG.out; omega
              case rel => exact ⟨s.size + 1, m ||| 2 ^ 0, s.size + 1, by omega, by omega, by go_num, rfl, by go_num, HF, by omega, H256.out, by omega, by omega, rfl⟩
            · have hq : ((m : Int) != 0) = true := by simp; omega
              have HF := Lib.hid (parse_fail HS.out (by omega) (HST.out.trans (HSG.out.trans (if_pos (by simp; omega)))))
              go_wp2_with fail
              try rw [Exit.noGoto_ret]
              go_ret2
              exact ⟨ret_ii HF.out.1.symm HF.out.2.symm, rfl⟩
          · clear hp8
            refine hpar.mono ?_
            rintro e w' ⟨rfl, rfl⟩
            by_cases hd : m < 2
            · have hq : ((m : Int) / 2 != 0) = false := by simp; omega
              have HF := Lib.hid (HST.out.trans (HSG.out.trans (if_neg (by simp; omega))))
              have hor := or_i64 hm (p := 1) (by omega)
              have hor : bits .or .i64 (m : Int) 2 = ((m ||| 2 ^ 1 : Nat) : Int) := hor
              have h256 : m ||| 2 ^ 1 < 2 ^ 8 := Nat.or_lt_two_pow hm (by omega)
              have H256 := Lib.hid h256
              clear h256
              go_wp2_with fail
              go_roundg (s.size + 2 - (s.size + 1))
              case measure => have := HIG.out; omega
              case rel => exact ⟨s.size + 1, m ||| 2 ^ 1, s.size + 1, by omega, by omega, by go_num, rfl, by go_num, HF, by omega, H256.out, by omega, by omega, rfl⟩
            · have hq : ((m : Int) / 2 != 0) = true := by simp; omega
              have HF := Lib.hid (parse_fail HS.out (by omega) (HST.out.trans (HSG.out.trans (if_pos (by simp; omega)))))
              go_wp2_with fail
              try rw [Exit.noGoto_ret]
              go_ret2
              exact ⟨ret_ii HF.out.1.symm HF.out.2.symm, rfl⟩
          · clear hp8
            refine hpar.mono ?_
            rintro e w' ⟨rfl, rfl⟩
            by_cases hd : m < 4
            · have hq : ((m : Int) / 4 != 0) = false := by simp; omega
              have HF := Lib.hid (HST.out.trans (HSG.out.trans (if_neg (by simp; omega))))
              have hor := or_i64 hm (p := 2) (by omega)
              have hor : bits .or .i64 (m : Int) 4 = ((m ||| 2 ^ 2 : Nat) : Int) := hor
              have h256 : m ||| 2 ^ 2 < 2 ^ 8 := Nat.or_lt_two_pow hm (by omega)
              have H256 := Lib.hid h256
              clear h256
              go_wp2_with fail
              go_roundg (s.size + 2 - (s.size + 1))
              case measure => have := HIG.out; omega
              case rel => exact ⟨s.size + 1, m ||| 2 ^ 2, s.size + 1, by omega, by omega, by go_num, rfl, by go_num, HF, by omega, H256.out, by omega, by omega, rfl⟩
            · have hq : ((m : Int) / 4 != 0) = true := by simp; omega
              have HF := Lib.hid (parse_fail HS.out (by omega) (HST.out.trans (HSG.out.trans (if_pos (by simp; omega)))))
              go_wp2_with fail
              try rw [Exit.noGoto_ret]
              go_ret2
              exact ⟨ret_ii HF.out.1.symm HF.out.2.symm, rfl⟩
          · clear hp8
            refine hpar.mono ?_
            rintro e w' ⟨rfl, rfl⟩
            by_cases hd : m < 8
            · have hq : ((m : Int) / 8 != 0) = false := by simp; omega
              have HF := Lib.hid (HST.out.trans (HSG.out.trans (if_neg (by simp; omega))))
              have hor := or_i64 hm (p := 3) (by omega)
              have hor : bits .or .i64 (m : Int) 8 = ((m ||| 2 ^ 3 : Nat) : Int) := hor
              have h256 : m ||| 2 ^ 3 < 2 ^ 8 := Nat.or_lt_two_pow hm (by omega)
              have H256 := Lib.hid h256
              clear h256
              go_wp2_with fail
              go_roundg (s.size + 2 - (s.size + 1))
              case measure => have := HIG.out; omega
              case rel => exact ⟨s.size + 1, m ||| 2 ^ 3, s.size + 1, by omega, by omega, by go_num, rfl, by go_num, HF, by omega, H256.out, by omega, by omega, rfl⟩
            · have hq : ((m : Int) / 8 != 0) = true := by simp; omega
              have HF := Lib.hid (parse_fail HS.out (by omega) (HST.out.trans (HSG.out.trans (if_pos (by simp; omega)))))
              go_wp2_with fail
              try rw [Exit.noGoto_ret]
              go_ret2
              exact ⟨ret_ii HF.out.1.symm HF.out.2.symm, rfl⟩
          · clear hp8
            refine hpar.mono ?_
            rintro e w' ⟨rfl, rfl⟩
            by_cases hd : m < 16
            · have hq : ((m : Int) / 16 != 0) = false := by simp; omega
              have HF := Lib.hid (HST.out.trans (HSG.out.trans (if_neg (by simp; omega))))
              have hor := or_i64 hm (p := 4) (by omega)
              have hor : bits .or .i64 (m : Int) 16 = ((m ||| 2 ^ 4 : Nat) : Int) := hor
              have h256 : m ||| 2 ^ 4 < 2 ^ 8 := Nat.or_lt_two_pow hm (by omega)
              have H256 := Lib.hid h256
              clear h256
              go_wp2_with fail
              go_roundg (s.size + 2 - (s.size + 1))
              case measure => have := HIG.out; omega
              case rel => exact ⟨s.size + 1, m ||| 2 ^ 4, s.size + 1, by omega, by omega, by go_num, rfl, by go_num, HF, by omega, H256.out, by omega, by omega, rfl⟩
            · have hq : ((m : Int) / 16 != 0) = true := by simp; omega
              have HF := Lib.hid (parse_fail HS.out (by omega) (HST.out.trans (HSG.out.trans (if_pos (by simp; omega)))))
              go_wp2_with fail
              try rw [Exit.noGoto_ret]
              go_ret2
              exact ⟨ret_ii HF.out.1.symm HF.out.2.symm, rfl⟩
          · clear hp8
            refine hpar.mono ?_
            rintro e w' ⟨rfl, rfl⟩
            by_cases hd : m < 32
            · have hq : ((m : Int) / 32 != 0) = false := by simp; omega
              have HF := Lib.hid (HST.out.trans (HSG.out.trans (if_neg (by simp; omega))))
              have hor := or_i64 hm (p := 5) (by omega)
              have hor : bits .or .i64 (m : Int) 32 = ((m ||| 2 ^ 5 : Nat) : Int) := hor
              have h256 : m ||| 2 ^ 5 < 2 ^ 8 := Nat.or_lt_two_pow hm (by omega)
              have H256 := Lib.hid h256
              clear h256
              go_wp2_with fail
              go_roundg (s.size + 2 - (s.size + 1))
              case measure => have := HIG.out; omega
              case rel => exact ⟨s.size + 1, m ||| 2 ^ 5, s.size + 1, by omega, by omega, by go_num, rfl, by go_num, HF, by omega, H256.out, by omega, by omega, rfl⟩
            · have hq : ((m : Int) / 32 != 0) = true := by simp; omega
              have HF := Lib.hid (parse_fail HS.out (by omega) (HST.out.trans (HSG.out.trans (if_pos (by simp; omega)))))
              go_wp2_with fail
              try rw [Exit.noGoto_ret]
              go_ret2
              exact ⟨ret_ii HF.out.1.symm HF.out.2.symm, rfl⟩
          · clear hp8
            refine hpar.mono ?_
            rintro e w' ⟨rfl, rfl⟩
            by_cases hd : m < 64
            · have hq : ((m : Int) / 64 != 0) = false := by simp; omega
              have HF := Lib.hid (HST.out.trans (HSG.out.trans (if_neg (by simp; omega))))
              have hor := or_i64 hm (p := 6) (by omega)
              have hor : bits .or .i64 (m : Int) 64 = ((m ||| 2 ^ 6 : Nat) : Int) := hor
              have h256 : m ||| 2 ^ 6 < 2 ^ 8 := Nat.or_lt_two_pow hm (by omega)
              have H256 := Lib.hid h256
              clear h256
              go_wp2_with fail
              go_roundg (s.size + 2 - (s.size + 1))
              case measure => have := HIG.out; omega
              case rel => exact ⟨s.size + 1, m ||| 2 ^ 6, s.size + 1, by omega, by omega, by go_num, rfl, by go_num, HF, by omega, H256.out, by omega, by omega, rfl⟩
            · have hq : ((m : Int) / 64 != 0) = true := by simp; omega
              have HF := Lib.hid (parse_fail HS.out (by omega) (HST.out.trans (HSG.out.trans (if_pos (by simp; omega)))))
              go_wp2_with fail
              try rw [Exit.noGoto_ret]
              go_ret2
              exact ⟨ret_ii HF.out.1.symm HF.out.2.symm, rfl⟩
          · clear hp8
            refine hpar.mono ?_
            rintro e w' ⟨rfl, rfl⟩
            by_cases hd : m < 128
            · have hq : ((m : Int) / 128 != 0) = false := by simp; omega
              have HF := Lib.hid (HST.out.trans (HSG.out.trans (if_neg (by simp; omega))))
              have hor := or_i64 hm (p := 7) (by omega)
              have hor : bits .or .i64 (m : Int) 128 = ((m ||| 2 ^ 7 : Nat) : Int) := hor
              have h256 : m ||| 2 ^ 7 < 2 ^ 8 := Nat.or_lt_two_pow hm (by omega)
              have H256 := Lib.hid h256
              clear h256
              go_wp2_with fail
              go_roundg (s.size + 2 - (s.size + 1))
              case measure => have := HIG.out; omega
              case rel => exact ⟨s.size + 1, m ||| 2 ^ 7, s.size + 1, by omega, by omega, by go_num, rfl, by go_num, HF, by omega, H256.out, by omega, by omega, rfl⟩
            · have hq : ((m : Int) / 128 != 0) = true := by simp; omega
              have HF := Lib.hid (parse_fail HS.out (by omega) (HST.out.trans (HSG.out.trans (if_pos (by simp; omega)))))
              go_wp2_with fail
              try rw [Exit.noGoto_ret]
              go_ret2
              exact ⟨ret_ii HF.out.1.symm HF.out.2.symm, rfl⟩
    · obtain rfl : i = s.size + 1 := by omega
      obtain rfl : a = s.size + 1 := by omega
      have HF := Lib.hid (parse_done HS.out HP.out)
      have hbr : ((((s.size + 1 : Nat) : Int)) != (s.size : Int) + 1) = false := by simp
      go_wp2
      try rw [Exit.noGoto_ret]
      go_ret2
      exact ⟨ret_ii HF.out.1.symm HF.out.2.symm, rfl⟩
end Go.Proofs.YtokjkllfkjiaiaaDoor
