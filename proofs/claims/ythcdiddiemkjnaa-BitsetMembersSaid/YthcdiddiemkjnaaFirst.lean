/-
  transitlaw06.first: the elements that the iterator hands to a consumer which stops behind n of them.
-/
import Derived.Test.YthcdiddiemkjnaaIter
namespace Go.Proofs.Ythcdiddiemkjnaa
open Go.RowKit Go.Shelf
open Bs (U64 oneN hasB listTo listN)

set_option maxHeartbeats 1000000 in
/-- the iterator, called with a function value: as long as that answers true it goes on -/
theorem all1_fn (Bn s : Nat) (hs : U64 s) (p1 p2 p3 p4 : Value) (J Jx : List Int → World → Prop)
    (hY : ∀ pre (x : Int) W, J pre W → pre.length < 64 → Calls Try.prog 37 #[.int .i64 x, p1, p2, p3, p4] W fun e W' =>
      (e = .returned (.bool true) ∧ J (pre ++ [x]) W' ∧ KeepsBox Bn s W W') ∨ (e = .returned (.bool false) ∧ Jx (pre ++ [x]) W'))
    (W : World) (hBn : Boxed W Bn 25 (.int .u64 s)) (h0 : J [] W) :
    Calls Try.prog 39 #[.func (.func 37) #[] #[p1, p2, p3, p4], .pointer (some ⟨Bn, 0, none⟩)] W fun e W' => e = .returned (.tuple #[]) ∧
      (J (listN s) W' ∨ (∃ pre, pre <+: listN s ∧ Jx pre W')) := by
  have HY := Lib.hid hY
  clear hY
  go_enter Try.func39, Try.ntmps39
  go_wp2
  go_loopw [4] (fun k wr => ∃ m : Nat, m ≤ 64 ∧ k = .int .i64 m ∧ Boxed wr Bn 25 (.int .u64 s) ∧ J (listTo s m) wr) (fun k _ => 64 - (intOf k).toNat)
  case atStart => exact ⟨0, by omega, rfl, hBn, h0⟩
  case round =>
    obtain ⟨m, hm, rfl, hbx, hJ⟩ := hrel
    have hc := hbx.cell
    by_cases hlt : m < 64
    · cases hb : hasB s m
      · have hm1 := Lib.hid (Bs.listTo_miss hb)
        go_wp2_with (go_at_call 18; refine (has_any _ _ _ hs).mono ?_; rintro e w' ⟨rfl, rfl⟩)
        go_roundw
        case rel => exact ⟨m + 1, by omega, by go_num, hbx, by rw [hm1.out]; exact hJ⟩
        case measure => simp [intOf]; omega
      · have hm1 := Lib.hid (Bs.listTo_hit hb)
        have hll := Bs.listTo_len s m
        go_wp2_with (first | (go_at_call 18; refine (has_any _ _ _ hs).mono ?_; rintro e w' ⟨rfl, rfl⟩) | (go_at_call 37; fail))
        refine (HY.out _ _ _ hJ (by omega)).mono ?_
        rintro e W3 (⟨rfl, hJ3, hk3⟩ | ⟨rfl, hJx3⟩)
        · have hc3 := hk3 hbx
          go_wp2
          go_roundw
          case rel => exact ⟨m + 1, by omega, by go_num, hc3, by rw [hm1.out]; exact hJ3⟩
          case measure => simp [intOf]; omega
        · go_wp2
          refine bodyPost_ret (results_none rfl _ _ _) rfl ?_
          exact ⟨rfl, .inr ⟨listTo s m ++ [(m : Int)], by rw [← hm1.out]; exact Bs.listTo_prefix s (m + 1) 64 (by omega), hJx3⟩⟩
    · go_wp2
      go_end0
      obtain rfl : m = 64 := by omega
      exact ⟨rfl, .inl hJ⟩

/-- the consumer's variables: n in block B, out in B + 1, over in B + 3, again in B + 4 -/
def Firsts (w0 : World) (B : Nat) (n : Int) (over : Bool) (pre : List Int) (W : World) : Prop :=
  Boxed W B 3 (.int .i64 n) ∧ (∃ v, Boxed W (B + 1) 22 v ∧ W.ownsRow (B + 5) 3 1 v pre.length (pre.map (Value.int .i64))) ∧ Boxed W (B + 3) 4 (.bool over) ∧ Boxed W (B + 4) 4 (.bool false) ∧ Below B w0 W ∧ B ≤ w0.heap.size ∧ B + 5 ≤ W.heap.size

set_option maxHeartbeats 1000000 in
theorem first1_any (w0 : World) (B : Nat) (n : Int) (s : Nat) (pre : List Int) (x : Int) (W : World) (h : Firsts w0 B n false pre W) (hl : pre.length < 64) :
    Calls Try.prog 37 #[.int .i64 x, .pointer (some ⟨B + 3, 0, none⟩), .pointer (some ⟨B + 4, 0, none⟩), .pointer (some ⟨B + 1, 0, none⟩), .pointer (some ⟨B, 0, none⟩)] W fun e W' =>
      e = .returned (.bool (!decide (n ≤ ((pre.length + 1 : Nat) : Int)))) ∧ Firsts w0 B n (decide (n ≤ ((pre.length + 1 : Nat) : Int))) (pre ++ [x]) W' ∧ KeepsBox (B + 2) s W W' := by
  obtain ⟨i0, hi, hz0, hz1, hz2⟩ := info_parts infoInt
  obtain ⟨b0, ⟨v, b1, hown⟩, b3, b4, hB, hB0, hB5⟩ := h
  have c0 := b0.cell
  have c1 := b1.cell
  have c3 := b3.cell
  have f3 := b3.frozen
  have hsz := hB.size
  go_enter Try.func37, Try.ntmps37
  go_wp2_with (at_builtin; refine wpList_append_own _ rfl _ _ 22 rfl (B + 5) 3 i0 (.int .i64 0) 1 8 Try.underlying22 hi hz0 hz1 hz2 rfl (by decide) _ _ _ rfl (hown.alloc _) ⟨W.heap.size, 0, none⟩ 1 1 [.int .i64 x] rfl rfl (cell_one_new _ _ _) (by simp [Value.oneCell']) (by unfold maxLen; omega) (by omega) (by simp; omega) ?_; intro v' w1 hown' hgrow _; obtain ⟨g', cap', rfl⟩ := ownsRow_succ hown'; obtain ⟨hv1, hv2, hr2, hk2, hb2⟩ := b1.appended (by decide) (ownsRow_base hown (show B ≤ B + 5 by omega)) (by omega) (by omega) (ownsRow_base hown' (show B ≤ B + 5 by omega)) hgrow; have hc1 := hv1.cell; have hf1 := hv1.frozen; have b0' := ((b0.alloc _).kept hgrow (ownsRow_not hown (by omega))).other (show B ≠ B + 1 by omega) (.slice (some ⟨g', 0, none⟩) (pre.length + 1) cap'); have b3' := ((b3.alloc _).kept hgrow (ownsRow_not hown (by omega))).other (show B + 3 ≠ B + 1 by omega) (.slice (some ⟨g', 0, none⟩) (pre.length + 1) cap'); have c0' := b0'.cell; have f3' := b3'.frozen; have c3' := b3'.cell; have hc2 := hv2.cell; have b4' := ((b4.alloc _).kept hgrow (ownsRow_not hown (by omega))).other (show B + 4 ≠ B + 1 by omega) (.slice (some ⟨g', 0, none⟩) (pre.length + 1) cap'); have hkb : KeepsBox (B + 2) s W (w1.setCell ⟨B + 1, 0, none⟩ (.slice (some ⟨g', 0, none⟩) (pre.length + 1) cap')) := fun hb => (((hb.alloc _).kept hgrow (ownsRow_not hown (by omega))).other (by omega) _); have hr5 := hown'.kept (grownBy_setCell' w1 (B + 1) (.slice (some ⟨g', 0, none⟩) (pre.length + 1) cap')) (.inr (hv1.not_row (by decide) hown').symm); have hs1 := hgrow.size)
  go_ret
  refine ⟨rfl, ⟨b0'.other (by omega) _, ⟨_, hv2.other (by omega) _, ?_⟩, b3'.set _, b4'.other (by omega) _, (hB.trans hb2).setCell (p := ⟨B + 3, 0, none⟩) (by simp) _, hB0, ?_⟩, fun hb => (hkb hb).other (by omega) _⟩
  · have := hr5.kept (grownBy_setCell' _ (B + 3) (.bool (decide (n ≤ (pre.length : Int) + 1)))) (.inr (ownsRow_not hr5 (show B + 3 < B + 5 by omega)).symm)
    simpa using this
  · simp at hs1 ⊢
    omega

set_option maxHeartbeats 1000000 in
theorem first_any (s : Nat) (n : Int) (w : World) (hs : U64 s) (hn : 1 ≤ n) :
    Calls Try.prog 17 #[.int .u64 s, .int .i64 n] w fun e w' => MadeInts w ((listN s).take n.toNat) e w' := by
  have hnf : ∀ (c : Value) (w : World), (binOp .eql 50 (.func (.func 39) #[] #[c]) .nilFunc).run Try.prog w = .ok (.bool false) w := fun _ _ => by kernel_rfl
  go_enter Try.func17, Try.ntmps17
  go_wp2_with fail
  refine (callsIn_wide.1 (all_in 9 _ _)).mono ?_
  rintro e w' ⟨rfl, rfl⟩
  go_wp2_with fail
  have hF : Firsts w w.heap.size n false [] (((((w.alloc (.cells #[.int .i64 n] 3)).alloc (.cells #[.slice none 0 0] 22)).alloc (.cells #[.int .u64 s] 25)).alloc (.cells #[.bool false] 4)).alloc (.cells #[.bool false] 4)) := by
    have b0 := Boxed.new w 3 (.int .i64 n)
    have b1 := Boxed.new (w.alloc (.cells #[.int .i64 n] 3)) 22 (.slice none 0 0)
    have b3 := Boxed.new (((w.alloc (.cells #[.int .i64 n] 3)).alloc (.cells #[.slice none 0 0] 22)).alloc (.cells #[.int .u64 s] 25)) 4 (.bool false)
    have b4 := Boxed.new ((((w.alloc (.cells #[.int .i64 n] 3)).alloc (.cells #[.slice none 0 0] 22)).alloc (.cells #[.int .u64 s] 25)).alloc (.cells #[.bool false] 4)) 4 (.bool false)
    simp only [World.size_alloc] at b1 b3 b4
    exact ⟨(((b0.alloc _).alloc _).alloc _).alloc _, ⟨_, ((b1.alloc _).alloc _).alloc _, World.ownsRow_nil _ _ _ _⟩, b3.alloc _, b4, (((((Below.refl _ w).alloc (Nat.le_refl _) _).alloc (by simp) _).alloc (by simp; omega) _).alloc (by simp; omega) _).alloc (by simp; omega) _, Nat.le_refl _, by simp⟩
  have hbx : Boxed (((((w.alloc (.cells #[.int .i64 n] 3)).alloc (.cells #[.slice none 0 0] 22)).alloc (.cells #[.int .u64 s] 25)).alloc (.cells #[.bool false] 4)).alloc (.cells #[.bool false] 4)) (w.heap.size + 1 + 1) 25 (.int .u64 s) := by
    have b2 := Boxed.new ((w.alloc (.cells #[.int .i64 n] 3)).alloc (.cells #[.slice none 0 0] 22)) 25 (.int .u64 s)
    simp only [World.size_alloc] at b2
    exact (b2.alloc _).alloc _
  generalize (((((w.alloc (.cells #[.int .i64 n] 3)).alloc (.cells #[.slice none 0 0] 22)).alloc (.cells #[.int .u64 s] 25)).alloc (.cells #[.bool false] 4)).alloc (.cells #[.bool false] 4)) = W0 at hF hbx ⊢
  refine (all1_fn (w.heap.size + 1 + 1) s hs _ _ _ _ (fun pre W => Firsts w w.heap.size n false pre W ∧ (pre.length : Int) < n) (fun pre W => Firsts w w.heap.size n true pre W ∧ (pre.length : Int) = n) ?_ W0 hbx ⟨hF, by simp; omega⟩).mono ?_
  · rintro pre x W ⟨h, hlt⟩ h64
    refine (first1_any w w.heap.size n s pre x W h h64).mono ?_
    rintro e W' ⟨rfl, h', hk⟩
    by_cases hle : n ≤ ((pre.length + 1 : Nat) : Int)
    · simp only [hle, decide_true] at h' ⊢
      exact .inr ⟨rfl, h', by simp; omega⟩
    · simp only [hle, decide_false] at h' ⊢
      exact .inl ⟨rfl, ⟨h', by simp; omega⟩, hk⟩
  · rintro e W1 ⟨rfl, h⟩
    obtain ⟨ov, pre, hpre, b0, ⟨v, b1, hown⟩, b3, b4, hB, _, _⟩ : ∃ ov pre, Hid (pre = (listN s).take n.toNat) ∧ Firsts w w.heap.size n ov pre W1 := by
      rcases h with ⟨h, hl⟩ | ⟨pre, ⟨r, hr⟩, h, hl⟩
      · exact ⟨_, _, Lib.hid (by rw [List.take_of_length_le (by omega)]), h⟩
      · refine ⟨_, pre, Lib.hid ?_, h⟩
        rw [← hr, List.take_left' (by omega)]
    have c1 := b1.cell
    have c4 := b4.cell
    clear hF hbx h
    go_wp2_with fail
    go_ret
    rw [← hpre.out]
    exact MadeInts.mk hown hB
end Go.Proofs.Ythcdiddiemkjnaa
