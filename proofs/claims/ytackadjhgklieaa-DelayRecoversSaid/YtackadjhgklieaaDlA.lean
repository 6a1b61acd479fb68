/-
  A delay within the slack changes nothing but the arrival there: the walk.
-/
import Derived.Test.YtackadjhgklieaaDlW
namespace Go.Proofs.Ytackadjhgklieaa
open Go.RowKit

theorem nA_later {xs : List Call} {a : Nat} {s : Int} (h : ∀ i, a ≤ i → i < xs.length → (gc xs i).arr + dwellI (gc xs i) ≤ (gc xs i).dep) (h0 : nA xs a s 0 + dwellI (gc xs a) ≤ (gc xs a).dep) :
    ∀ j, a + j < xs.length → nD xs a s j = (gc xs (a + j)).dep ∧ (0 < j → nA xs a s j = (gc xs (a + j)).arr)
  | 0, _ => ⟨nD_ge (by rw [Nat.add_zero]; omega), fun h => absurd h (by omega)⟩
  | j + 1, hj => by
    have h1 := (nA_later h h0 j (by omega)).1
    have h2 : nA xs a s (j + 1) = (gc xs (a + (j + 1))).arr := by
      rw [nA_succ, h1]
      show (gc xs (a + j + 1)).arr + _ - _ = (gc xs (a + j + 1)).arr
      omega
    have h3 := h (a + (j + 1)) (by omega) hj
    exact ⟨nD_ge (by rw [h2]; omega), fun _ => h2⟩
theorem absorbs {xs : List Call} {at_ s : Int} (h : propE xs at_ s = 0) : ∃ a : Nat, at_ = (a : Int) ∧ a < xs.length ∧ slackB xs at_ = true ∧ 0 ≤ slackI xs at_ ∧ (propL xs at_ s).length = xs.length ∧
    (slackI xs at_ < s → (gc xs a).dep < (gc (propL xs at_ s) a).dep) ∧
    (s ≤ slackI xs at_ → (∀ i, i < xs.length → i ≠ a → gc (propL xs at_ s) i = gc xs i) ∧
      (⟨(gc (propL xs at_ s) a).stop, (gc xs a).arr, (gc (propL xs at_ s) a).dep, (gc (propL xs at_ s) a).board, (gc (propL xs at_ s) a).alight⟩ : Call) = gc xs a) := by
  obtain ⟨a, rfl, ha, hs1, hs2, ho, ht, e1⟩ := prop_zero h
  obtain ⟨sl, sb⟩ := slack_ok (xs := xs) rfl ha ho
  have hk := ord_inv rfl ho
  have hb := ok_bounds hk ha
  have hd := dwell_bounds (c := gc xs a) hb.2.1
  rw [e1, cur_len, sl]
  refine ⟨a, rfl, ha, sb, by omega, rfl, fun hlt => ?_, fun hle => ?_⟩
  · rw [cur_at ha, if_pos ha, late_at (Nat.le_refl a)]
    show _ < depI xs a s a
    have h1 : arrI xs a s a = (gc xs a).arr + s := by rw [arr_first, if_neg (by omega)]
    rw [dep_lt (Nat.le_refl a) (by rw [h1]; omega), h1]
    omega
  · have h0 : nA xs a s 0 + dwellI (gc xs a) ≤ (gc xs a).dep := by
      unfold nA
      split <;> omega
    have hall : ∀ i, a ≤ i → i < xs.length → (gc xs i).arr + dwellI (gc xs i) ≤ (gc xs i).dep := fun i _ hi => by
      have h1 := ok_bounds hk hi
      have h2 := dwell_bounds (c := gc xs i) h1.2.1
      omega
    refine ⟨fun i hi hne => ?_, ?_⟩
    · rw [cur_at hi, if_pos hi]
      unfold lateC
      by_cases e : i < a
      · rw [if_pos e]
      · rw [if_neg e]
        obtain ⟨h1, h2⟩ := nA_later hall h0 (i - a) (by omega)
        rw [h1, h2 (by omega), show a + (i - a) = i by omega]
    · rw [cur_at ha, if_pos ha]
      unfold lateC
      rw [if_neg (by omega)]
      obtain ⟨h1, _⟩ := nA_later hall h0 (a - a) (by omega)
      rw [h1, show a + (a - a) = a by omega]
/-- a boxed call, its arrival to be written -/
def BoxA (u : World) (B : Nat) (x : Call) : Prop := Box5 u B x ∧ u.frozen? ⟨B, 1, none⟩ = false
theorem BoxA.new (w : World) (x : Call) (t : TypeId) : BoxA (w.alloc (.cells #[.int .i64 x.stop, .int .i64 x.arr, .int .i64 x.dep, .bool x.board, .bool x.alight] t)) w.heap.size x := ⟨Box5.new _ _ _ _ rfl, by
  unfold World.frozen?
  rw [show (w.alloc _).heap[w.heap.size]? = _ from heap_alloc_new w _]
  rfl⟩
theorem BoxA.setArr {w : World} {B : Nat} {x y : Call} (h : BoxA w B x) {v : Int} (hy : (⟨x.stop, v, x.dep, x.board, x.alight⟩ : Call) = y) : Box5 (w.setCell ⟨B, 1, none⟩ (.int .i64 v)) B y := by
  subst hy
  obtain ⟨h0, h1, h2, h3, h4⟩ := h.1
  have f : ∀ (j : Nat) (u : Value), j ≠ 1 → w.cell? ⟨B, j, none⟩ = some u → (w.setCell ⟨B, 1, none⟩ (.int .i64 v)).cell? ⟨B, j, none⟩ = some u := fun j u hj hu => (World.cell?_setCell_other w ⟨B, 1, none⟩ ⟨B, j, none⟩ _ (fun e => by injection e with _ e; exact hj e.symm)).trans hu
  exact ⟨f 0 _ (by omega) h0, World.cell?_setCell_same w ⟨B, 1, none⟩ _ h1, f 2 _ (by omega) h2, f 3 _ (by omega) h3, f 4 _ (by omega) h4⟩

set_option maxRecDepth 100000 in
set_option maxHeartbeats 1000000 in
theorem absorbs_walk (A : Option Addr) (n c : Nat) (xs : List Call) (at_ s : Int) (w : World) (hx : SAt callC w A n xs) (_g : AnyC xs) (_h1 : I64 at_) (_h2 : I64 s) :
    Calls Try.prog 8 #[.slice A n c, .int .i64 at_, .int .i64 s] w fun e w' => e = .returned (.bool true) ∧ Below w.heap.size w w' := by
  have r := Nat.le_refl w.heap.size
  have R := Lib.hid hx
  have HL := Lib.hid hx.1
  have HB := Lib.hid (Below.refl w.heap.size w)
  clear hx
  by_cases h40 : (40 : Int) < (n : Int)
  · go_enter Try.func8, Try.ntmps8
    go_wp2_with fail
    refine (example_any _).mono ?_
    rintro e w1 ⟨rfl, hb⟩
    have HB := Lib.hid (bthen HB.out hb r)
    clear hb
    go_wp2
    go_ret
    exact ⟨rfl, HB.out⟩
  have hn : n ≤ 1000 := by omega
  have hp := fun A c w h => prop_any A n c xs at_ s w h hn
  have hs := fun A c w h => slack_any A n c xs at_ w h hn
  by_cases hz : propE xs at_ s = 0
  · obtain ⟨a, rfl, ha, sb, s0, ll, hgt, hle⟩ := absorbs hz
    rw [HL.out] at ha
    obtain ⟨L, hL⟩ : ∃ L, L = propL xs a s := ⟨_, rfl⟩
    obtain ⟨k, hk⟩ : ∃ k, k = slackI xs a := ⟨_, rfl⟩
    rw [← hL, HL.out] at ll
    rw [← hL, ← hk] at hgt hle
    rw [← hk] at s0
    simp only [PropRet, hz, ← hL, ll] at hp
    simp only [sb, ← hk] at hs
    have HG := Lib.hid hgt
    have HE := Lib.hid hle
    have a0 : (0 : Int) ≤ (a : Int) := by omega
    have an : (a : Int) < (n : Int) := by omega
    clear hgt hle ll sb hL hk hz
    go_enter Try.func8, Try.ntmps8
    go_wp2_with fail
    refine (hs _ _ _ R.out).mono ?_
    rintro e w1 ⟨rfl, hb⟩
    have R := Lib.hid (R.out.stays hb)
    have HB := Lib.hid (bthen HB.out hb r)
    clear hb
    go_wp2_with fail
    refine (hp _ _ _ R.out).mono ?_
    rintro e w2 ⟨va, rfl, hr, hb⟩
    obtain ⟨Aa, ca, rfl, hca⟩ := ownsRow_slice hr
    have R := Lib.hid (R.out.stays hb)
    have HB := Lib.hid (bthen HB.out hb r)
    have Ra := Lib.hid (show SAt callC _ _ _ _ from SAt.own hr (by decide))
    clear hr hb hp hs
    obtain ⟨b, o, hA, _⟩ := R.out.at_ ha
    subst hA
    obtain ⟨b', o', hA, _⟩ := Ra.out.at_ ha
    subst hA
    by_cases hks : k < s
    · obtain ⟨_, _, c2, _, _⟩ := call_cells R.out ha
      obtain ⟨_, _, d2, _, _⟩ := call_cells Ra.out ha
      have hlt := HG.out hks
      have hS : w2.drew.cell? ⟨b, o + a * 5 + 2, none⟩ = some (.int .i64 (gc xs a).dep) ∧ w2.drew.cell? ⟨b', o' + a * 5 + 2, none⟩ = some (.int .i64 (gc L a).dep) := ⟨c2, d2⟩
      have HB := Lib.hid (show Below w.heap.size w w2.drew from bdrewN HB.out 1)
      clear c2 d2
      go_upto_region 10 with fail
      go_region_held3 (fun u => u.cell? ⟨b, o + a * 5 + 2, none⟩ = some (.int .i64 (gc xs a).dep) ∧ u.cell? ⟨b', o' + a * 5 + 2, none⟩ = some (.int .i64 (gc L a).dep)) (exact hS) ((first | exact hS | (go_simp; go_at_call 10; (with_reducible refine (example_any _).mono ?_); rintro e w3 ⟨rfl, hb⟩; have HB := Lib.hid (bthen HB.out hb r); have hS := And.intro ((hb.cell (cell?_block_lt hS.1)).trans hS.1) ((hb.cell (cell?_block_lt hS.2)).trans hS.2))))
      all_goals go_wp2
      all_goals go_ret
      all_goals exact ⟨rfl, HB.out⟩
    · obtain ⟨HEo, HEa⟩ := HE.out (by omega)
      have HEo := Lib.hid HEo
      have HEa := Lib.hid HEa
      clear HE HG
      go_wp2
      go_loopw [11] (fun i wr => ∃ j : Nat, j ≤ n ∧ i = .int .i64 j ∧ Hid (SAt callC wr (some ⟨b, o, none⟩) n xs) ∧ Hid (SAt callC wr (some ⟨b', o', none⟩) n L) ∧ Hid (Below w.heap.size w wr)) (fun i _ => n - (intOf i).toNat)
      case atStart => exact ⟨0, by omega, rfl, R, Ra, HB⟩
      case round =>
        clear R Ra HB
        obtain ⟨j, hj, rfl, R, Ra, HB⟩ := hrel
        by_cases hlt : j < n
        · have hlt' : (j : Int) < (n : Int) := by omega
          have hj0 : (0 : Int) ≤ (j : Int) := by omega
          obtain ⟨d0, d1, d2, d3, d4⟩ := call_cells Ra.out hlt
          have hne := neq_call (gc xs j) (gc xs j)
          rw [show eqC (gc xs j) (gc xs j) = true from eqC_iff.2 rfl] at hne
          go_upto_region 15 with fail
          obtain ⟨W0, hW0⟩ : ∃ W0, W0 = wr.alloc (.cells #[.int .i64 (gc L j).stop, .int .i64 (gc L j).arr, .int .i64 (gc L j).dep, .bool (gc L j).board, .bool (gc L j).alight] 41) := ⟨_, rfl⟩
          rw [← hW0]
          have X0 : Hid (BoxA W0 wr.heap.size (gc L j)) := Lib.hid (by rw [hW0]; exact BoxA.new _ _ _)
          have B0 : Hid (Below wr.heap.size wr W0) := Lib.hid (by rw [hW0]; exact balloc (Below.refl _ _) _ (Nat.le_refl _))
          clear hW0 d0 d1 d2 d3 d4
          by_cases hja : j = a
          · subst hja
            obtain ⟨_, c1, _, _, _⟩ := call_cells (R.out.stays B0.out) hlt
            have fr := X0.out.2
            have y1 := X0.out.1.2.1
            go_upto_region 17 with fail
            obtain ⟨W1, hW1⟩ : ∃ W1, W1 = W0.setCell ⟨wr.heap.size, 1, none⟩ (.int .i64 (gc xs j).arr) := ⟨_, rfl⟩
            rw [← hW1]
            have X1 : Hid (Box5 W1 wr.heap.size (gc xs j)) := Lib.hid (by rw [hW1]; exact X0.out.setArr HEa.out)
            have B1 : Hid (Below wr.heap.size wr W1) := Lib.hid (by rw [hW1]; exact B0.out.setCell (Nat.le_refl _) _)
            clear hW1 c1 fr y1
            obtain ⟨x0, x1, x2, x3, x4⟩ := X1.out
            obtain ⟨c0, c1, c2, c3, c4⟩ := call_cells (R.out.stays B1.out) hlt
            have R2 := Lib.hid (R.out.stays B1.out)
            have Ra2 := Lib.hid (Ra.out.stays B1.out)
            have HB2 := Lib.hid (bthen HB.out B1.out r)
            clear R Ra HB B1 X1 X0 B0
            go_wp2
            go_quiet (fail)
            go_wp2
            go_roundw
            case rel => exact ⟨j + 1, by omega, by go_num, Lib.hid (R2.out.drewN _), Lib.hid (Ra2.out.drewN _), Lib.hid (bdrewN HB2.out _)⟩
            case measure => simp [intOf]; omega
          · have hja' : ¬ (j : Int) = (a : Int) := by omega
            have X1 : Hid (Box5 W0 wr.heap.size (gc xs j)) := Lib.hid (by rw [← HEo.out j (by rw [HL.out]; exact hlt) hja]; exact X0.out.1)
            have B1 := B0
            go_upto_region 17 with fail
            obtain ⟨x0, x1, x2, x3, x4⟩ := X1.out
            obtain ⟨c0, c1, c2, c3, c4⟩ := call_cells (R.out.stays B1.out) hlt
            have R2 := Lib.hid (R.out.stays B1.out)
            have Ra2 := Lib.hid (Ra.out.stays B1.out)
            have HB2 := Lib.hid (bthen HB.out B1.out r)
            clear R Ra HB B1 X1 X0 B0
            go_wp2
            go_quiet (fail)
            go_wp2
            go_roundw
            case rel => exact ⟨j + 1, by omega, by go_num, Lib.hid (R2.out.drewN _), Lib.hid (Ra2.out.drewN _), Lib.hid (bdrewN HB2.out _)⟩
            case measure => simp [intOf]; omega
        · obtain rfl : j = n := by omega
          have hd : ¬ ((j : Int) < (j : Int)) := by omega
          go_wp2_with fail
          refine (example_any _).mono ?_
          rintro e w6 ⟨rfl, hb⟩
          have HB := Lib.hid (bthen HB.out hb r)
          clear hb
          go_wp2
          go_ret
          exact ⟨rfl, HB.out⟩
  · obtain ⟨e1, he1⟩ : ∃ e, e = propE xs at_ s := ⟨_, rfl⟩
    simp only [PropRet, ← he1] at hp
    rw [← he1] at hz
    clear he1
    obtain ⟨k, hk⟩ : ∃ k, k = slackB xs at_ := ⟨_, rfl⟩
    simp only [← hk] at hs
    clear hk
    cases k <;> (
      go_enter Try.func8, Try.ntmps8
      go_wp2_with fail
      refine (hs _ _ _ R.out).mono ?_
      rintro e w1 ⟨rfl, hb⟩
      have R := Lib.hid (R.out.stays hb)
      have HB := Lib.hid (bthen HB.out hb r)
      clear hb
      go_wp2_with fail
      refine (hp _ _ _ R.out).mono ?_
      rintro e w2 ⟨va, rfl, hr, hb⟩
      have HB := Lib.hid (bthen HB.out hb r)
      clear hr hb hp hs R
      go_wp2_with fail
      refine (example_any _).mono ?_
      rintro e w6 ⟨rfl, hb⟩
      have HB := Lib.hid (bthen HB.out hb r)
      clear hb
      go_wp2
      go_ret
      exact ⟨rfl, HB.out⟩)
end Go.Proofs.Ytackadjhgklieaa
