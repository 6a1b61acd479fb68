/-
  Package pareto: whether a vector is below another one, dominates it; their order.
-/
import Derived.Test.YtgcngipbjkmdoaaRows
import Derived.Test.YtgcngipbjkmdoaaVec
import Derived.Test.YtgcngipbjkmdoaaMem
import Derived.Test.YtgcngipbjkmdoaaVeq
import Derived.WalkSpells
import Derived.WalkLawsBesides
import Derived.Deep.QuietTactic
import Derived.BigQuiet
namespace Go.Proofs.Ytgcngipbjkmdoaa
open Go.RowKit
open Vec (V vi leV eqV domV ltV cmpV)

/-- a box that holds a vector -/
def VBox (w : World) (b : Nat) (x : V) : Prop := ∀ k, k < 4 → w.cell? ⟨b, k, none⟩ = some (.int .i64 (vi x k))

theorem VBox.new (w : World) (t : TypeId) (x : V) : VBox (w.alloc (.cells #[.int .i64 (vi x 0), .int .i64 (vi x 1), .int .i64 (vi x 2), .int .i64 (vi x 3)] t)) w.heap.size x := by
  intro k hk
  rw [World.cell?_alloc_at _ _ _ _ rfl]
  match k, hk with
  | 0, _ => rfl
  | 1, _ => rfl
  | 2, _ => rfl
  | 3, _ => rfl
theorem VBox.keep {w w' : World} {b : Nat} {x : V} (h : VBox w b x) (hw : ∀ k, w'.cell? ⟨b, k, none⟩ = w.cell? ⟨b, k, none⟩) : VBox w' b x := fun k hk => (hw k).trans (h k hk)
theorem VBox.alloc {w : World} {b : Nat} {x : V} (h : VBox w b x) (hb : b < w.heap.size) (o : Obj) : VBox (w.alloc o) b x := h.keep fun _ => World.cell?_alloc_lt _ _ _ hb

set_option maxHeartbeats 1000000 in
theorem below_any (x y : V) (w : World) :
    Calls Try.prog 30 #[.agg #[.int .i64 (vi x 0), .int .i64 (vi x 1), .int .i64 (vi x 2), .int .i64 (vi x 3)], .agg #[.int .i64 (vi y 0), .int .i64 (vi y 1), .int .i64 (vi y 2), .int .i64 (vi y 3)]] w fun e w' => e = .returned (.bool (leV x y)) ∧ Below w.heap.size w w' := by
  have r := Nat.le_refl w.heap.size
  go_enter Try.func30, Try.ntmps30
  go_wp2
  have hb : Below w.heap.size w ((w.alloc (.cells #[.int .i64 (vi x 0), .int .i64 (vi x 1), .int .i64 (vi x 2), .int .i64 (vi x 3)] 23)).alloc (.cells #[.int .i64 (vi y 0), .int .i64 (vi y 1), .int .i64 (vi y 2), .int .i64 (vi y 3)] 23)) := balloc (balloc (Below.refl _ w) _ r) _ r
  have hx := (VBox.new w 23 x).alloc (by simp) (.cells #[.int .i64 (vi y 0), .int .i64 (vi y 1), .int .i64 (vi y 2), .int .i64 (vi y 3)] 23)
  have hy := VBox.new (w.alloc (.cells #[.int .i64 (vi x 0), .int .i64 (vi x 1), .int .i64 (vi x 2), .int .i64 (vi x 3)] 23)) 23 y
  rw [World.size_alloc] at hy
  generalize ((w.alloc (.cells #[.int .i64 (vi x 0), .int .i64 (vi x 1), .int .i64 (vi x 2), .int .i64 (vi x 3)] 23)).alloc (.cells #[.int .i64 (vi y 0), .int .i64 (vi y 1), .int .i64 (vi y 2), .int .i64 (vi y 3)] 23)) = W0 at hb hx hy ⊢
  have HX := Lib.hid hx
  have HY := Lib.hid hy
  clear hx hy
  go_loopw [6] (fun i wr => ∃ k q : Nat, k ≤ 4 ∧ i = .int .i64 k ∧ wr = W0.drewN q ∧ ∀ j, j < k → vi x j ≤ vi y j) (fun i _ => 4 - (intOf i).toNat)
  case atStart => exact ⟨0, 0, by omega, rfl, rfl, fun j h => absurd h (by omega)⟩
  case round =>
    obtain ⟨k, q, hk, rfl, rfl, hall⟩ := hrel
    have HA := Lib.hid hall
    clear hall
    by_cases hlt : k < 4
    · have c1 := HX.out k hlt
      have c2 := HY.out k hlt
      have k0 : (0 : Int) ≤ (k : Int) := by omega
      have k4 : (k : Int) < 4 := by omega
      by_cases hle : vi y k < vi x k
      · have hd : decide (vi y k < vi x k) = true := by simpa using hle
        have HL := Lib.hid (Vec.leV_not hlt hle)
        go_wp2
        go_quiet (fail)
        go_wp2
        go_ret
        exact ⟨ret_bool HL.out.symm, by simpa using bdrewN hb _⟩
      · have hd : decide (vi y k < vi x k) = false := by simpa using hle
        go_wp2
        go_quiet (fail)
        go_wp2
        go_roundw
        case rel => exact ⟨k + 1, _, by omega, by go_num, rfl, fun j hj => by
          by_cases e : j = k
          · subst e; omega
          · exact HA.out j (by omega)⟩
        case measure => simp [intOf]; omega
    · go_wp2
      go_ret
      exact ⟨ret_bool (Vec.leV_all (fun j hj => HA.out j (by omega))).symm, bdrewN hb _⟩
theorem infoInt : (Try.prog.info? 3).map (fun i => (i.zero, i.size, i.bytes)) = some (some (.int .i64 0), 1, 8) := by kernel_rfl
theorem cellsInt : Try.prog.cellsOf 3 = 1 := by kernel_rfl
theorem eqV_run (x y : V) (w : World) : (binOp .eql 23 (.agg #[.int .i64 (vi x 0), .int .i64 (vi x 1), .int .i64 (vi x 2), .int .i64 (vi x 3)]) (.agg #[.int .i64 (vi y 0), .int .i64 (vi y 1), .int .i64 (vi y 2), .int .i64 (vi y 3)])).run Try.prog w = .ok (.bool (eqV x y)) w := by
  obtain ⟨i0, hi, _, _, _⟩ := info_parts infoInt
  exact run_eql_vec w Try.underlying23 Try.underlying3 hi cellsInt x y
theorem neV_run (x y : V) (w : World) : (binOp .neq 23 (.agg #[.int .i64 (vi x 0), .int .i64 (vi x 1), .int .i64 (vi x 2), .int .i64 (vi x 3)]) (.agg #[.int .i64 (vi y 0), .int .i64 (vi y 1), .int .i64 (vi y 2), .int .i64 (vi y 3)])).run Try.prog w = .ok (.bool (!eqV x y)) w := by
  obtain ⟨i0, hi, _, _, _⟩ := info_parts infoInt
  exact run_neq_vec w Try.underlying23 Try.underlying3 hi cellsInt x y

set_option maxHeartbeats 1000000 in
theorem dom_any (x y : V) (w : World) :
    Calls Try.prog 9 #[.agg #[.int .i64 (vi x 0), .int .i64 (vi x 1), .int .i64 (vi x 2), .int .i64 (vi x 3)], .agg #[.int .i64 (vi y 0), .int .i64 (vi y 1), .int .i64 (vi y 2), .int .i64 (vi y 3)]] w fun e w' => e = .returned (.bool (domV x y)) ∧ Below w.heap.size w w' := by
  have r := Nat.le_refl w.heap.size
  have hne := neV_run x y
  have hb : Below w.heap.size w ((w.alloc (.cells #[.int .i64 (vi x 0), .int .i64 (vi x 1), .int .i64 (vi x 2), .int .i64 (vi x 3)] 23)).alloc (.cells #[.int .i64 (vi y 0), .int .i64 (vi y 1), .int .i64 (vi y 2), .int .i64 (vi y 3)] 23)) := balloc (balloc (Below.refl _ w) _ r) _ r
  have HB := Lib.hid hb
  clear hb
  cases he : eqV x y
  · have HD : Hid (domV x y = leV x y) := Lib.hid (by unfold domV; rw [he]; rfl)
    go_enter Try.func9, Try.ntmps9
    go_wp2_with fail
    refine (below_any _ _ _).mono ?_
    rintro e w1 ⟨rfl, hb1⟩
    go_wp2_with fail
    go_ret
    exact ⟨ret_bool (by rw [HD.out]), bthen HB.out hb1 r⟩
  · have HD : Hid (domV x y = false) := Lib.hid (by unfold domV; rw [he]; rfl)
    go_enter Try.func9, Try.ntmps9
    go_wp2_with fail
    go_ret
    exact ⟨ret_bool (by rw [HD.out]), HB.out⟩

set_option maxHeartbeats 1000000 in
theorem cmp_any (x y : V) (w : World) :
    Calls Try.prog 11 #[.agg #[.int .i64 (vi x 0), .int .i64 (vi x 1), .int .i64 (vi x 2), .int .i64 (vi x 3)], .agg #[.int .i64 (vi y 0), .int .i64 (vi y 1), .int .i64 (vi y 2), .int .i64 (vi y 3)]] w fun e w' => e = .returned (.int .i64 (cmpV x y)) ∧ Below w.heap.size w w' := by
  have r := Nat.le_refl w.heap.size
  have hne := eqV_run x y
  have hb : Below w.heap.size w ((w.alloc (.cells #[.int .i64 (vi x 0), .int .i64 (vi x 1), .int .i64 (vi x 2), .int .i64 (vi x 3)] 23)).alloc (.cells #[.int .i64 (vi y 0), .int .i64 (vi y 1), .int .i64 (vi y 2), .int .i64 (vi y 3)] 23)) := balloc (balloc (Below.refl _ w) _ r) _ r
  have HB := Lib.hid hb
  clear hb
  cases he : eqV x y
  · go_enter Try.func11, Try.ntmps11
    go_wp2
    have hb := HB.out
    have hx := (VBox.new w 23 x).alloc (by simp) (.cells #[.int .i64 (vi y 0), .int .i64 (vi y 1), .int .i64 (vi y 2), .int .i64 (vi y 3)] 23)
    have hy := VBox.new (w.alloc (.cells #[.int .i64 (vi x 0), .int .i64 (vi x 1), .int .i64 (vi x 2), .int .i64 (vi x 3)] 23)) 23 y
    rw [World.size_alloc] at hy
    clear HB hne
    generalize ((w.alloc (.cells #[.int .i64 (vi x 0), .int .i64 (vi x 1), .int .i64 (vi x 2), .int .i64 (vi x 3)] 23)).alloc (.cells #[.int .i64 (vi y 0), .int .i64 (vi y 1), .int .i64 (vi y 2), .int .i64 (vi y 3)] 23)) = W0 at hb hx hy ⊢
    have HX := Lib.hid hx
    have HY := Lib.hid hy
    clear hx hy
    go_loopw [9] (fun i wr => ∃ k q : Nat, k ≤ 4 ∧ i = .int .i64 k ∧ wr = W0.drewN q ∧ ∀ j, j < k → vi x j = vi y j) (fun i _ => 4 - (intOf i).toNat)
    case atStart => exact ⟨0, 0, by omega, rfl, rfl, fun j h => absurd h (by omega)⟩
    case round =>
      obtain ⟨k, q, hk, rfl, rfl, hall⟩ := hrel
      have HA := Lib.hid hall
      clear hall
      by_cases hlt : k < 4
      · have c1 := HX.out k hlt
        have c2 := HY.out k hlt
        have k0 : (0 : Int) ≤ (k : Int) := by omega
        have k4 : (k : Int) < 4 := by omega
        rcases (show vi x k < vi y k ∨ vi y k < vi x k ∨ vi x k = vi y k from by omega) with h | h | h
        · have HL := Lib.hid (Vec.cmp_lt hlt HA.out h)
          have hd : decide (vi x k < vi y k) = true := by simpa using h
          go_wp2
          go_quiet (fail)
          go_wp2
          go_ret
          exact ⟨ret_int HL.out.symm, by simpa using bdrewN hb _⟩
        · have HL := Lib.hid (Vec.cmp_gt hlt HA.out h)
          have hd : decide (vi x k < vi y k) = false := by simp; omega
          have hd2 : decide (vi y k < vi x k) = true := by simpa using h
          go_wp2
          go_quiet (fail)
          go_wp2
          go_quiet (fail)
          go_wp2
          go_ret
          exact ⟨ret_int HL.out.symm, by simpa using bdrewN hb _⟩
        · have hd : decide (vi x k < vi y k) = false := by simp; omega
          have hd2 : decide (vi y k < vi x k) = false := by simp; omega
          have HE := Lib.hid h
          clear h
          go_wp2
          go_quiet (fail)
          go_wp2
          go_quiet (fail)
          go_wp2
          go_roundw
          case rel => exact ⟨k + 1, _, by omega, by go_num, rfl, fun j hj => by
            by_cases e : j = k
            · subst e; exact HE.out
            · exact HA.out j (by omega)⟩
          case measure => simp [intOf]; omega
      · go_wp2
        go_ret
        exact ⟨ret_int (Vec.cmp_all (fun j hj => HA.out j (by omega))).symm, bdrewN hb _⟩
  · have HD : Hid (cmpV x y = 0) := Lib.hid (Vec.cmp_eq (by simpa [eqV] using he))
    go_enter Try.func11, Try.ntmps11
    go_wp2
    go_ret
    exact ⟨ret_int (by rw [HD.out]), HB.out⟩
end Go.Proofs.Ytgcngipbjkmdoaa
