/-
  Equality of calls; Same.
-/
import Derived.Test.YtackadjhgklieaaDl3
import Derived.Laws.StructEq
namespace Go.Proofs.Ytackadjhgklieaa
open Go.RowKit

/-- are two calls the same? -/
def eqC (x y : Call) : Bool := decide (x.stop = y.stop ∧ x.arr = y.arr ∧ x.dep = y.dep ∧ x.board = y.board ∧ x.alight = y.alight)
theorem eqC_iff {x y : Call} : eqC x y = true ↔ x = y := by
  unfold eqC
  rw [decide_eq_true_eq]
  constructor
  · rintro ⟨h1, h2, h3, h4, h5⟩
    cases x
    cases y
    simp at h1 h2 h3 h4 h5
    subst h1 h2 h3 h4 h5
    rfl
  · rintro rfl
    exact ⟨rfl, rfl, rfl, rfl, rfl⟩
theorem call_fields : Try.prog.underlying 41 = some (.struct (Try.prog.fieldsOf 41)) := by kernel_rfl
theorem eqFields_step {P : Program} (w : World) (d : Nat) (xs ys : Array Value) (f : Field) (fs : List Field) (a b : Value) (r : Bool) (hn : f.name ≠ "_") (ha : (part f.type xs f.offset).run P w = .ok a w) (hb : (part f.type ys f.offset).run P w = .ok b w)
    (hr : (Op.equalIn d f.type a b).run P w = .ok r w) : (Op.eqFields d xs ys (f :: fs)).run P w = if r then (Op.eqFields d xs ys fs).run P w else .ok false w := by
  rw [Op.eqFields, if_pos hn]
  simp only [Sem.run_bind, ha, hb, hr, Result.andThen_ok]
  cases r <;> simp
theorem part_int {P : Program} (w : World) {e : TypeId} {k : IntKind} (he : P.underlying e = some (.int k)) (xs : Array Value) (j : Nat) (v : Value) (hv : xs[j]? = some v) : (part e xs j).run P w = .ok v w := by
  simp [part, isAgg, run_underlying he, hv]
theorem part_bool {P : Program} (w : World) {e : TypeId} (he : P.underlying e = some .bool) (xs : Array Value) (j : Nat) (v : Value) (hv : xs[j]? = some v) : (part e xs j).run P w = .ok v w := by
  simp [part, isAgg, run_underlying he, hv]
set_option maxHeartbeats 2000000 in
theorem eq_call (x y : Call) (w : World) : (Op.equalIn 10000 41 (.agg (ca x)) (.agg (ca y))).run Try.prog w = .ok (eqC x y) w := by
  rw [run_equalIn_struct w 9999 _ _ _ call_fields (by kernel_rfl)]
  simp only [Program.fieldsOf, Try.underlying41]
  have hi := Try.underlying3
  have hb := Try.underlying4
  have e : eqC x y = (x.stop == y.stop && (x.arr == y.arr && (x.dep == y.dep && (x.board == y.board && x.alight == y.alight)))) := by
    unfold eqC
    rw [Bool.eq_iff_iff]
    simp
  rw [e]
  rw [eqFields_step w 9999 (ca x) (ca y) _ _ (.int .i64 x.stop) (.int .i64 y.stop) (x.stop == y.stop) (by simp) (part_int w hi (ca x) 0 _ rfl) (part_int w hi (ca y) 0 _ rfl) (run_equalIn_int w _ _ _ _ _ _ hi)]
  rw [eqFields_step w 9999 (ca x) (ca y) _ _ (.int .i64 x.arr) (.int .i64 y.arr) (x.arr == y.arr) (by simp) (part_int w hi (ca x) 1 _ rfl) (part_int w hi (ca y) 1 _ rfl) (run_equalIn_int w _ _ _ _ _ _ hi)]
  rw [eqFields_step w 9999 (ca x) (ca y) _ _ (.int .i64 x.dep) (.int .i64 y.dep) (x.dep == y.dep) (by simp) (part_int w hi (ca x) 2 _ rfl) (part_int w hi (ca y) 2 _ rfl) (run_equalIn_int w _ _ _ _ _ _ hi)]
  rw [eqFields_step w 9999 (ca x) (ca y) _ _ (.bool x.board) (.bool y.board) (x.board == y.board) (by simp) (part_bool w hb (ca x) 3 _ rfl) (part_bool w hb (ca y) 3 _ rfl) (run_equalIn_bool' w _ _ _ _ hb)]
  rw [eqFields_step w 9999 (ca x) (ca y) _ _ (.bool x.alight) (.bool y.alight) (x.alight == y.alight) (by simp) (part_bool w hb (ca x) 4 _ rfl) (part_bool w hb (ca y) 4 _ rfl) (run_equalIn_bool' w _ _ _ _ hb)]
  rw [show Op.eqFields 9999 (ca x) (ca y) [] = pure true from rfl, Sem.run_pure]
  generalize (x.stop == y.stop) = b0
  generalize (x.arr == y.arr) = b1
  generalize (x.dep == y.dep) = b2
  generalize (x.board == y.board) = b3
  generalize (x.alight == y.alight) = b4
  cases b0 <;> cases b1 <;> cases b2 <;> cases b3 <;> cases b4 <;> simp
theorem eql_call (x y : Call) (w : World) : (binOp .eql 41 (.agg (ca x)) (.agg (ca y))).run Try.prog w = .ok (.bool (eqC x y)) w := by
  rw [run_eql_struct, eq_call]
  rfl
theorem neq_call (x y : Call) (w : World) : (binOp .neq 41 (.agg (ca x)) (.agg (ca y))).run Try.prog w = .ok (.bool (!eqC x y)) w := by
  rw [run_neq_struct, eq_call]
  rfl
/-- are two lists the same? -/
def sameC (xs ys : List Call) : Bool := decide (xs.length = ys.length) && decide (firstN (fun k => !eqC (gc xs k) (gc ys k)) xs.length = xs.length)
theorem sameC_self (xs : List Call) : sameC xs xs = true := by
  unfold sameC
  rw [decide_eq_true rfl, firstN_none (fun j _ => by rw [eqC_iff.2 rfl]; rfl)]
  simp
theorem sameC_len {xs ys : List Call} (h : xs.length ≠ ys.length) : sameC xs ys = false := by unfold sameC; rw [decide_eq_false h, Bool.false_and]
theorem sameC_at {xs ys : List Call} {k : Nat} (hk : k < xs.length) (h : eqC (gc xs k) (gc ys k) = false) : sameC xs ys = false := by
  have := firstN_le_of (p := fun k => !eqC (gc xs k) (gc ys k)) hk (by simp [h])
  unfold sameC
  rw [decide_eq_false (p := firstN _ _ = _) (by omega), Bool.and_false]
theorem sameC_all {xs ys : List Call} (h : xs.length = ys.length) (h2 : ∀ k, k < xs.length → eqC (gc xs k) (gc ys k) = true) : sameC xs ys = true := by
  unfold sameC
  rw [decide_eq_true h, firstN_none (fun j hj => by rw [h2 j hj]; rfl)]
  simp

set_option maxHeartbeats 1000000 in
theorem same_any (A B : Option Addr) (n m c d : Nat) (xs ys : List Call) (w : World) (hx : SAt callC w A n xs) (hy : SAt callC w B m ys) (hn : n ≤ 1000) (hm : m ≤ 1000) :
    Calls Try.prog 13 #[.slice A n c, .slice B m d] w fun e w' => e = .returned (.bool (sameC xs ys)) ∧ ∃ q, w' = w.drewN q := by
  have HX := Lib.hid hx
  have HY := Lib.hid hy
  clear hx hy
  by_cases hl : n = m
  · subst hl
    go_enter Try.func13, Try.ntmps13
    go_wp2
    go_loopw [5] (fun k wr => ∃ j q : Nat, j ≤ n ∧ k = .int .i64 j ∧ wr = w.drewN q ∧ Hid (∀ i, i < j → eqC (gc xs i) (gc ys i) = true)) (fun k _ => n - (intOf k).toNat)
    case atStart => exact ⟨0, 0, by omega, rfl, rfl, Lib.hid (fun i h => absurd h (by omega))⟩
    case round =>
      obtain ⟨j, q, hj, rfl, rfl, HA⟩ := hrel
      by_cases hlt : j < n
      · obtain ⟨b, o, hA, _⟩ := HX.out.at_ hlt
        subst hA
        obtain ⟨b', o', hA, _⟩ := HY.out.at_ hlt
        subst hA
        obtain ⟨c0, c1, c2, c3, c4⟩ := call_cells HX.out hlt
        obtain ⟨d0, d1, d2, d3, d4⟩ := call_cells HY.out hlt
        have hlt' : (j : Int) < (n : Int) := by omega
        have hj0 : (0 : Int) ≤ (j : Int) := by omega
        have hne := neq_call (gc xs j) (gc ys j)
        cases he : eqC (gc xs j) (gc ys j)
        · have HF := Lib.hid (sameC_at (by rw [HX.out.1]; exact hlt) he)
          go_wp2
          go_quiet (fail)
          go_wp2
          go_ret
          exact ⟨ret_bool HF.out.symm, _, by rw [World.drewN_drewN]⟩
        · have HF : Hid (∀ i, i < j + 1 → eqC (gc xs i) (gc ys i) = true) := Lib.hid fun i hi => by
            by_cases e : i = j
            · subst e; exact he
            · exact HA.out i (by omega)
          go_wp2
          go_quiet (fail)
          go_wp2
          go_roundw
          case rel => exact ⟨j + 1, _, by omega, by go_num, rfl, HF⟩
          case measure => simp [intOf]; omega
      · obtain rfl : j = n := by omega
        have hd : ¬ ((j : Int) < (j : Int)) := by omega
        have HF := Lib.hid (sameC_all (by rw [HX.out.1, HY.out.1]) (fun k hk => HA.out k (by rw [HX.out.1] at hk; exact hk)))
        go_wp2
        go_ret
        exact ⟨ret_bool HF.out.symm, _, rfl⟩
  · have hne : ((n : Int) != (m : Int)) = true := by rw [bne_iff_ne]; omega
    have HF := Lib.hid (sameC_len (xs := xs) (ys := ys) (by rw [HX.out.1, HY.out.1]; exact hl))
    go_enter Try.func13, Try.ntmps13
    go_wp2
    go_ret
    exact ⟨ret_bool HF.out.symm, 0, rfl⟩
end Go.Proofs.Ytackadjhgklieaa
