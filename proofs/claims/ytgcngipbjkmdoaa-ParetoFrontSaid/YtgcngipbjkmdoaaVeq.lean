/-
  '==' and '!=' of two arrays of four ints: a law over any program.
-/
import Derived.Test.YtgcngipbjkmdoaaVec
import Derived.ChangeKeysEq
import Derived.Laws.StructEq
import Derived.WalkKit
namespace Go.Proofs.Ytgcngipbjkmdoaa
open Vec (V vi eqV)
section
variable {P : Program} (w : World)
theorem part_int {e : TypeId} (he : P.underlying e = some (.int .i64)) (x : V) (k : Nat) (hk : k < 4) : (part e #[.int .i64 (vi x 0), .int .i64 (vi x 1), .int .i64 (vi x 2), .int .i64 (vi x 3)] (k * 1)).run P w = .ok (.int .i64 (vi x k)) w := by
  match k, hk with
  | 0, _ => simp [part, isAgg, run_underlying he]
  | 1, _ => simp [part, isAgg, run_underlying he]
  | 2, _ => simp [part, isAgg, run_underlying he]
  | 3, _ => simp [part, isAgg, run_underlying he]
theorem run_equalIn_vec (d : Nat) {t e : TypeId} {i : TypeInfo} (ht : P.underlying t = some (.array 4 e)) (he : P.underlying e = some (.int .i64)) (hi : P.info? e = some i) (hc : P.cellsOf e = 1) (x y : V) :
    (Op.equalIn (d + 2) t (.agg #[.int .i64 (vi x 0), .int .i64 (vi x 1), .int .i64 (vi x 2), .int .i64 (vi x 3)]) (.agg #[.int .i64 (vi y 0), .int .i64 (vi y 1), .int .i64 (vi y 2), .int .i64 (vi y 3)])).run P w = .ok (eqV x y) w := by
  rw [run_equalIn_array w (d + 1) _ _ ht hi, hc]
  have h : ∀ k, k < 4 → (do
      let a ← part e #[.int .i64 (vi x 0), .int .i64 (vi x 1), .int .i64 (vi x 2), .int .i64 (vi x 3)] (k * 1)
      let b ← part e #[.int .i64 (vi y 0), .int .i64 (vi y 1), .int .i64 (vi y 2), .int .i64 (vi y 3)] (k * 1)
      Op.equalIn (d + 1) e a b : Sem Bool).run P w = .ok (vi x k == vi y k) w := by
    intro k hk
    simp only [Sem.run_bind, part_int w he x k hk, part_int w he y k hk, Result.andThen_ok]
    exact run_equalIn_int w d e .i64 .i64 _ _ he
  have e4 : List.range 4 = [0, 1, 2, 3] := rfl
  rw [e4]
  have step : ∀ k is, k < 4 → (Op.eqItems (d + 1) e 1 #[.int .i64 (vi x 0), .int .i64 (vi x 1), .int .i64 (vi x 2), .int .i64 (vi x 3)] #[.int .i64 (vi y 0), .int .i64 (vi y 1), .int .i64 (vi y 2), .int .i64 (vi y 3)] (k :: is)).run P w = if vi x k = vi y k then (Op.eqItems (d + 1) e 1 #[.int .i64 (vi x 0), .int .i64 (vi x 1), .int .i64 (vi x 2), .int .i64 (vi x 3)] #[.int .i64 (vi y 0), .int .i64 (vi y 1), .int .i64 (vi y 2), .int .i64 (vi y 3)] is).run P w else .ok false w := by
    intro k is hk
    simp only [Op.eqItems, Sem.run_bind, part_int w he x k hk, part_int w he y k hk, Result.andThen_ok]
    rw [run_equalIn_int w d e .i64 .i64 _ _ he]
    by_cases hh : vi x k = vi y k
    · simp [hh]
    · have : (vi x k == vi y k) = false := by simpa using hh
      simp [this, hh]
  rw [step 0 _ (by omega), step 1 _ (by omega), step 2 _ (by omega), step 3 _ (by omega)]
  have hq : eqV x y = decide (vi x 0 = vi y 0 ∧ vi x 1 = vi y 1 ∧ vi x 2 = vi y 2 ∧ vi x 3 = vi y 3) := by
    unfold eqV
    exact decide_eq_decide.2 Vec.eq_vi
  rw [hq]
  by_cases h0 : vi x 0 = vi y 0 <;> by_cases h1 : vi x 1 = vi y 1 <;> by_cases h2 : vi x 2 = vi y 2 <;> by_cases h3 : vi x 3 = vi y 3 <;> simp [h0, h1, h2, h3, Op.eqItems]
theorem run_eql_vec {t e : TypeId} {i : TypeInfo} (ht : P.underlying t = some (.array 4 e)) (he : P.underlying e = some (.int .i64)) (hi : P.info? e = some i) (hc : P.cellsOf e = 1) (x y : V) :
    (binOp .eql t (.agg #[.int .i64 (vi x 0), .int .i64 (vi x 1), .int .i64 (vi x 2), .int .i64 (vi x 3)]) (.agg #[.int .i64 (vi y 0), .int .i64 (vi y 1), .int .i64 (vi y 2), .int .i64 (vi y 3)])).run P w = .ok (.bool (eqV x y)) w := by
  rw [run_eql_struct, run_equalIn_vec w 9998 ht he hi hc x y]
  rfl
theorem run_neq_vec {t e : TypeId} {i : TypeInfo} (ht : P.underlying t = some (.array 4 e)) (he : P.underlying e = some (.int .i64)) (hi : P.info? e = some i) (hc : P.cellsOf e = 1) (x y : V) :
    (binOp .neq t (.agg #[.int .i64 (vi x 0), .int .i64 (vi x 1), .int .i64 (vi x 2), .int .i64 (vi x 3)]) (.agg #[.int .i64 (vi y 0), .int .i64 (vi y 1), .int .i64 (vi y 2), .int .i64 (vi y 3)])).run P w = .ok (.bool (!eqV x y)) w := by
  rw [run_neq_struct, run_equalIn_vec w 9998 ht he hi hc x y]
  rfl
end
end Go.Proofs.Ytgcngipbjkmdoaa
