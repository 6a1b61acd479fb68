/-
  f == nil for a function value; laws over any program.
-/
import Derived.WalkKit
import Derived.Laws.EntriesVeiled
import Derived.Laws.StructEq
namespace Go.Proofs.Ytabhinmodnmllaa
open Go.RowKit
theorem eqi_nil {P : Program} (w : World) (t : TypeId) (d : Nat) {a b : Array TypeId} {c : Bool} (ht : P.underlying t = some (.func a b c)) : (Op.equalIn (d + 1) t .nilFunc .nilFunc).run P w = .ok true w := by
  rw [Op.equalIn]
  simp [run_underlying ht]
theorem eqi_fn {P : Program} (w : World) (t : TypeId) (d : Nat) (K : FuncId) {a b : Array TypeId} {c : Bool} (ht : P.underlying t = some (.func a b c)) : (Op.equalIn (d + 1) t (.func (.func K) #[] #[]) .nilFunc).run P w = .ok false w := by
  rw [Op.equalIn]
  simp [run_underlying ht]
theorem eql_nil {P : Program} (w : World) (t : TypeId) {a b : Array TypeId} {c : Bool} (ht : P.underlying t = some (.func a b c)) : (binOp .eql t .nilFunc .nilFunc).run P w = .ok (.bool true) w := by
  have := eqi_nil w t 9999 ht
  simp only [binOp, Op.equal, Sem.run_bind]
  rw [show Op.maxDepth = 9999 + 1 from rfl, this]
  simp
theorem eql_fn {P : Program} (w : World) (t : TypeId) (K : FuncId) {a b : Array TypeId} {c : Bool} (ht : P.underlying t = some (.func a b c)) : (binOp .eql t (.func (.func K) #[] #[]) .nilFunc).run P w = .ok (.bool false) w := by
  have := eqi_fn w t 9999 K ht
  simp only [binOp, Op.equal, Sem.run_bind]
  rw [show Op.maxDepth = 9999 + 1 from rfl, this]
  simp
end Go.Proofs.Ytabhinmodnmllaa
