/-
  copy(out, src) where the elements take several cells: the whole of a row that the call has made is written. A law over any program.
-/
import Derived.Laws.CopyOwn
import Derived.Laws.OwnMore
import Derived.Deep.AppendLies
import Derived.WalkKit
import Derived.Deep.RegionLawGrows
namespace Go.Proofs.Ytabhinmodnmllaa
open Go.RowKit
section
variable {P : Program}
theorem run_copy_rowN (w : World) (dT sT ty elem : TypeId) (sz : Nat) (g o dLen dCap : Nat) (a : Addr) (sLen sCap : Nat) (cur : Array Value) (t : TypeId) (cs : List Value)
    (hu : P.underlying dT = some (.slice elem)) (hs : (P.info? elem).map (·.size) = some sz)
    (hg : w.heap[g]? = some (.cells cur t (0, 0))) (hn : cs.length = Nat.min sLen dLen * sz)
    (hsrc : ∀ j v, cs[j]? = some v → w.cell? (a.add j) = some v) (hfit : o + cs.length ≤ cur.size) (h1 : ∀ v ∈ cs, v.oneCell' = true) :
    (Builtin.copy_ #[dT, sT] ty #[.slice (some ⟨g, o, none⟩) dLen dCap, .slice (some a) sLen sCap]).run P w =
      .ok (goInt (Nat.min sLen dLen)) (w.setRow g (cur.toList.take o ++ cs ++ cur.toList.drop (o + cs.length)).toArray) := by
  have hl := run_loadCells_list (P := P) w a cs hsrc
  have hst := run_storeCells_at P g o t cs 0 cur w hg (by simpa using hfit) h1
  cases hq : P.info? elem with
  | none => simp [hq] at hs
  | some i =>
    have hi : i.size = sz := by simpa [hq] using hs
    simp [Builtin.copy_, run_underlying hu, Builtin.lenOf, Builtin.firstCells, sizeOf, typeInfo, hq, hi, ← hn, hl, hst]
theorem run_copy_zero (w : World) (dT sT ty elem : TypeId) (sz : Nat) (dp sp : Option Addr) (dLen dCap sLen sCap : Nat)
    (hu : P.underlying dT = some (.slice elem)) (hs : (P.info? elem).map (·.size) = some sz) (hn : Nat.min sLen dLen = 0) :
    (Builtin.copy_ #[dT, sT] ty #[.slice dp dLen dCap, .slice sp sLen sCap]).run P w = .ok (goInt 0) w := by
  cases hq : P.info? elem with
  | none => simp [hq] at hs
  | some i =>
    cases sp with
    | none => cases dp <;> simp [Builtin.copy_, run_underlying hu, Builtin.lenOf, Builtin.firstCells, sizeOf, typeInfo, hq, hn, storeCells]
    | some a =>
      have hl := run_loadCells_list (P := P) w a [] (by simp)
      simp only [List.length_nil] at hl
      cases dp <;> simp [Builtin.copy_, run_underlying hu, Builtin.lenOf, Builtin.firstCells, sizeOf, typeInfo, hq, hn, hl, storeCells]

/-- the whole of an own row of m elements is written over by m elements -/
theorem wpList_copy_whole {w : World} {ops : Array Oper} {rest : List Oper} {o : Oper} {a : Act} {Q : Exit → Act → World → Prop} (hgd : o.guard = none) (d s : Operand) (dT sT : TypeId)
    (ho : o.op = .call { callee := .builtin .copy, args := #[d, s], argTypes := #[dT, sT] }) (elem : TypeId) (sz : Nat) (hu : P.underlying dT = some (.slice elem)) (hsz : (P.info? elem).map (·.size) = some sz)
    (base : Nat) (v : Value) (m : Nat) (olds : List Value) (sp : Option Addr) (sCap : Nat) (hd : a.eval d = v) (hs : a.eval s = .slice sp m sCap) (hown : w.ownsRow base elem sz v m olds)
    (cs : List Value) (hn : cs.length = m * sz) (hsrc : 0 < m → ∃ ad, sp = some ad ∧ ∀ j u, cs[j]? = some u → w.cell? (ad.add j) = some u) (h1 : ∀ u ∈ cs, u.oneCell' = true)
    (h : ∀ w', w'.ownsRow base elem sz v m cs → Below base w w' → wpList P ops Q rest (a.put o.dst (goInt m)) w') : wpList P ops Q (o :: rest) a w := by
  refine wpList_plain hgd fun K hK => ?_
  rcases hown.2 with ⟨rfl, rfl⟩ | ⟨g, cap, cur, rfl, hb, hg, hc, hcm, hcs, ht⟩
  · have hrun := run_copy_zero (P := P) w dT sT o.type elem sz none sp 0 0 0 sCap hu hsz rfl
    unfold Oper.wp
    simp [execOp, ho, resolve, invoke, builtin, hd, hs, hrun, Result.andThen]
    have hcs0 : cs = [] := List.eq_nil_of_length_eq_zero (by simpa using hn)
    subst hcs0
    exact hK _ _ (h w ⟨by simp, .inl ⟨rfl, rfl⟩⟩ (Below.refl _ _))
  · by_cases hm : m = 0
    · subst hm
      have hrun := run_copy_zero (P := P) w dT sT o.type elem sz (some ⟨g, 0, none⟩) sp 0 cap 0 sCap hu hsz rfl
      unfold Oper.wp
      simp [execOp, ho, resolve, invoke, builtin, hd, hs, hrun, Result.andThen]
      have hcs0 : cs = [] := List.eq_nil_of_length_eq_zero (by simpa using hn)
      subst hcs0
      exact hK _ _ (h w ⟨by simp, .inr ⟨g, cap, cur, rfl, hb, hg, hc, hcm, hcs, by simp⟩⟩ (Below.refl _ _))
    · obtain ⟨ad, rfl, hsrc'⟩ := hsrc (by omega)
      have hfit : 0 + cs.length ≤ cur.size := by rw [hn, hcs, Nat.zero_add]; exact Nat.mul_le_mul_right _ hc
      have hrun := run_copy_rowN (P := P) w dT sT o.type elem sz g 0 m cap ad m sCap cur elem cs hu hsz hg (by rw [hn, show Nat.min m m = m from Nat.min_self m]) hsrc' hfit h1
      unfold Oper.wp
      rw [show Nat.min m m = m from Nat.min_self m] at hrun
      simp only [execOp, ho, resolve, invoke, builtin, Sem.run_bind]
      simp [hd, hs, hrun, Result.andThen]
      refine hK _ _ (h _ ⟨hn, .inr ⟨g, cap, _, rfl, hb, setRow_heap w g _ _ elem _ hg, hc, hcm, ?_, ?_⟩⟩ (below_setRow (Below.refl _ _) hb _))
      · simp
        omega
      · simp [hn]
/-- append onto a row of the call's own, as one step of a region that draws its order -/
theorem step_append_own {ops : Array Oper} {o : Oper} {a : Act} {w : World} {K : Act → World → Prop} {Q : Exit → Act → World → Prop} {E : Prop}
    (hg : o.guard = none) (s x : Operand) (t : TypeId) (ho : o.op = .call { callee := .builtin .append, args := #[s, x], argTypes := #[t, t] })
    (base : Nat) (e : TypeId) (i : TypeInfo) (z : Value) (size bytes : Nat) (ht : P.underlying t = some (.slice e)) (hi : P.info? e = some i) (hz : i.zero = some z)
    (hsize : i.size = size) (hby : i.bytes = bytes) (hzs : z.cells.size = size) (hsz : 0 < size)
    (v : Value) (n : Nat) (xs : List Value) (hs : a.eval s = v) (hown : w.ownsRow base e size v n xs)
    (ad : Addr) (m c : Nat) (news : List Value) (hx : a.eval x = .slice (some ad) m c) (hl : news.length = m * size) (hnews : ∀ j u, news[j]? = some u → w.cell? (ad.add j) = some u) (h1 : ∀ u ∈ news, u.oneCell' = true)
    (h63 : n + m ≤ maxLen) (hbytes : (n + m) * bytes ≤ 140737488355328) (hbase : base ≤ w.heap.size)
    (h : ∀ v' w', w'.ownsRow base e size v' (n + m) (xs ++ news) → w.grownBy w' v.ownBlock → (v' = .slice none 0 0 ↔ v = .slice none 0 0 ∧ m = 0) → K (a.put o.dst v') w') :
    if Region.wanted o (yielded ops a.tmps) = true then Oper.wp P o a w K Q else E := by
  have hw : Region.wanted o (yielded ops a.tmps) = true := by simp [Region.wanted, hg]
  rw [if_pos hw]
  exact wp_append_own w s x t ho base e i z size bytes ht hi hz hsize hby hzs hsz v n xs hs hown ad m c news hx hl hnews h1 h63 hbytes hbase h
end
end Go.Proofs.Ytabhinmodnmllaa
