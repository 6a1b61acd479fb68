/-
  Slices of records: a store into one, an append of one that came in. Plain lemmas and laws over any program.
-/
import Derived.Test.YtabhinmodnmllaaRec
import Derived.Laws.AppendOwnNone
import Derived.OwnWalk
namespace Go.Proofs.Ytabhinmodnmllaa
open Go.RowKit
section
variable {α : Type} {C : Codec α}
theorem Codec.all_set {xs : List α} {k j : Nat} (hk : k < xs.length) (hj : j < C.sz) (y : α) (u : Value) (h : C.cs y = (C.cs (C.g xs k)).set j u) : (C.all xs).set (k * C.sz + j) u = C.all (xs.set k y) := by
  induction xs generalizing k with
  | nil => simp at hk
  | cons x xs ih =>
    cases k with
    | zero =>
      rw [List.set_cons_zero, C.all_cons, C.all_cons, h]
      have e : C.g (x :: xs) 0 = x := by simp [Codec.g]
      rw [e, Nat.zero_mul, Nat.zero_add, List.set_append_left _ _ (by rw [C.len]; exact hj)]
    | succ k =>
      have e : C.g (x :: xs) (k + 1) = C.g xs k := by simp [Codec.g]
      have := ih (k := k) (by simpa using hk) (by rw [← e]; exact h)
      rw [List.set_cons_succ, C.all_cons, C.all_cons, ← this, List.set_append_right _ _ (by rw [C.len, Nat.add_mul]; omega), C.len]
      congr 2
      rw [Nat.add_mul]
      omega
theorem SAt.cells_all {w : World} {ad : Addr} {n : Nat} {xs : List α} (h : SAt C w (some ad) n xs) (hs : 0 < C.sz) : ∀ j u, (C.all xs)[j]? = some u → w.cell? (ad.add j) = some u := by
  intro j u hu
  have hj := (List.getElem?_eq_some_iff.1 hu).1
  rw [C.all_len, h.1] at hj
  have hn : 0 < n := Nat.pos_of_ne_zero fun e => by subst e; simp at hj
  obtain ⟨b, o, e, hc⟩ := h.2 hn
  injection e with e
  subst e
  have hm : j % C.sz < C.sz := Nat.mod_lt _ hs
  have hd : j / C.sz < n := (Nat.div_lt_iff_lt_mul hs).2 hj
  have e2 : j / C.sz * C.sz + j % C.sz = j := by rw [Nat.mul_comm]; exact Nat.div_add_mod j C.sz
  rw [← e2, C.all_at (by rw [h.1]; exact hd) hm] at hu
  have := hc _ hd _ _ hu
  rw [Addr.add_lit, ← this]
  congr 2
  rw [Nat.add_assoc, e2]
/-- a store into element k of an own row -/
theorem own_store {w : World} {base e g n c k j : Nat} {xs : List α} (h : w.ownsRow base e C.sz (.slice (some ⟨g, 0, none⟩) n c) n (C.all xs)) (hk : k < xs.length) (hj : j < C.sz) (y : α) (u : Value) (hy : C.cs y = (C.cs (C.g xs k)).set j u) :
    (w.setCell ⟨g, k * C.sz + j, none⟩ u).ownsRow base e C.sz (.slice (some ⟨g, 0, none⟩) n c) n (C.all (xs.set k y)) := by
  have := (h.stored (k * C.sz + j) u).1
  rwa [C.all_set hk hj y u hy] at this
theorem own_lt {w : World} {base e size g n c m : Nat} {xs : List Value} (h : w.ownsRow base e size (.slice (some ⟨g, 0, none⟩) n c) m xs) : g < w.heap.size ∧ base ≤ g := by
  rcases h.2 with ⟨h, _⟩ | ⟨g', cap, cur, h, hb, hh, _⟩
  · cases h
  · cases h
    exact ⟨(Array.getElem?_eq_some_iff.1 hh).1, hb⟩
theorem ownsRow_base' {W : World} {b b' e size k : Nat} {v : Value} {xs : List Value} (h : W.ownsRow b e size v k xs) (hb : b' ≤ b) : W.ownsRow b' e size v k xs := ownsRow_base h hb
section
variable {P : Program}
theorem run_append_nil {w : World} (base : Nat) (t ty e : TypeId) (i : TypeInfo) (size : Nat) (ht : P.underlying t = some (.slice e)) (hi : P.info? e = some i)
    (v : Value) (n : Nat) (xs : List Value) (hown : w.ownsRow base e size v n xs) (c : Nat) : (Builtin.append_ #[t, t] ty #[v, .slice none 0 c]).run P w = .ok v w := by
  rcases hown.2 with ⟨rfl, rfl⟩ | ⟨g, cap, cur, rfl, _, _, hnc, _⟩
  · simp [Builtin.append_, run_underlying ht, sizeOf, typeInfo, hi, Builtin.lenOf, Builtin.firstCells]
  · simp [Builtin.append_, run_underlying ht, sizeOf, typeInfo, hi, Builtin.lenOf, Builtin.firstCells, hnc, storeCells]
/-- append, onto a row of the call's own, of a slice that reads as ys -/
theorem wpList_append_sat {w : World} {ops : Array Oper} {rest : List Oper} {o : Oper} {a : Act} {Q : Exit → Act → World → Prop} (hgd : o.guard = none) (s x : Operand) (t : TypeId)
    (ho : o.op = .call { callee := .builtin .append, args := #[s, x], argTypes := #[t, t] })
    (base : Nat) (e : TypeId) (i : TypeInfo) (z : Value) (bytes : Nat) (ht : P.underlying t = some (.slice e)) (hi : P.info? e = some i) (hz : i.zero = some z)
    (hsize : i.size = C.sz) (hby : i.bytes = bytes) (hzs : z.cells.size = C.sz) (hsz : 0 < C.sz)
    (v : Value) (n : Nat) (xs : List α) (hs : a.eval s = v) (hown : w.ownsRow base e C.sz v n (C.all xs))
    (A : Option Addr) (m c : Nat) (ys : List α) (hx : a.eval x = .slice A m c) (hsrc : SAt C w A m ys)
    (h63 : n + m ≤ maxLen) (hbytes : (n + m) * bytes ≤ 140737488355328) (hbase : base ≤ w.heap.size)
    (h : ∀ v' w', w'.ownsRow base e C.sz v' (n + m) (C.all (xs ++ ys)) → Below base w w' → wpList P ops Q rest (a.put o.dst v') w') : wpList P ops Q (o :: rest) a w := by
  cases A with
  | none =>
    obtain rfl : m = 0 := by
      rcases Nat.eq_zero_or_pos m with h0 | h0
      · exact h0
      · obtain ⟨b, o, e, _⟩ := hsrc.2 h0
        cases e
    have hn : ys = [] := List.eq_nil_of_length_eq_zero hsrc.1
    subst hn
    refine wpList_plain hgd fun K hK => ?_
    have hrun := run_append_nil (P := P) (w := w) base t o.type e i C.sz ht hi v n (C.all xs) hown c
    unfold Oper.wp
    simp [execOp, ho, resolve, invoke, builtin, hs, hx, hrun, Result.andThen]
    exact hK _ _ (h v w (by simpa using hown) (Below.refl _ _))
  | some ad =>
    exact wpList_append_own w hgd s x t ho base e i z C.sz bytes ht hi hz hsize hby hzs hsz v n (C.all xs) hs hown ad m c (C.all ys) hx (by rw [C.all_len, hsrc.1]) (hsrc.cells_all hsz) (C.all_one' ys) h63 hbytes hbase
      (fun v' w' hr' hg' _ => h v' w' (by rw [C.all_app]; exact hr') (below_own (Below.refl base w) hbase (Nat.le_refl _) hown hg'))
end
end
end Go.Proofs.Ytabhinmodnmllaa
