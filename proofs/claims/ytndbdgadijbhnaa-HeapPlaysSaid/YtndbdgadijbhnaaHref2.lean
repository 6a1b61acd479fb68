/-
  Equality of pairs; Same, Find, Permuted of the reference. Printed by gen/hp8.py.
-/
import Derived.Test.YtndbdgadijbhnaaHref
import Derived.Test.YtndbdgadijbhnaaFn
import Derived.Laws.StructEq
namespace Go.Proofs.Ytndbdgadijbhnaa
open Go.RowKit

/-- are two pairs the same? -/
def eqP (x y : Pair) : Bool := decide (x = y)
theorem eqP_self (x : Pair) : eqP x x = true := decide_eq_true rfl
theorem eqP_eq (x y : Pair) : eqP x y = (x.key == y.key && x.mark == y.mark) := by
  unfold eqP
  rw [Bool.eq_iff_iff]
  simp
  exact ⟨fun h => by subst h; exact ⟨rfl, rfl⟩, fun h => Pair.eq h.1 h.2⟩
theorem pair_fields : Try.prog.underlying 28 = some (.struct (Try.prog.fieldsOf 28)) := by kernel_rfl
theorem eqFields_step {Q : Program} (w : World) (d : Nat) (xs ys : Array Value) (f : Field) (fs : List Field) (a b : Value) (r : Bool) (hn : f.name ≠ "_") (ha : (part f.type xs f.offset).run Q w = .ok a w) (hb : (part f.type ys f.offset).run Q w = .ok b w)
    (hr : (Op.equalIn d f.type a b).run Q w = .ok r w) : (Op.eqFields d xs ys (f :: fs)).run Q w = if r then (Op.eqFields d xs ys fs).run Q w else .ok false w := by
  rw [Op.eqFields, if_pos hn]
  simp only [Sem.run_bind, ha, hb, hr, Result.andThen_ok]
  cases r <;> simp
theorem part_int {Q : Program} (w : World) {e : TypeId} {k : IntKind} (he : Q.underlying e = some (.int k)) (xs : Array Value) (j : Nat) (v : Value) (hv : xs[j]? = some v) : (part e xs j).run Q w = .ok v w := by
  simp [part, isAgg, run_underlying he, hv]
set_option maxHeartbeats 2000000 in
theorem eq_pair (x y : Pair) (w : World) : (Op.equalIn 10000 28 (.agg (pa x)) (.agg (pa y))).run Try.prog w = .ok (eqP x y) w := by
  rw [run_equalIn_struct w 9999 _ _ _ pair_fields (by kernel_rfl)]
  simp only [Program.fieldsOf, Try.underlying28]
  have hi := Try.underlying3
  rw [eqP_eq]
  rw [eqFields_step w 9999 (pa x) (pa y) _ _ (.int .i64 x.key) (.int .i64 y.key) (x.key == y.key) (by simp) (part_int w hi (pa x) 0 _ rfl) (part_int w hi (pa y) 0 _ rfl) (run_equalIn_int w _ _ _ _ _ _ hi)]
  rw [eqFields_step w 9999 (pa x) (pa y) _ _ (.int .i64 x.mark) (.int .i64 y.mark) (x.mark == y.mark) (by simp) (part_int w hi (pa x) 1 _ rfl) (part_int w hi (pa y) 1 _ rfl) (run_equalIn_int w _ _ _ _ _ _ hi)]
  rw [show Op.eqFields 9999 (pa x) (pa y) [] = pure true from rfl, Sem.run_pure]
  generalize (x.key == y.key) = b0
  generalize (x.mark == y.mark) = b1
  cases b0 <;> cases b1 <;> simp
theorem eql_pair (x y : Pair) (w : World) : (binOp .eql 28 (.agg (pa x)) (.agg (pa y))).run Try.prog w = .ok (.bool (eqP x y)) w := by
  rw [run_eql_struct, eq_pair]
  rfl
theorem neq_pair (x y : Pair) (w : World) : (binOp .neq 28 (.agg (pa x)) (.agg (pa y))).run Try.prog w = .ok (.bool (!eqP x y)) w := by
  rw [run_neq_struct, eq_pair]
  rfl

set_option maxHeartbeats 1000000 in
theorem same_yes (A B : Option Addr) (n m c d : Nat) (xs : List Pair) (w : World) (hx : SAt pairC w A n xs) (hy : SAt pairC w B m xs) (hn : n ≤ 1000) :
    Calls Try.prog 17 #[.slice A n c, .slice B m d] w fun e w' => e = .returned (.bool true) ∧ ∃ q, w' = w.drewN q := by
  obtain rfl : m = n := by rw [← hx.1, ← hy.1]
  have HX := Lib.hid hx
  have HY := Lib.hid hy
  clear hx hy
  go_enter Try.func17, Try.ntmps17
  go_wp2
  go_loopw [5] (fun k wr => ∃ j q : Nat, j ≤ m ∧ k = .int .i64 j ∧ wr = w.drewN q) (fun k _ => m - (intOf k).toNat)
  case atStart => exact ⟨0, 0, by omega, rfl, rfl⟩
  case round =>
    obtain ⟨j, q, hj, rfl, rfl⟩ := hrel
    by_cases hlt : j < m
    · obtain ⟨b, o, hA, _⟩ := HX.out.at_ hlt
      subst hA
      obtain ⟨b', o', hA, _⟩ := HY.out.at_ hlt
      subst hA
      obtain ⟨c0, c1⟩ := pair_cells HX.out hlt
      obtain ⟨d0, d1⟩ := pair_cells HY.out hlt
      have hlt' : (j : Int) < (m : Int) := by omega
      have hj0 : (0 : Int) ≤ (j : Int) := by omega
      have hne := neq_pair (gp xs j) (gp xs j)
      rw [eqP_self] at hne
      go_wp2
      go_quiet (fail)
      go_wp2
      go_roundw
      case rel => exact ⟨j + 1, _, by omega, by go_num, rfl⟩
      case measure => simp [intOf]; omega
    · obtain rfl : j = m := by omega
      have hd : ¬ ((j : Int) < (j : Int)) := by omega
      go_wp2
      go_ret
      exact ⟨rfl, _, rfl⟩

theorem erase_perm {α : Type} {xs : List α} {i : Nat} (h : i < xs.length) : (xs[i] :: xs.eraseIdx i).Perm xs := by
  have h1 : xs = xs.take i ++ xs[i] :: xs.drop (i + 1) := by rw [List.getElem_cons_drop, List.take_append_drop]
  rw [List.eraseIdx_eq_take_drop_succ]
  exact List.perm_middle.symm.trans (by rw [← h1])
/-- where a pair is found -/
def findP (xs : List Pair) (x : Pair) (n : Nat) : Nat := firstN (fun k => eqP (gp xs k) x) n
theorem find_hit {xs : List Pair} {x : Pair} {n j : Nat} (hj : j < n) (h : eqP (gp xs j) x = true) (hb : ∀ i, i < j → eqP (gp xs i) x = false) : findP xs x n = j := firstN_eq hj h hb
theorem mem_find {xs : List Pair} {x : Pair} {n : Nat} (hn : xs.length = n) (h : x ∈ xs) : findP xs x n < n := by
  obtain ⟨i, hi, e⟩ := List.getElem_of_mem h
  have := firstN_le_of (p := fun k => eqP (gp xs k) x) (n := n) (k := i) (by omega) (by
    have h2 : gp xs i = x := (pairC.g_eq hi).trans e
    rw [h2, eqP_self])
  exact Nat.lt_of_le_of_lt this (by omega)
theorem erase_find {xs : List Pair} {x : Pair} {n : Nat} (hn : xs.length = n) (h : x ∈ xs) : (x :: xs.eraseIdx (findP xs x n)).Perm xs := by
  have hl := mem_find hn h
  have hh := firstN_hit (p := fun k => eqP (gp xs k) x) hl
  have e : gp xs (findP xs x n) = x := of_decide_eq_true hh
  have hl' : findP xs x n < xs.length := by omega
  have e2 : xs[findP xs x n] = x := (pairC.g_eq hl').symm.trans e
  have := erase_perm hl'
  rwa [e2] at this

set_option maxHeartbeats 1000000 in
theorem find_any (A : Option Addr) (n c : Nat) (xs : List Pair) (x : Pair) (w : World) (hx : SAt pairC w A n xs) (hn : n ≤ 1000) (hm : x ∈ xs) :
    Calls Try.prog 37 #[.slice A n c, .agg (pa x)] w fun e w' => e = .returned (.int .i64 (findP xs x n)) ∧ Below w.heap.size w w' := by
  have HM := Lib.hid (mem_find hx.1 hm)
  have HHIT := Lib.hid (firstN_hit (p := fun k => eqP (gp xs k) x) (mem_find hx.1 hm))
  have HBEF := Lib.hid (fun i (h : i < findP xs x n) => firstN_before (p := fun k => eqP (gp xs k) x) (n := n) h)
  obtain ⟨f, hf⟩ : ∃ f, f = findP xs x n := ⟨_, rfl⟩
  have HHIT' : Hid (eqP (gp xs f) x = true) := Lib.hid (by rw [hf]; exact HHIT.out)
  rw [← hf] at HM HBEF
  rw [← hf]
  have hfn := HM.out
  clear hf HHIT hm
  obtain ⟨W, hW⟩ : ∃ W, W = w.alloc (.cells #[.int .i64 x.key, .int .i64 x.mark] 28) := ⟨_, rfl⟩
  have hbx : Box2 W w.heap.size x := by rw [hW]; exact Box2.new w x _ _ rfl
  have hbW : Below w.heap.size w W := by rw [hW]; exact al1 _ _
  have H := Lib.hid (hx.stays hbW)
  have HX := Lib.hid hbx
  have HW := Lib.hid hbW
  clear hx hbx hbW
  go_enter Try.func37, Try.ntmps37
  go_upto_block 0 with fail
  rw [← hW]
  clear hW
  go_wp2
  go_loopw [5] (fun k wr => ∃ j q : Nat, j ≤ f ∧ k = .int .i64 j ∧ wr = W.drewN q) (fun k _ => n - (intOf k).toNat)
  case atStart => exact ⟨0, 0, by omega, rfl, rfl⟩
  case round =>
    obtain ⟨j, q, hj, rfl, rfl⟩ := hrel
    have hlt : j < n := by omega
    obtain ⟨b, o, hA, _⟩ := H.out.at_ hlt
    subst hA
    obtain ⟨c0, c1⟩ := pair_cells H.out hlt
    obtain ⟨x0, x1, _, _⟩ := HX.out
    have hlt' : (j : Int) < (n : Int) := by omega
    have hj0 : (0 : Int) ≤ (j : Int) := by omega
    have hne := eql_pair (gp xs j) x
    by_cases he : j = f
    · subst he
      rw [HHIT'.out] at hne
      go_wp2
      go_quiet (fail)
      go_wp2
      go_ret
      exact ⟨rfl, bdrewN (bdrewN HW.out _) _⟩
    · have hjf : j < f := by omega
      rw [HBEF.out j hjf] at hne
      go_wp2
      go_quiet (fail)
      go_wp2
      go_roundw
      case rel => exact ⟨j + 1, _, by omega, by go_num, rfl⟩
      case measure => simp [intOf]; omega

set_option maxHeartbeats 2000000 in
theorem permuted_yes (A B : Option Addr) (n m c d : Nat) (xs ys : List Pair) (w : World) (hx : SAt pairC w A n xs) (hy : SAt pairC w B m ys) (hn : n ≤ 1000) (hp : xs.Perm ys) :
    Calls Try.prog 22 #[.slice A n c, .slice B m d] w fun e w' => e = .returned (.bool true) ∧ Below w.heap.size w w' := by
  obtain rfl : m = n := by rw [← hx.1, ← hy.1, hp.length_eq]
  have HX := Lib.hid hx
  have HY := Lib.hid hy
  have HP := Lib.hid hp
  clear hx hy hp
  go_enter Try.func22, Try.ntmps22
  go_wp2
  go_loopw [1, 5] (fun sl k wr => ∃ (j g : Nat) (Bk : Option Addr) (dk : Nat) (yk : List Pair), j + g = m ∧ k = .int .i64 j ∧ sl = .slice Bk g dk ∧ Hid (SAt pairC wr Bk g yk) ∧ Hid ((xs.drop j).Perm yk) ∧ Hid (Below w.heap.size w wr)) (fun _ k _ => m - (intOf k).toNat)
  case atStart => exact ⟨0, m, B, d, ys, by omega, rfl, rfl, HY, Lib.hid (by rw [List.drop_zero]; exact HP.out), Lib.hid (Below.refl _ _)⟩
  case round =>
    obtain ⟨j, g, Bk, dk, yk, hjg, rfl, rfl, HK, HPK, HB⟩ := hrel
    by_cases hlt : j < m
    · obtain ⟨b, o, hA, _⟩ := HX.out.at_ hlt
      subst hA
      obtain ⟨c0, c1⟩ := pair_cells (HX.out.stays HB.out) hlt
      have hlt' : (j : Int) < (m : Int) := by omega
      have hj0 : (0 : Int) ≤ (j : Int) := by omega
      have hdrop : xs.drop j = gp xs j :: xs.drop (j + 1) := by rw [List.drop_eq_getElem_cons (by rw [HX.out.1]; exact hlt)]; congr 1; exact (pairC.g_eq (by rw [HX.out.1]; exact hlt)).symm
      have hmem : gp xs j ∈ yk := HPK.out.subset (by rw [hdrop]; exact List.mem_cons_self)
      have HMEM := Lib.hid hmem
      have HER := Lib.hid (erase_find HK.out.1 hmem)
      have HFL := Lib.hid (mem_find HK.out.1 hmem)
      have HDR := Lib.hid hdrop
      clear hmem hdrop
      go_wp2_with fail
      refine (find_any Bk g dk yk (gp xs j) _ HK.out (by omega) HMEM.out).mono ?_
      rintro e w1 ⟨rfl, hb1⟩
      obtain ⟨f, hf⟩ : ∃ f, f = findP yk (gp xs j) g := ⟨_, rfl⟩
      rw [← hf] at HER HFL
      rw [← hf]
      clear hf
      have f0 : (0 : Int) ≤ (f : Int) := by omega
      have f0' : ¬ ((f : Int) < 0) := by omega
      have HK1 := Lib.hid (HK.out.stays hb1)
      have HB1 := Lib.hid (bthen HB.out hb1 (Nat.le_refl _))
      clear hb1 c0 c1
      go_wp2_with fail
      refine (without_any Bk g dk f yk _ HK1.out (by omega)).mono ?_
      rintro e w2 ⟨v2, rfl, hr2, hb2⟩
      have hlen : (yk.eraseIdx f).length = g - 1 := by rw [List.length_eraseIdx_of_lt (by rw [HK.out.1]; exact HFL.out), HK.out.1]
      rw [hlen] at hr2
      obtain ⟨A9, c9, hv9, _⟩ := ownsRow_slice hr2
      subst hv9
      have HK2 := Lib.hid (SAt.own hr2 (by decide))
      have HB2 := Lib.hid (bthen HB1.out hb2 (Nat.le_refl _))
      clear hr2 hb2 hlen
      go_wp2
      go_roundw
      case rel => exact ⟨j + 1, g - 1, A9, c9, yk.eraseIdx f, by omega, by go_num, rfl, HK2, Lib.hid ((List.perm_cons _).1 ((HDR.out ▸ HPK.out).trans HER.out.symm)), HB2⟩
      case measure => simp [intOf]; omega
    · obtain rfl : j = m := by omega
      have hd : ¬ ((j : Int) < (j : Int)) := by omega
      go_wp2
      go_ret
      exact ⟨rfl, HB.out⟩
end Go.Proofs.Ytndbdgadijbhnaa
