/-
  Slices of vectors, read as lists; a row of vectors that the call has made.
-/
import Derived.Test.YtgcngipbjkmdoaaVec
import Derived.Test.YtgcngipbjkmdoaaMem
namespace Go.Proofs.Ytgcngipbjkmdoaa
open Go.RowKit
open Vec (V vi)

/-- vector k -/
def gv (xs : List V) (k : Nat) : V := xs.getD k (0, 0, 0, 0)
theorem gv_eq {xs : List V} {k : Nat} (h : k < xs.length) : gv xs k = xs[k] := by simp [gv, h]
theorem gv_some {xs : List V} {k : Nat} (h : k < xs.length) : xs[k]? = some (gv xs k) := by simp [gv, h]
theorem take_gv {xs : List V} {k : Nat} (h : k < xs.length) : xs.take (k + 1) = xs.take k ++ [gv xs k] := by
  rw [List.take_succ_eq_append_getElem h, gv_eq h]
/-- the cells of a vector, of a list of vectors -/
def vc (x : V) : List Value := [.int .i64 (vi x 0), .int .i64 (vi x 1), .int .i64 (vi x 2), .int .i64 (vi x 3)]
def vcs (xs : List V) : List Value := xs.flatMap vc
theorem vcs_nil : vcs [] = [] := rfl
theorem vcs_cons (x : V) (xs : List V) : vcs (x :: xs) = vc x ++ vcs xs := rfl
theorem vcs_app (xs ys : List V) : vcs (xs ++ ys) = vcs xs ++ vcs ys := by simp [vcs]
theorem vcs_one (x : V) : vcs [x] = vc x := by simp [vcs]
theorem vcs_len (xs : List V) : (vcs xs).length = xs.length * 4 := by
  induction xs with
  | nil => rfl
  | cons x xs ih => rw [vcs_cons, List.length_append, ih]; simp [vc]; omega
theorem vc_at (x : V) {j : Nat} (hj : j < 4) : (vc x)[j]? = some (.int .i64 (vi x j)) := by
  match j, hj with
  | 0, _ => rfl
  | 1, _ => rfl
  | 2, _ => rfl
  | 3, _ => rfl
theorem vcs_at {xs : List V} {k j : Nat} (hk : k < xs.length) (hj : j < 4) : (vcs xs)[k * 4 + j]? = some (.int .i64 (vi (gv xs k) j)) := by
  induction xs generalizing k with
  | nil => simp at hk
  | cons x xs ih =>
    rw [vcs_cons]
    cases k with
    | zero =>
      rw [List.getElem?_append_left (by simp [vc]; omega)]
      simpa [gv] using vc_at x hj
    | succ k =>
      rw [List.getElem?_append_right (by simp [vc]; omega)]
      have := ih (k := k) (by simpa using hk)
      have e : (k + 1) * 4 + j - (vc x).length = k * 4 + j := by simp [vc]; omega
      rw [e, this]
      simp [gv]
theorem vc_one (x : V) : ∀ u ∈ vc x, u.oneCell' = true := by intro u hu; simp [vc] at hu; rcases hu with rfl | rfl | rfl | rfl <;> rfl
theorem vcs_one' (xs : List V) : ∀ u ∈ vcs xs, u.oneCell' = true := by
  intro u hu
  obtain ⟨x, _, hx⟩ := List.mem_flatMap.1 hu
  exact vc_one x u hx

/-- the slice (A, n) reads as the list xs of vectors -/
def VecsAt (w : World) (A : Option Addr) (n : Nat) (xs : List V) : Prop :=
  xs.length = n ∧ (0 < n → ∃ b o, A = some ⟨b, o, none⟩ ∧ ∀ k, k < n → ∀ j, j < 4 → w.cell? ⟨b, o + k * 4 + j, none⟩ = some (.int .i64 (vi (gv xs k) j)))
theorem VecsAt.nil (w : World) (A : Option Addr) : VecsAt w A 0 [] := ⟨rfl, fun h => absurd h (by omega)⟩
theorem VecsAt.drewN {w : World} {A : Option Addr} {n : Nat} {xs : List V} (h : VecsAt w A n xs) (m : Nat) : VecsAt (w.drewN m) A n xs := h
theorem VecsAt.at_ {w : World} {A : Option Addr} {n k : Nat} {xs : List V} (h : VecsAt w A n xs) (hk : k < n) : ∃ b o, A = some ⟨b, o, none⟩ ∧ w.cell? ⟨b, o + k * 4, none⟩ = some (.int .i64 (vi (gv xs k) 0)) ∧
    w.cell? ⟨b, o + k * 4 + 1, none⟩ = some (.int .i64 (vi (gv xs k) 1)) ∧ w.cell? ⟨b, o + k * 4 + 2, none⟩ = some (.int .i64 (vi (gv xs k) 2)) ∧ w.cell? ⟨b, o + k * 4 + 3, none⟩ = some (.int .i64 (vi (gv xs k) 3)) := by
  obtain ⟨b, o, e, hc⟩ := h.2 (by omega)
  exact ⟨b, o, e, hc k hk 0 (by omega), hc k hk 1 (by omega), hc k hk 2 (by omega), hc k hk 3 (by omega)⟩
theorem VecsAt.stays {w w' : World} {A : Option Addr} {n : Nat} {xs : List V} (h : VecsAt w A n xs) (hb : Below w.heap.size w w') : VecsAt w' A n xs :=
  ⟨h.1, fun hn => by
    obtain ⟨b, o, e, hc⟩ := h.2 hn
    exact ⟨b, o, e, fun k hk j hj => (hb.cell (p := ⟨b, o + k * 4 + j, none⟩) (cell?_block_lt (hc k hk j hj))).trans (hc k hk j hj)⟩⟩
theorem VecsAt.alloc {w : World} {A : Option Addr} {n : Nat} {xs : List V} (h : VecsAt w A n xs) (o : Obj) : VecsAt (w.alloc o) A n xs := h.stays ((Below.refl _ w).alloc (Nat.le_refl _) o)
/-- a slice that the call has made reads as what it owns -/
theorem VecsAt.own {w : World} {base e n c : Nat} {A : Option Addr} {xs : List V} (h : w.ownsRow base e 4 (.slice A n c) n (vcs xs)) : VecsAt w A n xs := by
  have hl : xs.length = n := by have := h.1; rw [vcs_len] at this; omega
  refine ⟨hl, fun hn => ?_⟩
  obtain ⟨g, cap, hv, _, _⟩ := h.form hn
  have hA : A = some ⟨g, 0, none⟩ := by injection hv
  subst hA
  refine ⟨g, 0, rfl, fun k hk j hj => ?_⟩
  have := h.cells (g := g) rfl (k * 4 + j) _ (vcs_at (by omega) hj)
  rw [Addr.add_lit] at this
  rw [← this]
  congr 2
  omega
/-- what a call that makes a slice of vectors leaves -/
def MadeVecs (base : Nat) (w : World) (e : TypeId) (xs : List V) (en : Ending) (w' : World) : Prop :=
  ∃ v : Value, en = .returned v ∧ w'.ownsRow base e 4 v xs.length (vcs xs) ∧ Below w.heap.size w w'
theorem ownsRow_slice {w : World} {base e size n : Nat} {v : Value} {xs : List Value} (h : w.ownsRow base e size v n xs) : ∃ A c, v = .slice A n c ∧ n ≤ c := by
  rcases h.2 with ⟨rfl, h0⟩ | ⟨g, cap, cur, rfl, _, _, hc, _⟩
  · exact ⟨none, 0, by rw [h0], by omega⟩
  · exact ⟨_, cap, rfl, hc⟩
theorem vc_new (w : World) (x : V) (t : TypeId) : ∀ j u, (vc x)[j]? = some u → (w.alloc (.cells #[.int .i64 (vi x 0), .int .i64 (vi x 1), .int .i64 (vi x 2), .int .i64 (vi x 3)] t)).cell? ((⟨w.heap.size, 0, none⟩ : Addr).add j) = some u := by
  intro j u hu
  rw [Addr.add_lit, World.cell?_alloc_at _ _ _ _ rfl, Nat.zero_add, ← hu]
  simp [vc]
theorem sameV_len {xs ys : List V} (h : xs.length ≠ ys.length) : Vec.sameV xs ys = false := by
  simp only [Vec.sameV, decide_eq_false_iff_not]
  intro e
  exact h (by rw [e])
theorem sameV_at {xs ys : List V} {k : Nat} (h : gv xs k ≠ gv ys k) : Vec.sameV xs ys = false := by
  simp only [Vec.sameV, decide_eq_false_iff_not]
  intro e
  subst e
  exact h rfl
theorem sameV_all {xs ys : List V} (h : xs.length = ys.length) (h2 : ∀ k, k < xs.length → gv xs k = gv ys k) : Vec.sameV xs ys = true := by
  simp only [Vec.sameV, decide_eq_true_eq]
  apply List.ext_getElem h
  intro i hi hj
  have := h2 i hi
  rwa [gv_eq hi, gv_eq hj] at this
theorem own_at {w : World} {base e g n c k : Nat} {xs : List V} (h : w.ownsRow base e 4 (.slice (some ⟨g, 0, none⟩) n c) n (vcs xs)) (hk : k < n) :
    w.cell? ⟨g, k * 4, none⟩ = some (.int .i64 (vi (gv xs k) 0)) ∧ w.cell? ⟨g, k * 4 + 1, none⟩ = some (.int .i64 (vi (gv xs k) 1)) ∧ w.cell? ⟨g, k * 4 + 2, none⟩ = some (.int .i64 (vi (gv xs k) 2)) ∧ w.cell? ⟨g, k * 4 + 3, none⟩ = some (.int .i64 (vi (gv xs k) 3)) := by
  have hl : xs.length = n := (VecsAt.own h).1
  have f : ∀ j, j < 4 → w.cell? ⟨g, k * 4 + j, none⟩ = some (.int .i64 (vi (gv xs k) j)) := fun j hj => by
    rw [h.cellAt _ (by omega), vcs_at (by omega) hj]
  exact ⟨f 0 (by omega), f 1 (by omega), f 2 (by omega), f 3 (by omega)⟩
theorem vcs_set {xs : List V} {k : Nat} (hk : k < xs.length) (x : V) : ((((vcs xs).set (k * 4) (.int .i64 (vi x 0))).set (k * 4 + 1) (.int .i64 (vi x 1))).set (k * 4 + 2) (.int .i64 (vi x 2))).set (k * 4 + 3) (.int .i64 (vi x 3)) = vcs (xs.set k x) := by
  induction xs generalizing k with
  | nil => simp at hk
  | cons y xs ih =>
    cases k with
    | zero => simp [vcs_cons, vc]
    | succ k =>
      have := ih (k := k) (by simpa using hk)
      rw [List.set_cons_succ, vcs_cons, vcs_cons, ← this]
      have e : ∀ (l : List Value) (j : Nat) (u : Value), (vc y ++ l).set ((k + 1) * 4 + j) u = vc y ++ l.set (k * 4 + j) u := fun l j u => by
        rw [List.set_append_right _ _ (by simp [vc]; omega)]
        congr 2
        simp [vc]
        omega
      have e0 := e (vcs xs) 0 (.int .i64 (vi x 0))
      simp only [Nat.add_zero] at e0
      rw [e0, e, e, e]
theorem keep_len (xs : List V) (v : V) (m : Nat) : (Vec.keepV (xs.take m) v).length ≤ m := Nat.le_trans (List.length_filter_le _ _) (by rw [List.length_take]; omega)
theorem keep_hit {xs : List V} {v : V} {m : Nat} (hm : m < xs.length) (h : Vec.domV v (gv xs m) = false) : Vec.keepV (xs.take (m + 1)) v = Vec.keepV (xs.take m) v ++ [gv xs m] := by
  unfold Vec.keepV
  rw [take_gv hm, List.filter_append]
  simp [h]
theorem keep_miss {xs : List V} {v : V} {m : Nat} (hm : m < xs.length) (h : Vec.domV v (gv xs m) = true) : Vec.keepV (xs.take (m + 1)) v = Vec.keepV (xs.take m) v := by
  unfold Vec.keepV
  rw [take_gv hm, List.filter_append]
  simp [h]
theorem cur_at {xs : List V} {v : V} {m k : Nat} (hm : m < xs.length) (hk : k = (Vec.keepV (xs.take m) v).length) : gv (Vec.keepV (xs.take m) v ++ xs.drop k) m = gv xs m := by
  have := keep_len xs v m
  unfold gv
  rw [List.getD_eq_getElem?_getD, List.getD_eq_getElem?_getD, List.getElem?_append_right (by omega), ← hk, List.getElem?_drop, show k + (m - k) = m by omega]
theorem cur_set {xs : List V} {v : V} {m k : Nat} (hm : m < xs.length) (hk : k = (Vec.keepV (xs.take m) v).length) (x : V) : (Vec.keepV (xs.take m) v ++ xs.drop k).set k x = (Vec.keepV (xs.take m) v ++ [x]) ++ xs.drop (k + 1) := by
  have := keep_len xs v m
  rw [List.set_append_right _ _ (by omega), ← hk, Nat.sub_self, List.drop_eq_getElem_cons (by omega), List.set_cons_zero]
  simp
theorem cur_len {xs : List V} {v : V} {m k : Nat} (hm : m ≤ xs.length) (hk : k = (Vec.keepV (xs.take m) v).length) : (Vec.keepV (xs.take m) v ++ xs.drop k).length = xs.length := by
  have := keep_len xs v m
  rw [List.length_append, ← hk, List.length_drop]
  omega
theorem low_take {ks : List V} {v : V} {j : Nat} (hj : j ≤ ks.length) (h : ∀ i, i < j → Vec.ltV (gv ks i) v = true) (he : j = ks.length ∨ Vec.ltV (gv ks j) v = false) : Vec.lowV ks v = ks.take j ∧ Vec.highV ks v = ks.drop j := by
  unfold Vec.lowV Vec.highV
  induction ks generalizing j with
  | nil => simp
  | cons x ks ih =>
    cases j with
    | zero =>
      have hx : Vec.ltV x v = false := by
        rcases he with he | he
        · simp at he
        · simpa [gv] using he
      simp [hx]
    | succ j =>
      have hx : Vec.ltV x v = true := by simpa [gv] using h 0 (by omega)
      have := ih (j := j) (by simpa using hj) (fun i hi => by simpa [gv] using h (i + 1) (by omega)) (by
        rcases he with he | he
        · left; simpa using he
        · right; simpa [gv] using he)
      simp [hx, this.1, this.2]
theorem cmp_neg {a b : V} : decide (Vec.cmpV a b < 0) = Vec.ltV a b := by
  unfold Vec.cmpV
  cases h1 : Vec.ltV a b
  · cases h2 : Vec.ltV b a <;> simp
  · simp
theorem vcs_drop (xs : List V) (j : Nat) : vcs (xs.drop j) = (vcs xs).drop (j * 4) := by
  induction xs generalizing j with
  | nil => simp [vcs]
  | cons x xs ih =>
    cases j with
    | zero => simp
    | succ j =>
      have e : (vc x).length = 4 := rfl
      rw [List.drop_succ_cons, ih, vcs_cons, List.drop_append, e, List.drop_of_length_le (l := vc x) (by rw [e]; omega), List.nil_append, show (j + 1) * 4 - 4 = j * 4 by omega]
theorem vcs_take (xs : List V) (j : Nat) : vcs (xs.take j) = (vcs xs).take (j * 4) := by
  induction xs generalizing j with
  | nil => simp [vcs]
  | cons x xs ih =>
    cases j with
    | zero => simp [vcs]
    | succ j =>
      have e : (vc x).length = 4 := rfl
      rw [List.take_succ_cons, vcs_cons, ih, vcs_cons, List.take_append, e, List.take_of_length_le (l := vc x) (by rw [e]; omega), show (j + 1) * 4 - 4 = j * 4 by omega]
/-- a piece of an own row, at the place where it begins -/
theorem own_piece {w : World} {base e g n c j : Nat} {ks zs : List V} (h : w.ownsRow base e 4 (.slice (some ⟨g, 0, none⟩) n c) n (vcs (ks ++ zs))) :
    ∀ i u, (vcs (ks.drop j))[i]? = some u → w.cell? ((⟨g, j * 4, none⟩ : Addr).add i) = some u := by
  intro i u hu
  have hl : i < (vcs (ks.drop j)).length := (List.getElem?_eq_some_iff.1 hu).1
  rw [vcs_len, List.length_drop] at hl
  have hjk : j ≤ ks.length := by omega
  rw [vcs_drop, List.getElem?_drop] at hu
  have := h.cells (g := g) rfl (j * 4 + i) u (by rw [vcs_app, List.getElem?_append_left (by rw [vcs_len]; omega)]; exact hu)
  rw [Addr.add_lit] at this ⊢
  rw [← this]
  congr 2
  omega
theorem own_head {w : World} {base e g n c j : Nat} {ks zs : List V} (h : w.ownsRow base e 4 (.slice (some ⟨g, 0, none⟩) n c) n (vcs (ks ++ zs))) (hj : j ≤ ks.length) :
    ∀ i u, (vcs (ks.take j))[i]? = some u → w.cell? ((⟨g, 0, none⟩ : Addr).add i) = some u := by
  intro i u hu
  refine h.cells (g := g) rfl i u ?_
  have hl : i < (vcs (ks.take j)).length := (List.getElem?_eq_some_iff.1 hu).1
  rw [vcs_take, List.getElem?_take] at hu
  rw [vcs_len, List.length_take] at hl
  rw [if_pos (by omega)] at hu
  rw [vcs_app, List.getElem?_append_left (by rw [vcs_len]; omega)]
  exact hu
theorem own_lt {w : World} {base e size g n c m : Nat} {xs : List Value} (h : w.ownsRow base e size (.slice (some ⟨g, 0, none⟩) n c) m xs) : g < w.heap.size := by
  rcases h.2 with ⟨h, _⟩ | ⟨g', cap, cur, h, _, hh, _⟩
  · cases h
  · cases h
    exact (Array.getElem?_eq_some_iff.1 hh).1
end Go.Proofs.Ytgcngipbjkmdoaa
