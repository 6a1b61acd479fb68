/-
  The reference's Merge, Insert, IsFront; the examples.
-/
import Derived.Test.YtgcngipbjkmdoaaRf
import Derived.Test.YtgcngipbjkmdoaaWith
import Derived.Laws.AppendOwnNone
namespace Go.Proofs.Ytgcngipbjkmdoaa
open Go.RowKit
open Vec (V vi leV eqV domV ltV cmpV covV putV frontV mergeV withinV)

section
variable {P : Program}
/-- append, onto a row of the call's own, of a row that a call has made -/
theorem wpList_append_row {w : World} {ops : Array Oper} {rest : List Oper} {o : Oper} {a : Act} {Q : Exit → Act → World → Prop} (hgd : o.guard = none) (s x : Operand) (t : TypeId)
    (ho : o.op = .call { callee := .builtin .append, args := #[s, x], argTypes := #[t, t] })
    (base : Nat) (e : TypeId) (i : TypeInfo) (z : Value) (size bytes : Nat) (ht : P.underlying t = some (.slice e)) (hi : P.info? e = some i) (hz : i.zero = some z)
    (hsize : i.size = size) (hby : i.bytes = bytes) (hzs : z.cells.size = size) (hsz : 0 < size)
    (v : Value) (n : Nat) (xs : List Value) (hs : a.eval s = v) (hown : w.ownsRow base e size v n xs)
    (b2 : Nat) (xv : Value) (m : Nat) (news : List Value) (hx : a.eval x = xv) (hsrc : w.ownsRow b2 e size xv m news) (h1 : ∀ u ∈ news, u.oneCell' = true)
    (h63 : n + m ≤ maxLen) (hbytes : (n + m) * bytes ≤ 140737488355328) (hbase : base ≤ w.heap.size)
    (h : ∀ v' w', w'.ownsRow base e size v' (n + m) (xs ++ news) → Below base w w' → wpList P ops Q rest (a.put o.dst v') w') : wpList P ops Q (o :: rest) a w := by
  rcases hsrc.2 with ⟨rfl, rfl⟩ | ⟨g, cap, cur, rfl, hb, hg, hr⟩
  · have hn : news = [] := List.eq_nil_of_length_eq_zero (by simpa using hsrc.1)
    subst hn
    exact wpList_append_own_none hgd s x t ho base e i size ht hi v n xs hs hown hx (h v w (by simpa using hown) (Below.refl _ _))
  · exact wpList_append_own w hgd s x t ho base e i z size bytes ht hi hz hsize hby hzs hsz v n xs hs hown ⟨g, 0, none⟩ m cap news hx hsrc.1 (hsrc.cells (g := g) rfl) h1 h63 hbytes hbase
      (fun v' w' hr' hg' _ => h v' w' hr' (below_own (Below.refl base w) hbase (Nat.le_refl _) hown hg'))
end

/-- a slice literal of one vector -/
theorem own_lit1 (w : World) (base : Nat) (hb : base ≤ w.heap.size) (x : V) (t : TypeId) : (w.alloc (.cells #[.int .i64 (vi x 0), .int .i64 (vi x 1), .int .i64 (vi x 2), .int .i64 (vi x 3)] t)).ownsRow base t 4 (.slice (some ⟨w.heap.size, 0, none⟩) 1 1) 1 (vcs [x]) :=
  ⟨by simp [vcs, vc], .inr ⟨w.heap.size, 1, #[.int .i64 (vi x 0), .int .i64 (vi x 1), .int .i64 (vi x 2), .int .i64 (vi x 3)], rfl, hb, by show (w.heap.push _)[w.heap.size]? = _; simp, Nat.le_refl _, by unfold maxLen; omega, rfl, by simp [vcs, vc]⟩⟩
theorem own_lit0 (w : World) (base : Nat) (hb : base ≤ w.heap.size) (t : TypeId) : (w.alloc (.cells #[] t)).ownsRow base t 4 (.slice (some ⟨w.heap.size, 0, none⟩) 0 0) 0 (vcs []) :=
  ⟨by simp [vcs], .inr ⟨w.heap.size, 0, #[], rfl, hb, by show (w.heap.push _)[w.heap.size]? = _; simp, Nat.le_refl _, by unfold maxLen; omega, rfl, by simp [vcs]⟩⟩

set_option maxHeartbeats 1000000 in
theorem rmerge_any (b1 b2 : Nat) (va vb : Value) (n m : Nat) (xs ys : List V) (w : World) (hx : w.ownsRow b1 26 4 va n (vcs xs)) (hy : w.ownsRow b2 26 4 vb m (vcs ys)) (hn : n + m ≤ 1000) :
    Calls Try.prog 27 #[va, vb] w fun e w' => MadeVecs w.heap.size w 26 (frontV (xs ++ ys)) e w' := by
  obtain ⟨i0, hi, hz0, hz1, hz2⟩ := info_parts infoR
  go_enter Try.func27, Try.ntmps27
  have hb0 : Below w.heap.size w (w.alloc (.cells #[] 26)) := balloc (Below.refl _ w) _ (Nat.le_refl _)
  have hx1 := ownsRow_stays hx hb0
  go_wp2_with (at_builtin; first
    | (refine wpList_append_row rfl (.tmp 5) (.tmp 6) 36 rfl w.heap.size 26 i0 (.agg #[.int .i64 0, .int .i64 0, .int .i64 0, .int .i64 0]) 4 32 Try.underlying36 hi hz0 hz1 hz2 rfl (by decide) _ 0 (vcs []) rfl (own_lit0 w w.heap.size (Nat.le_refl _) 26) b1 va n (vcs xs) rfl hx1 (vcs_one' xs) (by unfold maxLen; omega) (by omega) hb0.size ?_; intro v1 w1 hr1 hg1)
    | (refine wpList_append_row rfl (.tmp 7) (.tmp 8) 36 rfl w.heap.size 26 i0 (.agg #[.int .i64 0, .int .i64 0, .int .i64 0, .int .i64 0]) 4 32 Try.underlying36 hi hz0 hz1 hz2 rfl (by decide) v1 (0 + n) (vcs [] ++ vcs xs) rfl hr1 b2 vb m (vcs ys) rfl (ownsRow_stays hy (hb0.trans hg1)) (vcs_one' ys) (by unfold maxLen; omega) (by omega) (hb0.trans hg1).size ?_; intro v2 w2 hr2 hg2))
  have hb2 : Below w.heap.size w w2 := (hb0.trans hg1).trans hg2
  obtain ⟨A2, c2, rfl, hc2⟩ := ownsRow_slice hr2
  rw [← vcs_app, ← vcs_app, List.nil_append] at hr2
  refine (rfront_any _ _ _ (xs ++ ys) _ (VecsAt.own hr2) (by omega)).mono ?_
  rintro e w3 ⟨v3, rfl, hr3, hb3⟩
  have HR := Lib.hid (ownsRow_base hr3 hb2.size)
  have HB := Lib.hid (bthen hb2 hb3 (Nat.le_refl _))
  clear hr2 hr3 hb2 hb3 hg1 hg2 hr1 hb0 hx1 hx hy
  go_wp2
  go_ret
  exact ⟨v3, rfl, HR.out, HB.out⟩

set_option maxHeartbeats 4000000 in
theorem rinsert_any (b1 : Nat) (va : Value) (n : Nat) (xs : List V) (v : V) (w : World) (hx : w.ownsRow b1 26 4 va n (vcs xs)) (hn : n ≤ 900) :
    Calls Try.prog 16 #[va, .agg #[.int .i64 (vi v 0), .int .i64 (vi v 1), .int .i64 (vi v 2), .int .i64 (vi v 3)]] w fun e w' => MadeIns w.heap.size w 26 (frontV (xs ++ [v])) (!covV xs v) e w' := by
  obtain ⟨A, c, rfl, hcn⟩ := ownsRow_slice hx
  have HX := Lib.hid hx
  have H := Lib.hid (VecsAt.own hx)
  clear hx
  go_enter Try.func16, Try.ntmps16
  go_wp2
  obtain ⟨W, hW⟩ : ∃ W, W = w.alloc (.cells #[.int .i64 (vi v 0), .int .i64 (vi v 1), .int .i64 (vi v 2), .int .i64 (vi v 3)] 26) := ⟨_, rfl⟩
  have HW := Lib.hid hW
  rw [← hW]
  have hbW : Below w.heap.size w W := by rw [hW]; exact balloc (Below.refl _ w) _ (Nat.le_refl _)
  clear hW
  obtain ⟨c0, c1, c2, c3, hi⟩ := ins_at HW.out H.out (Below.refl _ W)
  have hsz : w.heap.size < W.heap.size := by rw [HW.out]; simp
  have hrW : (W.drewN 1).ownsRow b1 26 4 (.slice A n c) n (vcs xs) := ownsRow_stays HX.out (bdrewN hbW 1)
  have hbL : Below W.heap.size W ((W.drewN 1).alloc (.cells #[.int .i64 (vi v 0), .int .i64 (vi v 1), .int .i64 (vi v 2), .int .i64 (vi v 3)] 26)) := balloc (bdrewN (Below.refl _ W) 1) _ (Nat.le_refl _)
  go_region_law (first | (go_simp; go_at_call 27; refine (rmerge_any b1 W.heap.size _ _ n 1 xs [v] _ (hrW.alloc _) (own_lit1 (W.drewN 1) W.heap.size (Nat.le_refl _) v _) (by omega)).mono ?_; rintro e w2 ⟨v2, rfl, hr2, hb2⟩; have hB2 : Below W.heap.size W w2 := bthen hbL hb2 (Nat.le_refl _); obtain ⟨e0, e1, e2, e3, hi2⟩ := ins_at HW.out H.out hB2) | (go_simp; go_at_call 20; refine (rcovers_any _ _ _ xs v _ hi2.1 (by omega)).mono ?_; rintro e w3 ⟨rfl, hb3⟩; have hr3 := ownsRow_stays (ownsRow_base hr2 hbL.size) hb3; have hB3 : Below W.heap.size W w3 := bthen hB2 hb3 (Nat.le_refl _)))
  all_goals clear c0 c1 c3 e0 e1 e2 e3 hr2 hb2 hb3 hB2
  all_goals go_wp2
  all_goals go_ret2
  all_goals exact ⟨v2, rfl, ownsRow_base hr3 hbW.size, bthen hbW hB3 (Nat.le_refl _)⟩

set_option maxHeartbeats 1000000 in
theorem risfront_any (A : Option Addr) (n c : Nat) (xs : List V) (w : World) (hx : VecsAt w A n xs) (hn : n ≤ 1000) :
    Calls Try.prog 25 #[.slice A n c] w fun e w' => e = .returned (.bool (Vec.sameV xs (frontV xs))) ∧ Below w.heap.size w w' := by
  go_enter Try.func25, Try.ntmps25
  go_wp2_with fail
  refine (rfront_any _ _ _ xs _ hx hn).mono ?_
  rintro e w1 ⟨v1, rfl, hr1, hb1⟩
  obtain ⟨A2, c2, rfl, hc2⟩ := ownsRow_slice hr1
  have hl := frontV_len xs
  have hx1 := hx.stays hb1
  have hy1 := VecsAt.own hr1
  have hxl := hx.1
  have HXL := Lib.hid hxl
  have hfl : (frontV xs).length ≤ 1000000 := by omega
  clear hr1 hl hx hxl
  go_wp2_with fail
  refine (rsame_any _ _ _ _ _ _ xs (frontV xs) _ hx1 hy1 (by omega) hfl).mono ?_
  rintro e w2 ⟨rfl, q, rfl⟩
  clear hx1 hy1
  go_wp2
  go_ret
  exact ⟨rfl, bdrewN hb1 _⟩
end Go.Proofs.Ytgcngipbjkmdoaa
