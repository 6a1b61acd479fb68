/-
  The reference's Propagate.
-/
import Derived.Test.YtackadjhgklieaaDl2
namespace Go.Proofs.Ytackadjhgklieaa
open Go.RowKit

set_option maxHeartbeats 1000000 in
theorem first_any (A : Option Addr) (n c : Nat) (xs : List Call) (a : Nat) (s : Int) (w : World) (hx : SAt callC w A n xs) (hn : n ≤ 1000) (ha : a < n) (hs1 : -43200 ≤ s) (hs2 : s ≤ 43200) (hk : Ok xs n) :
    Calls Try.prog 24 #[.slice A n c, .int .i64 a, .int .i64 s] w fun e w' => e = .returned (.int .i64 (arrI xs a s a)) ∧ w = w' := by
  obtain ⟨b, o, hA, _⟩ := hx.at_ ha
  subst hA
  obtain ⟨c0, c1, c2, c3, c4⟩ := call_cells hx ha
  have hb0 := ok_bounds hk ha
  have hpb := prev_nonneg (k := a) fun j hj => hk j (by omega)
  have HA := Lib.hid (arr_first xs a s)
  have a0 : (0 : Int) ≤ (a : Int) := by omega
  have an : (a : Int) < (n : Int) := by omega
  by_cases h0 : a = 0
  · have h0' : ¬ (0 : Int) < (a : Int) := by omega
    have HP := Lib.hid (prev_zero (xs := xs) h0)
    rw [HP.out] at hb0 hpb
    clear h0 hx hk
    by_cases h : (gc xs a).arr + s < 0
    · go_enter Try.func24, Try.ntmps24
      go_wp2
      go_ret
      exact ⟨ret_int (by rw [HA.out, HP.out, if_pos h]), rfl⟩
    · go_enter Try.func24, Try.ntmps24
      go_wp2
      go_ret
      exact ⟨ret_int (by rw [HA.out, HP.out, if_neg (by omega)]), rfl⟩
  · have h0' : (0 : Int) < (a : Int) := by omega
    have HP := Lib.hid (prev_pos' (xs := xs) (k := a) (by omega))
    obtain ⟨d0, d1, d2, d3, d4⟩ := call_cells hx (show a - 1 < n by omega)
    rw [HP.out] at hb0 hpb
    clear h0 hx hk
    by_cases h : (gc xs a).arr + s < (gc xs (a - 1)).dep
    · go_enter Try.func24, Try.ntmps24
      go_wp2
      go_ret
      exact ⟨ret_int (by rw [HA.out, HP.out, if_pos h]), rfl⟩
    · go_enter Try.func24, Try.ntmps24
      go_wp2
      go_ret
      exact ⟨ret_int (by rw [HA.out, HP.out, if_neg (by omega)]), rfl⟩

set_option maxRecDepth 100000 in
set_option maxHeartbeats 2000000 in
theorem rprop_bad (A : Option Addr) (n c : Nat) (xs : List Call) (at_ s : Int) (w : World) (hx : SAt callC w A n xs) (hn : n ≤ 1000) (hbad : at_ < 0 ∨ (n : Int) ≤ at_ ∨ s < -43200 ∨ 43200 < s ∨ ordB xs = false) :
    Calls Try.prog 12 #[.slice A n c, .int .i64 at_, .int .i64 s] w fun e w' => PropRet xs at_ s w e w' := by
  have H := Lib.hid hx
  have HL := Lib.hid hx.1
  have r := Below.refl w.heap.size w
  clear hx
  by_cases h1 : at_ < 0
  · have HP := Lib.hid (prop_arg (xs := xs) (at_ := at_) (s := s) (.inl h1))
    clear hbad
    go_enter Try.func12, Try.ntmps12
    go_wp2
    go_ret2
    exact PropRet.err HP.out r
  by_cases h2 : (n : Int) ≤ at_
  · have HP := Lib.hid (prop_arg (xs := xs) (at_ := at_) (s := s) (.inr (by rw [HL.out]; exact h2)))
    clear hbad
    go_enter Try.func12, Try.ntmps12
    go_wp2
    go_ret2
    exact PropRet.err HP.out r
  have hat : ¬ (at_ < 0 ∨ (xs.length : Int) ≤ at_) := by rw [HL.out]; omega
  by_cases h3 : s < -43200
  · have HP := Lib.hid (prop_range (s := s) hat (.inl h3))
    clear hbad hat
    go_enter Try.func12, Try.ntmps12
    go_wp2
    go_ret2
    exact PropRet.err HP.out r
  by_cases h4 : 43200 < s
  · have HP := Lib.hid (prop_range (s := s) hat (.inr h4))
    clear hbad hat
    go_enter Try.func12, Try.ntmps12
    go_wp2
    go_ret2
    exact PropRet.err HP.out r
  have ho : ordB xs = false := by
    rcases hbad with h | h | h | h | h
    · exact absurd h h1
    · exact absurd h h2
    · exact absurd h h3
    · exact absurd h h4
    · exact h
  have HP := Lib.hid (prop_order (s := s) hat (by omega) ho)
  clear hbad hat
  go_enter Try.func12, Try.ntmps12
  go_wp2_with fail
  refine (rordered_any _ _ _ xs _ H.out hn).mono ?_
  rintro e w1 ⟨rfl, q1, rfl⟩
  go_wp2
  go_ret2
  exact PropRet.err HP.out (bdrewN (Below.refl _ _) _)

/-- a boxed call whose departure may be written -/
def BoxF (u : World) (B : Nat) (x : Call) : Prop := Box5 u B x ∧ u.frozen? ⟨B, 2, none⟩ = false
theorem BoxF.new (w : World) (x : Call) (t : TypeId) : BoxF (w.alloc (.cells #[.int .i64 x.stop, .int .i64 x.arr, .int .i64 x.dep, .bool x.board, .bool x.alight] t)) w.heap.size x := ⟨Box5.new _ _ _ _ rfl, by
  unfold World.frozen?
  rw [show (w.alloc _).heap[w.heap.size]? = _ from heap_alloc_new w _]
  rfl⟩
theorem BoxF.stays {w w' : World} {B : Nat} {x : Call} (h : BoxF w B x) (hb : Below w.heap.size w w') : BoxF w' B x :=
  ⟨h.1.stays hb, (hb.frozen (p := ⟨B, 2, none⟩) (cell?_block_lt h.1.2.2.1)).trans h.2⟩
theorem BoxF.setDep {w : World} {B : Nat} {x : Call} (h : BoxF w B x) {v d : Int} (hv : v = d) : BoxF (w.setCell ⟨B, 2, none⟩ (.int .i64 v)) B ⟨x.stop, x.arr, d, x.board, x.alight⟩ := by
  subst hv
  have f : ∀ (j : Nat) (u : Value), j ≠ 2 → w.cell? ⟨B, j, none⟩ = some u → (w.setCell ⟨B, 2, none⟩ (.int .i64 v)).cell? ⟨B, j, none⟩ = some u := fun j u hj hu => (World.cell?_setCell_other w ⟨B, 2, none⟩ ⟨B, j, none⟩ _ (fun e => by injection e with _ e; exact hj e.symm)).trans hu
  exact ⟨⟨f 0 _ (by omega) h.1.1, f 1 _ (by omega) h.1.2.1, World.cell?_setCell_same w ⟨B, 2, none⟩ _ h.1.2.2.1, f 3 _ (by omega) h.1.2.2.2.1, f 4 _ (by omega) h.1.2.2.2.2⟩, by simpa using h.2⟩
theorem six {u : World} {b o n k B : Nat} {xs : List Call} {x : Call} (h : SAt callC u (some ⟨b, o, none⟩) n xs) (hk : k < n) (hx : BoxF u B x) :
    u.cell? ⟨b, o + k * 5, none⟩ = some (.int .i64 (gc xs k).stop) ∧ u.cell? ⟨b, o + k * 5 + 1, none⟩ = some (.int .i64 (gc xs k).arr) ∧ u.cell? ⟨b, o + k * 5 + 2, none⟩ = some (.int .i64 (gc xs k).dep) ∧ u.cell? ⟨b, o + k * 5 + 3, none⟩ = some (.bool (gc xs k).board) ∧ u.cell? ⟨b, o + k * 5 + 4, none⟩ = some (.bool (gc xs k).alight) ∧ u.cell? ⟨B, 2, none⟩ = some (.int .i64 x.dep) := by
  obtain ⟨c0, c1, c2, c3, c4⟩ := call_cells h hk
  exact ⟨c0, c1, c2, c3, c4, hx.1.2.2.1⟩
theorem box_app {w w' : World} {B : Nat} {x : Call} {row : Option Nat} {o : Obj} (h : Box5 w B x) (hg : (w.alloc o).grownBy w' row) (hne : some B = row → False) : Box5 w' B x := by
  have hl := cell?_block_lt h.1
  have h' : Box5 (w.alloc o) B x := h.stays ((Below.refl _ w).alloc (Nat.le_refl _) o)
  have hn : some B ≠ row := hne
  exact ⟨hg.cell h'.1 hn, hg.cell h'.2.1 hn, hg.cell h'.2.2.1 hn, hg.cell h'.2.2.2.1 hn, hg.cell h'.2.2.2.2 hn⟩
/-- the changed list up to before k -/
def outL (xs : List Call) (a : Nat) (s : Int) (k : Nat) : List Call := (List.range k).map (lateC xs a s)
theorem out_len (xs : List Call) (a : Nat) (s : Int) (k : Nat) : (outL xs a s k).length = k := by simp [outL]
theorem out_succ (xs : List Call) (a : Nat) (s : Int) (k : Nat) : outL xs a s (k + 1) = outL xs a s k ++ [lateC xs a s k] := by simp [outL, List.range_succ]
theorem out_start {xs : List Call} {a : Nat} (s : Int) (ha : a ≤ xs.length) : outL xs a s a = xs.take a := by
  refine callC.g_ext (by rw [out_len, List.length_take]; omega) fun k hk => ?_
  rw [out_len] at hk
  rw [callC.g_eq (by rw [out_len]; exact hk), callC.g_of_take hk]
  simp [outL, lateC, hk, gc]
theorem out_end {xs : List Call} {a n : Nat} {s : Int} (hl : xs.length = n) : outL xs a s n = curL xs a s n := by
  subst hl
  unfold outL curL
  apply List.map_congr_left
  intro k hk
  rw [if_pos (List.mem_range.1 hk)]

set_option maxRecDepth 100000 in
set_option maxHeartbeats 4000000 in
theorem rprop_good (A : Option Addr) (n c : Nat) (xs : List Call) (a : Nat) (s : Int) (w : World) (hx : SAt callC w A n xs) (hn : n ≤ 1000) (hc : n ≤ c) (ha : a < n) (hs1 : -43200 ≤ s) (hs2 : s ≤ 43200) (ho : ordB xs = true) :
    Calls Try.prog 12 #[.slice A n c, .int .i64 a, .int .i64 s] w fun e w' => PropRet xs a s w e w' := by
  obtain ⟨i0, hi, hz0, hz1, hz2⟩ := info_parts call_info
  have H := Lib.hid hx
  have HL := Lib.hid hx.1
  have HO := Lib.hid ho
  have HK := Lib.hid (ord_ok' hx.1 ho)
  obtain ⟨b, o, hA, _⟩ := hx.at_ ha
  subst hA
  clear hx
  have a0 : (0 : Int) ≤ (a : Int) := by omega
  have an : (a : Int) < (n : Int) := by omega
  have ac : (a : Int) ≤ (c : Int) := by omega
  have n0 : (0 : Int) ≤ (n : Int) := by omega
  go_enter Try.func12, Try.ntmps12
  go_wp2_with fail
  refine (rordered_any _ _ _ xs _ H.out hn).mono ?_
  rintro e w1 ⟨rfl, q1, rfl⟩
  have H1 := Lib.hid (H.out.drewN q1)
  have HB1 := Lib.hid (bdrewN (Below.refl w.heap.size w) q1)
  obtain ⟨w1, hw1⟩ : ∃ w1, w1 = w.drewN q1 := ⟨_, rfl⟩
  rw [← hw1] at H1 HB1
  rw [← hw1]
  clear hw1
  go_wp2_with (at_builtin; refine wpList_append_sat (C := callC) rfl _ _ 22 rfl w1.heap.size 41 i0 (.agg #[.int .i64 0, .int .i64 0, .int .i64 0, .bool false, .bool false]) 32 Try.underlying22 hi hz0 hz1 hz2 rfl (by decide) (.slice none 0 0) 0 [] rfl (World.ownsRow_nil _ _ _ _) (some ⟨b, o, none⟩) a c (xs.take a) rfl (H1.out.take (Nat.le_of_lt ha)) (by unfold maxLen; omega) (by omega) (Nat.le_refl _) ?_; intro v2 w2 hr2 hb2)
  rw [Nat.zero_add, List.nil_append, ← out_start s (by rw [HL.out]; omega)] at hr2
  have HR := Lib.hid hr2
  have HB2 := Lib.hid hb2
  have H2 := Lib.hid (H1.out.stays hb2)
  clear hr2
  refine (first_any _ _ _ xs a s _ H2.out hn ha hs1 hs2 HK.out).mono ?_
  rintro e w' ⟨rfl, rfl⟩
  clear hb2
  go_wp2
  go_loopg [8, 9, 10] (n - a) (fun g v u i wx => ∃ (k : Nat) (q : Int), k + g = n ∧ a ≤ k ∧ i = .int .i64 k ∧ u = .int .i64 q ∧ Hid (k < n → q = arrI xs a s k) ∧ Hid (wx.ownsRow w1.heap.size 41 callC.sz v k (callC.all (outL xs a s k))) ∧ Hid (Timely xs a s k) ∧ Hid (Below w1.heap.size w1 wx))
  case atStart => exact ⟨a, _, by omega, Nat.le_refl _, rfl, rfl, Lib.hid (fun _ => rfl), HR, Lib.hid (fun k hk hi => absurd hi (by omega)), HB2⟩
  case round =>
    obtain ⟨k, q, hk, hak, rfl, rfl, HQ, HW, HT, HBL⟩ := hrel
    cases gk with
    | succ g2 =>
      have hlt : k < n := by omega
      have k0 : (0 : Int) ≤ (k : Int) := by omega
      have kn : (k : Int) < (n : Int) := by omega
      obtain rfl : q = arrI xs a s k := HQ.out hlt
      have hkb := ok_bounds HK.out hlt
      have hab := arr_bounds HK.out ha hlt hs1 hs2 HT.out
      have hdw := dwell_bounds (c := gc xs k) hkb.2.1
      have HSN : Hid (Sane (gc xs k)) := Lib.hid ⟨hkb.1, hkb.2.1, hkb.2.2.1⟩
      obtain ⟨c0, c1, c2, c3, c4⟩ := call_cells (H1.out.stays HBL.out) hlt
      go_upto_region 15 with fail
      obtain ⟨W0, hW0⟩ : ∃ W0, W0 = wr.alloc (.cells #[.int .i64 (gc xs k).stop, .int .i64 (arrI xs a s k), .int .i64 (gc xs k).dep, .bool (gc xs k).board, .bool (gc xs k).alight] 41) := ⟨_, rfl⟩
      rw [← hW0]
      have HX0 : Hid (BoxF W0 wr.heap.size ⟨(gc xs k).stop, arrI xs a s k, (gc xs k).dep, (gc xs k).board, (gc xs k).alight⟩) := Lib.hid (by rw [hW0]; exact BoxF.new wr ⟨(gc xs k).stop, arrI xs a s k, (gc xs k).dep, (gc xs k).board, (gc xs k).alight⟩ _)
      have HB0 : Hid (Below wr.heap.size wr W0) := Lib.hid (by rw [hW0]; exact balloc (Below.refl _ wr) _ (Nat.le_refl _))
      have HC := Lib.hid (H1.out.stays HBL.out)
      clear hW0 c0 c1 c2 c3 c4
      have hwr : IntKind.i64.wrap (arrI xs a s k + dwellI (gc xs k)) = arrI xs a s k + dwellI (gc xs k) := wrap64 (by omega) (by omega)
      go_cut [60] (fun s60 wx => s60 = .bool (decide ((gc xs k).dep < arrI xs a s k + dwellI (gc xs k))) ∧ Hid (BoxF wx wr.heap.size ⟨(gc xs k).stop, arrI xs a s k, (gc xs k).dep, (gc xs k).board, (gc xs k).alight⟩) ∧ Hid (Below wr.heap.size wr wx))
      case first =>
        have hS := six (HC.out.stays (HB0.out.drew)) hlt (HX0.out.stays (Below.refl _ _).drew)
        go_region_held3 (fun u => u.cell? ⟨b, o + k * 5, none⟩ = some (.int .i64 (gc xs k).stop) ∧ u.cell? ⟨b, o + k * 5 + 1, none⟩ = some (.int .i64 (gc xs k).arr) ∧ u.cell? ⟨b, o + k * 5 + 2, none⟩ = some (.int .i64 (gc xs k).dep) ∧ u.cell? ⟨b, o + k * 5 + 3, none⟩ = some (.bool (gc xs k).board) ∧ u.cell? ⟨b, o + k * 5 + 4, none⟩ = some (.bool (gc xs k).alight) ∧ u.cell? ⟨wr.heap.size, 2, none⟩ = some (.int .i64 (gc xs k).dep)) (exact hS) ((first | (go_simp; go_at_call 25; (with_reducible refine (rdwell_any (gc xs k) _ HSN.out).mono ?_); rintro e w5 ⟨rfl, hb5⟩; have HX5 := Lib.hid (HX0.out.stays (bthen (Below.refl _ W0).drew hb5 (Nat.le_refl _))); have HB5 := Lib.hid (bthen HB0.out.drew hb5 (Nat.le_refl _)); have hS := six (HC.out.stays HB5.out) hlt HX5.out; clear hb5)))
        all_goals go_wp2_with fail
        all_goals go_meet
        all_goals exact ⟨rfl, HX5, HB5⟩
      case rest =>
        obtain ⟨rfl, HX6, HB6⟩ := hcut
        clear HX0 HB0
        go_upto_if 60 with fail
        go_cut [] (fun wx => Hid (BoxF wx wr.heap.size ⟨(gc xs k).stop, arrI xs a s k, depI xs a s k, (gc xs k).board, (gc xs k).alight⟩) ∧ Hid (Below wr.heap.size wr wx))
        case first =>
          by_cases h : (gc xs k).dep < arrI xs a s k + dwellI (gc xs k)
          · have hde := Lib.hid (dep_lt hak h)
            have hdt : decide ((gc xs k).dep < arrI xs a s k + dwellI (gc xs k)) = true := decide_eq_true h
            obtain ⟨c0, c1, c2, c3, c4⟩ := call_cells (HC.out.stays HB6.out) hlt
            go_wp2_with fail
            refine (rdwell_any (gc xs k) _ HSN.out).mono ?_
            rintro e w7 ⟨rfl, hb7⟩
            have HX7 := Lib.hid (HX6.out.stays hb7)
            have HB7 := Lib.hid (bthen HB6.out hb7 (Nat.le_refl _))
            obtain ⟨x0, x1, x2, x3, x4⟩ := HX7.out.1
            have xf := HX7.out.2
            clear c0 c1 c2 c3 c4 hb7
            go_wp2_with fail
            go_meet
            exact ⟨Lib.hid (HX7.out.setDep hde.out.symm), Lib.hid (HB7.out.setCell (Nat.le_refl _) _)⟩
          · have hde := Lib.hid (dep_ge (a := a) (s := s) hak h)
            have hdt : decide ((gc xs k).dep < arrI xs a s k + dwellI (gc xs k)) = false := decide_eq_false h
            go_wp2_with fail
            go_meet
            exact ⟨Lib.hid (by rw [hde.out]; exact HX6.out), HB6⟩
        case rest =>
          obtain ⟨HX7, HB7⟩ := hcut
          clear HX6 HB6 hwr
          have hdd : (gc xs k).dep ≤ depI xs a s k := by
            by_cases h : (gc xs k).dep < arrI xs a s k + dwellI (gc xs k)
            · rw [dep_lt hak h]; omega
            · rw [dep_ge hak h]; omega
          obtain ⟨x0, x1, x2, x3, x4⟩ := HX7.out.1
          by_cases h5 : 3155932800 < depI xs a s k
          · have HF := Lib.hid (prop_late' HL.out ha (by omega) HO.out hak hlt h5)
            have HB8 := Lib.hid (bthen HB1.out (bthen HBL.out HB7.out (Nat.le_refl _)) (Nat.le_refl _))
            go_wp2
            go_ret2
            exact PropRet.err HF.out HB8.out
          · have HT2 := Lib.hid (HT.out.step (show depI xs a s k ≤ 3155932800 by omega))
            have hown := ownsRow_stays HW.out HB7.out
            have hBL7 := bthen HBL.out HB7.out (Nat.le_refl _)
            have hnb := HW.out.lt
            have HOS : Hid (outL xs a s (k + 1) = outL xs a s k ++ [⟨(gc xs k).stop, arrI xs a s k, depI xs a s k, (gc xs k).board, (gc xs k).alight⟩]) := Lib.hid (by rw [out_succ, late_at hak])
            by_cases hlast : k + 1 < n
            · have hl1' : (k : Int) + 1 < (n : Int) := by omega
              have hl2' : decide (k + 1 < n) = true := decide_eq_true hlast
              have hkb2 := ok_bounds HK.out hlast
              go_wp2_with (at_builtin; refine wpList_append_own _ rfl _ _ 22 rfl w1.heap.size 41 i0 (.agg #[.int .i64 0, .int .i64 0, .int .i64 0, .bool false, .bool false]) callC.sz 32 Try.underlying22 hi hz0 hz1 hz2 rfl (by decide) _ _ _ rfl (hown.alloc _) ⟨_, 0, none⟩ 1 1 (callC.cs ⟨(gc xs k).stop, arrI xs a s k, depI xs a s k, (gc xs k).board, (gc xs k).alight⟩) rfl rfl (cs_new callC _ _ _ _ rfl) (callC.one _) (by unfold maxLen; omega) (by omega) (by have := hBL7.size; simp; omega) ?_; intro v8 w8 hown' hgrow _)
              have HX8 := Lib.hid (box_app HX7.out.1 hgrow (fun e => by have := (hnb _ e.symm).2; omega))
              have HB8 := Lib.hid (below_app hBL7 hBL7.size (Nat.le_refl _) hown hgrow)
              have HO8 : Hid (w8.ownsRow w1.heap.size 41 callC.sz v8 (k + 1) (callC.all (outL xs a s (k + 1)))) := Lib.hid (by rw [HOS.out, callC.all_app, callC.all_one]; exact hown')
              clear hown hown' hgrow x0 x1 x2 x3 x4 hBL7 hnb
              obtain ⟨x0, x1, x2, x3, x4⟩ := HX8.out
              obtain ⟨c0, c1, c2, c3, c4⟩ := call_cells (H1.out.stays HB8.out) hlt
              obtain ⟨e0, e1, e2, e3, e4⟩ := call_cells (H1.out.stays HB8.out) hlast
              have hw1 : IntKind.i64.wrap ((k : Int) + 1) = (k : Int) + 1 := wrap64 (by omega) (by omega)
              have hw2 : (0 : Int) ≤ (k : Int) + 1 := by omega
              have hw3 : ((k : Int) + 1).toNat = k + 1 := by omega
              have hw4 : IntKind.i64.wrap ((gc xs (k + 1)).arr + depI xs a s k) = (gc xs (k + 1)).arr + depI xs a s k := wrap64 (by omega) (by omega)
              have hw5 : IntKind.i64.wrap ((gc xs (k + 1)).arr + depI xs a s k - (gc xs k).dep) = (gc xs (k + 1)).arr + depI xs a s k - (gc xs k).dep := wrap64 (by omega) (by omega)
              have HQ2 : Hid (k + 1 < n → (gc xs (k + 1)).arr + depI xs a s k - (gc xs k).dep = arrI xs a s (k + 1)) := Lib.hid (fun _ => (arr_next hak).symm)
              go_wp2
              go_quiet (fail)
              clear hw1 hw3 hw4 hw5 x0 x1 x2 x3 x4 c0 c1 c2 c3 c4 e0 e1 e2 e3 e4
              go_wp2
              go_roundg g2
              case rel => exact ⟨k + 1, _, by omega, by omega, by go_num, rfl, HQ2, Lib.hid (ownsRow_drewN HO8.out _), HT2, Lib.hid (bdrewN HB8.out _)⟩
              case measure => omega
            · have hl1' : ¬ (k : Int) + 1 < (n : Int) := by omega
              have hl2' : decide (k + 1 < n) = false := decide_eq_false hlast
              go_wp2_with (at_builtin; refine wpList_append_own _ rfl _ _ 22 rfl w1.heap.size 41 i0 (.agg #[.int .i64 0, .int .i64 0, .int .i64 0, .bool false, .bool false]) callC.sz 32 Try.underlying22 hi hz0 hz1 hz2 rfl (by decide) _ _ _ rfl (hown.alloc _) ⟨_, 0, none⟩ 1 1 (callC.cs ⟨(gc xs k).stop, arrI xs a s k, depI xs a s k, (gc xs k).board, (gc xs k).alight⟩) rfl rfl (cs_new callC _ _ _ _ rfl) (callC.one _) (by unfold maxLen; omega) (by omega) (by have := hBL7.size; simp; omega) ?_; intro v8 w8 hown' hgrow _)
              have HB8 := Lib.hid (below_app hBL7 hBL7.size (Nat.le_refl _) hown hgrow)
              have HO8 : Hid (w8.ownsRow w1.heap.size 41 callC.sz v8 (k + 1) (callC.all (outL xs a s (k + 1)))) := Lib.hid (by rw [HOS.out, callC.all_app, callC.all_one]; exact hown')
              clear hown hown' hgrow x0 x1 x2 x3 x4 hBL7 hnb
              have HQ2 : Hid (k + 1 < n → arrI xs a s k = arrI xs a s (k + 1)) := Lib.hid (fun h => absurd h hlast)
              go_wp2
              go_roundg g2
              case rel => exact ⟨k + 1, _, by omega, by omega, by go_num, rfl, HQ2, HO8, HT2, HB8⟩
              case measure => omega
    | zero =>
      obtain rfl : k = n := by omega
      have hd : ¬ ((k : Int) < (k : Int)) := by omega
      have HF := Lib.hid (prop_done' HL.out ha (by omega) HO.out HT.out)
      have HE := Lib.hid (out_end (a := a) (s := s) HL.out)
      go_wp2
      go_ret2
      exact PropRet.ok HF.out (by rw [cur_len, HL.out]) (by rw [← HE.out]; exact ownsRow_base HW.out HB1.out.size) (bthen HB1.out HBL.out (Nat.le_refl _))
end Go.Proofs.Ytackadjhgklieaa
