/-
  Propagate.
-/
import Derived.Test.YtackadjhgklieaaDl1
import Derived.Test.YtackadjhgklieaaRec2
import Derived.Test.YtackadjhgklieaaCopy
import Derived.Deep.RegionHeld3
import Derived.Deep.DeepCutAuto
namespace Go.Proofs.Ytackadjhgklieaa
open Go.RowKit

theorem call_info : (Try.prog.info? 41).map (fun i => (i.zero, i.size, i.bytes)) = some (some (.agg #[.int .i64 0, .int .i64 0, .int .i64 0, .bool false, .bool false]), 5, 32) := by kernel_rfl
theorem call_size : (Try.prog.info? 41).map (·.size) = some 5 := by kernel_rfl
/-- what Propagate leaves -/
def PropRet (xs : List Call) (at_ s : Int) (w : World) (e : Ending) (w' : World) : Prop :=
  ∃ v : Value, e = .returned (.tuple #[v, .int .i64 (propE xs at_ s)]) ∧ w'.ownsRow w.heap.size 41 5 v (propL xs at_ s).length (callC.all (propL xs at_ s)) ∧ Below w.heap.size w w'
theorem PropRet.err {xs : List Call} {at_ s f : Int} {w w' : World} (h : propE xs at_ s = f ∧ propL xs at_ s = []) (hb : Below w.heap.size w w') : PropRet xs at_ s w (.returned (.tuple #[.slice none 0 0, .int .i64 f])) w' := by
  refine ⟨.slice none 0 0, by rw [h.1], ?_, hb⟩
  rw [h.2]
  exact World.ownsRow_nil _ _ _ _
theorem PropRet.ok {xs l : List Call} {at_ s : Int} {n : Nat} {v : Value} {w w' : World} (h : propE xs at_ s = 0 ∧ propL xs at_ s = l) (hl : l.length = n) (ho : w'.ownsRow w.heap.size 41 callC.sz v n (callC.all l)) (hb : Below w.heap.size w w') : PropRet xs at_ s w (.returned (.tuple #[v, .int .i64 0])) w' := by
  refine ⟨v, by rw [h.1], ?_, hb⟩
  rw [h.2, hl]
  exact ho
theorem ownsRow_drewN {w : World} {base e size n : Nat} {v : Value} {xs : List Value} (h : w.ownsRow base e size v n xs) (q : Nat) : (w.drewN q).ownsRow base e size v n xs := ownsRow_stays h (bdrewN (Below.refl _ w) q)
theorem own_second {w : World} {base e g n c a k : Nat} {s : Int} {xs : List Call} {v : Int} (h : w.ownsRow base e callC.sz (.slice (some ⟨g, 0, none⟩) n c) n (callC.all ((curL xs a s k).set k ⟨(gc xs k).stop, arrI xs a s k, (gc xs k).dep, (gc xs k).board, (gc xs k).alight⟩)))
    (hl : xs.length = n) (hk : k < n) (ha : a ≤ k) (hv : v = depI xs a s k) : (w.setCell ⟨g, k * 5 + 2, none⟩ (.int .i64 v)).ownsRow base e callC.sz (.slice (some ⟨g, 0, none⟩) n c) n (callC.all (curL xs a s (k + 1))) := by
  subst hv
  have hl2 : (curL xs a s k).length = n := by rw [cur_len, hl]
  have := own_store h (k := k) (j := 2) (by rw [List.length_set, hl2]; exact hk) (by decide) (lateC xs a s k) (.int .i64 (depI xs a s k)) (by
    rw [callC.g_eq (by rw [List.length_set, hl2]; exact hk), List.getElem_set_self, late_at ha]
    rfl)
  rw [List.set_set, ← cur_step (by rw [hl]; exact hk)] at this
  exact this
theorem own_cells {w : World} {base e g n c k : Nat} {ys : List Call} (h : w.ownsRow base e callC.sz (.slice (some ⟨g, 0, none⟩) n c) n (callC.all ys)) (hk : k < n) :
    w.cell? ⟨g, k * 5 + 1, none⟩ = some (.int .i64 (gc ys k).arr) ∧ w.cell? ⟨g, k * 5 + 2, none⟩ = some (.int .i64 (gc ys k).dep) ∧ w.frozen? ⟨g, k * 5 + 1, none⟩ = false ∧ w.frozen? ⟨g, k * 5 + 2, none⟩ = false := by
  have hc := call_cells (SAt.own h (by decide)) hk
  simp only [Nat.zero_add] at hc
  exact ⟨hc.2.1, hc.2.2.1, h.frozenAt _, h.frozenAt _⟩
/-- the five cells of a boxed call -/
def Box5 (u : World) (B : Nat) (x : Call) : Prop := u.cell? ⟨B, 0, none⟩ = some (.int .i64 x.stop) ∧ u.cell? ⟨B, 1, none⟩ = some (.int .i64 x.arr) ∧ u.cell? ⟨B, 2, none⟩ = some (.int .i64 x.dep) ∧ u.cell? ⟨B, 3, none⟩ = some (.bool x.board) ∧ u.cell? ⟨B, 4, none⟩ = some (.bool x.alight)
theorem Box5.new (w : World) (x : Call) (t : TypeId) (n : Nat) (hn : w.heap.size = n) : Box5 (w.alloc (.cells #[.int .i64 x.stop, .int .i64 x.arr, .int .i64 x.dep, .bool x.board, .bool x.alight] t)) n x := by
  subst hn
  refine ⟨?_, ?_, ?_, ?_, ?_⟩ <;> (rw [World.cell?_alloc_at _ _ _ _ rfl]; rfl)
theorem Box5.stays {w w' : World} {B : Nat} {x : Call} (h : Box5 w B x) (hb : Below w.heap.size w w') : Box5 w' B x := by
  have hl := cell?_block_lt h.1
  have f : ∀ (j : Nat) (v : Value), w.cell? ⟨B, j, none⟩ = some v → w'.cell? ⟨B, j, none⟩ = some v := fun j v hv => (hb.cell (p := ⟨B, j, none⟩) hl).trans hv
  exact ⟨f _ _ h.1, f _ _ h.2.1, f _ _ h.2.2.1, f _ _ h.2.2.2.1, f _ _ h.2.2.2.2⟩
theorem Box5.far {w : World} {B : Nat} {x : Call} (h : Box5 w B x) {p : Addr} (hp : p.block ≠ B) (u : Value) : Box5 (w.setCell p u) B x := by
  have f : ∀ (j : Nat) (v : Value), w.cell? ⟨B, j, none⟩ = some v → (w.setCell p u).cell? ⟨B, j, none⟩ = some v := fun j v hv => (World.cell?_setCell_far w p ⟨B, j, none⟩ u hp).trans hv
  exact ⟨f _ _ h.1, f _ _ h.2.1, f _ _ h.2.2.1, f _ _ h.2.2.2.1, f _ _ h.2.2.2.2⟩
theorem vint {k : IntKind} {a b : Int} (h : a = b) : Value.int k a = .int k b := by rw [h]
theorem prev_pos' {xs : List Call} {k : Nat} (h : 0 < k) : prevD xs k = (gc xs (k - 1)).dep := if_neg (by omega)
theorem ord_ok' {xs : List Call} {n : Nat} (hl : xs.length = n) (h : ordB xs = true) : Ok xs n := ord_inv hl h

set_option maxRecDepth 100000 in
set_option maxHeartbeats 2000000 in
theorem prop_bad (A : Option Addr) (n c : Nat) (xs : List Call) (at_ s : Int) (w : World) (hx : SAt callC w A n xs) (hn : n ≤ 1000) (hbad : at_ < 0 ∨ (n : Int) ≤ at_ ∨ s < -43200 ∨ 43200 < s ∨ ordB xs = false) :
    Calls Try.prog 11 #[.slice A n c, .int .i64 at_, .int .i64 s] w fun e w' => PropRet xs at_ s w e w' := by
  have H := Lib.hid hx
  have HL := Lib.hid hx.1
  have r := Below.refl w.heap.size w
  clear hx
  by_cases h1 : at_ < 0
  · have HP := Lib.hid (prop_arg (xs := xs) (at_ := at_) (s := s) (.inl h1))
    clear hbad
    go_enter Try.func11, Try.ntmps11
    go_wp2
    go_ret2
    exact PropRet.err HP.out r
  by_cases h2 : (n : Int) ≤ at_
  · have HP := Lib.hid (prop_arg (xs := xs) (at_ := at_) (s := s) (.inr (by rw [HL.out]; exact h2)))
    clear hbad
    go_enter Try.func11, Try.ntmps11
    go_wp2
    go_ret2
    exact PropRet.err HP.out r
  have hat : ¬ (at_ < 0 ∨ (xs.length : Int) ≤ at_) := by rw [HL.out]; omega
  by_cases h3 : s < -43200
  · have HP := Lib.hid (prop_range (s := s) hat (.inl h3))
    clear hbad hat
    go_enter Try.func11, Try.ntmps11
    go_wp2
    go_ret2
    exact PropRet.err HP.out r
  by_cases h4 : 43200 < s
  · have HP := Lib.hid (prop_range (s := s) hat (.inr h4))
    clear hbad hat
    go_enter Try.func11, Try.ntmps11
    go_wp2
    go_ret2
    exact PropRet.err HP.out r
  have ho : ordB xs = false := by
    rcases hbad with h | h | h | h | h
    · exact absurd h h1
    · exact absurd h h2
    · exact absurd h h3
    · exact absurd h h4
    · exact h
  have HP := Lib.hid (prop_order (s := s) hat (by omega) ho)
  clear hbad hat
  go_enter Try.func11, Try.ntmps11
  go_wp2_with fail
  refine (ordered_any _ _ _ xs _ H.out hn).mono ?_
  rintro e w1 ⟨rfl, hb1⟩
  go_wp2
  go_ret2
  exact PropRet.err HP.out hb1

set_option maxRecDepth 100000 in
set_option maxHeartbeats 4000000 in
theorem prop_good (A : Option Addr) (n c : Nat) (xs : List Call) (a : Nat) (s : Int) (w : World) (hx : SAt callC w A n xs) (hn : n ≤ 1000) (ha : a < n) (hs1 : -43200 ≤ s) (hs2 : s ≤ 43200) (ho : ordB xs = true) :
    Calls Try.prog 11 #[.slice A n c, .int .i64 a, .int .i64 s] w fun e w' => PropRet xs a s w e w' := by
  obtain ⟨i0, hi, hz0, hz1, hz2⟩ := info_parts call_info
  have H := Lib.hid hx
  have HL := Lib.hid hx.1
  have HO := Lib.hid ho
  have HK := Lib.hid (ord_ok' hx.1 ho)
  obtain ⟨b, o, hA, _⟩ := hx.at_ ha
  subst hA
  clear hx
  have a0 : (0 : Int) ≤ (a : Int) := by omega
  have an : (a : Int) < (n : Int) := by omega
  have n0 : (0 : Int) ≤ (n : Int) := by omega
  go_enter Try.func11, Try.ntmps11
  go_wp2_with fail
  refine (ordered_any _ _ _ xs _ H.out hn).mono ?_
  rintro e w1 ⟨rfl, hb1⟩
  have H1 := Lib.hid (H.out.stays hb1)
  go_upto_if 40 with (first | (at_make; refine wpList_make_full _ rfl _ _ 22 rfl w1.heap.size 41 i0 (.agg #[.int .i64 0, .int .i64 0, .int .i64 0, .bool false, .bool false]) 5 Try.underlying22 hi hz0 hz1 .i64 .i64 _ _ n rfl rfl (by omega) (by omega) (by rw [hz2]; omega) (by unfold maxLen; omega) (Nat.le_refl _) ?_; intro w2 hr2 hg2; have hb2 : Below w1.heap.size w1 w2 := (Below.refl _ w1).grown hg2 (Nat.le_refl _) (by simp)) | (refine wpList_copy_whole rfl (.tmp 36) (.tmp 37) 22 22 rfl 41 5 Try.underlying22 call_size w1.heap.size (.slice (some ⟨w1.heap.size, 0, none⟩) n n) n _ _ _ rfl rfl hr2 (callC.all xs) (by rw [callC.all_len, HL.out]; rfl) (fun hp => ⟨_, rfl, (H1.out.stays hb2).cells_all (by decide)⟩) (callC.all_one' _) ?_; intro w3 hr3 hb3))
  have HR := Lib.hid hr3
  have HB3 := Lib.hid (hb2.trans hb3)
  clear hr3 hr2 hg2 hb2 hb3
  go_cut [9] (fun s9 wx => s9 = .int .i64 (prevD xs a) ∧ wx = w3)
  case first =>
    by_cases h0 : a = 0
    · have h0' : ¬ (0 : Int) < (a : Int) := by omega
      have HP := Lib.hid (prev_zero (xs := xs) h0)
      clear h0
      go_wp2_with fail
      go_meet
      exact ⟨vint HP.out.symm, rfl⟩
    · have h0' : (0 : Int) < (a : Int) := by omega
      have HP := Lib.hid (prev_pos' (xs := xs) (k := a) (by omega))
      obtain ⟨c0, c1, c2, c3, c4⟩ := call_cells (H1.out.stays HB3.out) (show a - 1 < n by omega)
      clear h0
      go_wp2_with fail
      go_meet
      exact ⟨vint HP.out.symm, rfl⟩
  case rest =>
    obtain ⟨rfl, hwc⟩ := hcut
    subst hwc
    have H3 := Lib.hid (H1.out.stays HB3.out)
    have hb0 := ok_bounds HK.out ha
    have hpb := prev_nonneg (k := a) fun j hj => HK.out j (by omega)
    go_upto_region 12 with fail
    go_cut [10] (fun s10 wx => s10 = .int .i64 (arrI xs a s a) ∧ wx = wc)
    case first =>
      obtain ⟨c0, c1, c2, c3, c4⟩ := call_cells H3.out ha
      have HA := Lib.hid (arr_first xs a s)
      rcases Int.lt_trichotomy ((gc xs a).arr + s) (prevD xs a) with h | h | h
      · go_wp2_with fail
        go_meet
        exact ⟨vint (by rw [HA.out, if_pos h]), rfl⟩
      · have HE := Lib.hid h
        clear h
        have h5 : (gc xs a).arr + s ≤ prevD xs a := by have := HE.out; omega
        have h6 : prevD xs a ≤ (gc xs a).arr + s := by have := HE.out; omega
        go_wp2_with fail
        go_meet
        exact ⟨vint (by rw [HA.out, if_neg (by omega)]), rfl⟩
      · go_wp2_with fail
        go_meet
        exact ⟨vint (by rw [HA.out, if_neg (by omega)]), rfl⟩
    case rest =>
      obtain ⟨rfl, hwd⟩ := hcut
      subst hwd
      clear hb0 hpb
      have HR := Lib.hid (show wc.ownsRow w1.heap.size 41 callC.sz (.slice (some ⟨w1.heap.size, 0, none⟩) n n) n (callC.all (curL xs a s 0)) by rw [cur_zero]; exact HR.out)
      go_wp2
      go_loopg [10, 58] n (fun g u i wx => ∃ (k : Nat) (q : Int), k + g = n ∧ i = .int .i64 k ∧ u = .int .i64 q ∧ Hid (k < n → q = arrI xs a s k) ∧ Hid (wx.ownsRow w1.heap.size 41 callC.sz (.slice (some ⟨w1.heap.size, 0, none⟩) n n) n (callC.all (curL xs a s k))) ∧ Hid (Timely xs a s k) ∧ Below w1.heap.size w1 wx)
      case atStart => exact ⟨0, _, by omega, rfl, rfl, Lib.hid (fun _ => by unfold arrI; rw [Nat.sub_self, Nat.zero_sub]), HR, Lib.hid (fun k _ hi => absurd hi (by omega)), HB3.out⟩
      case round =>
        obtain ⟨k, q, hk, rfl, rfl, HQ, HW, HT, hbel⟩ := hrel
        cases gk with
        | succ g2 =>
          have hlt : k < n := by omega
          have k0 : (0 : Int) ≤ (k : Int) := by omega
          have kn : (k : Int) < (n : Int) := by omega
          by_cases hka : k < a
          · have hka' : (k : Int) < (a : Int) := by omega
            have HQ2 : Hid (k + 1 < n → q = arrI xs a s (k + 1)) := Lib.hid (fun _ => by rw [arr_skip hka]; exact HQ.out hlt)
            have HW2 : Hid (wr.ownsRow w1.heap.size 41 callC.sz (.slice (some ⟨w1.heap.size, 0, none⟩) n n) n (callC.all (curL xs a s (k + 1)))) := Lib.hid (by rw [cur_skip hka]; exact HW.out)
            have HBL := Lib.hid hbel
            clear hbel
            go_wp2
            go_roundg g2
            case rel => exact ⟨k + 1, q, by omega, by go_num, rfl, HQ2, HW2, Lib.hid (Timely.skip hka), HBL.out⟩
            case measure => omega
          · have hka' : ¬ (k : Int) < (a : Int) := by omega
            have hak : a ≤ k := by omega
            obtain rfl : q = arrI xs a s k := HQ.out hlt
            have hkb := ok_bounds HK.out hlt
            have hab := arr_bounds HK.out ha hlt hs1 hs2 HT.out
            have hdw := dwell_bounds (c := gc xs k) hkb.2.1
            have HSN : Hid (Sane (gc xs k)) := Lib.hid ⟨hkb.1, hkb.2.1, hkb.2.2.1⟩
            obtain ⟨c0, c1, c2, c3, c4⟩ := call_cells (H1.out.stays hbel) hlt
            obtain ⟨hg1, hg2⟩ := own_lt HW.out
            obtain ⟨d1, d2, f1, f2⟩ := own_cells (ownsRow_stays HW.out (balloc (Below.refl _ wr) (.cells #[.int .i64 (gc xs k).stop, .int .i64 (gc xs k).arr, .int .i64 (gc xs k).dep, .bool (gc xs k).board, .bool (gc xs k).alight] 41) (Nat.le_refl _))) hlt
            have hl1 : (curL xs a s k).length = n := by rw [cur_len, HL.out]
            have HW1 := Lib.hid (own_store HW.out (k := k) (j := 1) (by rw [hl1]; exact hlt) (by decide) ⟨(gc xs k).stop, arrI xs a s k, (gc xs k).dep, (gc xs k).board, (gc xs k).alight⟩ (.int .i64 (arrI xs a s k)) (by show _ = (callC.cs (gc (curL xs a s k) k)).set 1 _; rw [cur_at (by rw [HL.out]; exact hlt), if_neg (by omega)]; rfl))
            have HBL := Lib.hid hbel
            clear hbel
            go_upto_region 19 with fail
            obtain ⟨W0, hW0⟩ : ∃ W0, W0 = (wr.setCell ⟨w1.heap.size, k * 5 + 1, none⟩ (.int .i64 (arrI xs a s k))).alloc (.cells #[.int .i64 (gc xs k).stop, .int .i64 (gc xs k).arr, .int .i64 (gc xs k).dep, .bool (gc xs k).board, .bool (gc xs k).alight] 41) := ⟨_, rfl⟩
            rw [← hW0]
            have hX0 : Box5 W0 wr.heap.size (gc xs k) := by rw [hW0]; exact Box5.new _ _ _ _ (by simp)
            have hs0 : W0.heap.size = wr.heap.size + 1 := by rw [hW0]; simp
            have HW0 : Hid (W0.ownsRow w1.heap.size 41 callC.sz (.slice (some ⟨w1.heap.size, 0, none⟩) n n) n (callC.all ((curL xs a s k).set k ⟨(gc xs k).stop, arrI xs a s k, (gc xs k).dep, (gc xs k).board, (gc xs k).alight⟩))) := Lib.hid (by rw [hW0]; exact HW1.out.alloc _)
            have HB0 : Hid (Below w1.heap.size w1 W0) := Lib.hid (by rw [hW0]; exact (HBL.out.setCell (by omega) _).alloc (by simp; exact HBL.out.size) _)
            clear hW0 c0 c1 c2 c3 c4 d1 d2 f1 f2 HW1
            go_cut [] (fun wx => Hid (wx.ownsRow w1.heap.size 41 callC.sz (.slice (some ⟨w1.heap.size, 0, none⟩) n n) n (callC.all (curL xs a s (k + 1)))) ∧ Hid (Box5 wx wr.heap.size (gc xs k)) ∧ Hid (Below w1.heap.size w1 wx))
            case first =>
              have hS : Box5 W0.drew wr.heap.size (gc xs k) := hX0.stays (Below.refl _ _).drew
              have hwr : IntKind.i64.wrap (arrI xs a s k + dwellI (gc xs k)) = arrI xs a s k + dwellI (gc xs k) := wrap64 (by omega) (by omega)
              have hwd : IntKind.i64.wrap (gc xs k).dep = (gc xs k).dep := wrap64 (by omega) (by omega)
              rcases Int.lt_trichotomy (gc xs k).dep (arrI xs a s k + dwellI (gc xs k)) with h | h | h
              · have hd := Lib.hid (dep_lt hak h)
                go_region_held3 (fun u => u.cell? ⟨wr.heap.size, 0, none⟩ = some (.int .i64 (gc xs k).stop) ∧ u.cell? ⟨wr.heap.size, 1, none⟩ = some (.int .i64 (gc xs k).arr) ∧ u.cell? ⟨wr.heap.size, 2, none⟩ = some (.int .i64 (gc xs k).dep) ∧ u.cell? ⟨wr.heap.size, 3, none⟩ = some (.bool (gc xs k).board) ∧ u.cell? ⟨wr.heap.size, 4, none⟩ = some (.bool (gc xs k).alight)) ((first | exact hS | exact Box5.far hS (Nat.ne_of_lt hg1) _)) ((first | (go_simp; go_at_call 22; (with_reducible refine (dwell_any (gc xs k) _ HSN.out).mono ?_); rintro e w5 ⟨rfl, hb5⟩; have hS := hS.stays hb5; have HW5 := Lib.hid (ownsRow_stays (show W0.drew.ownsRow _ _ _ _ _ _ from HW0.out) hb5); have HB5 := Lib.hid (bthen (HB0.out.drew) hb5 (Nat.le_refl _)); obtain ⟨d1, d2, f1, f2⟩ := own_cells HW5.out hlt; clear hb5)))
                all_goals go_wp2_with fail
                all_goals go_meet
                all_goals exact ⟨Lib.hid (own_second HW5.out HL.out hlt hak hd.out.symm), Lib.hid (hS.far (Nat.ne_of_lt hg1) _), Lib.hid (HB5.out.setCell (Nat.le_refl _) _)⟩
              · have hd := Lib.hid (dep_ge (a := a) (s := s) hak (show ¬ (gc xs k).dep < arrI xs a s k + dwellI (gc xs k) by omega))
                have he := h.symm
                clear h
                go_region_held3 (fun u => u.cell? ⟨wr.heap.size, 0, none⟩ = some (.int .i64 (gc xs k).stop) ∧ u.cell? ⟨wr.heap.size, 1, none⟩ = some (.int .i64 (gc xs k).arr) ∧ u.cell? ⟨wr.heap.size, 2, none⟩ = some (.int .i64 (gc xs k).dep) ∧ u.cell? ⟨wr.heap.size, 3, none⟩ = some (.bool (gc xs k).board) ∧ u.cell? ⟨wr.heap.size, 4, none⟩ = some (.bool (gc xs k).alight)) ((first | exact hS | exact Box5.far hS (Nat.ne_of_lt hg1) _)) ((first | (go_simp; go_at_call 22; (with_reducible refine (dwell_any (gc xs k) _ HSN.out).mono ?_); rintro e w5 ⟨rfl, hb5⟩; have hS := hS.stays hb5; have HW5 := Lib.hid (ownsRow_stays (show W0.drew.ownsRow _ _ _ _ _ _ from HW0.out) hb5); have HB5 := Lib.hid (bthen (HB0.out.drew) hb5 (Nat.le_refl _)); obtain ⟨d1, d2, f1, f2⟩ := own_cells HW5.out hlt; clear hb5)))
                all_goals go_wp2_with fail
                all_goals go_meet
                all_goals exact ⟨Lib.hid (own_second HW5.out HL.out hlt hak hd.out.symm), Lib.hid (hS.far (Nat.ne_of_lt hg1) _), Lib.hid (HB5.out.setCell (Nat.le_refl _) _)⟩
              · have hd := Lib.hid (dep_ge (a := a) (s := s) hak (show ¬ (gc xs k).dep < arrI xs a s k + dwellI (gc xs k) by omega))
                go_region_held3 (fun u => u.cell? ⟨wr.heap.size, 0, none⟩ = some (.int .i64 (gc xs k).stop) ∧ u.cell? ⟨wr.heap.size, 1, none⟩ = some (.int .i64 (gc xs k).arr) ∧ u.cell? ⟨wr.heap.size, 2, none⟩ = some (.int .i64 (gc xs k).dep) ∧ u.cell? ⟨wr.heap.size, 3, none⟩ = some (.bool (gc xs k).board) ∧ u.cell? ⟨wr.heap.size, 4, none⟩ = some (.bool (gc xs k).alight)) ((first | exact hS | exact Box5.far hS (Nat.ne_of_lt hg1) _)) ((first | (go_simp; go_at_call 22; (with_reducible refine (dwell_any (gc xs k) _ HSN.out).mono ?_); rintro e w5 ⟨rfl, hb5⟩; have hS := hS.stays hb5; have HW5 := Lib.hid (ownsRow_stays (show W0.drew.ownsRow _ _ _ _ _ _ from HW0.out) hb5); have HB5 := Lib.hid (bthen (HB0.out.drew) hb5 (Nat.le_refl _)); obtain ⟨d1, d2, f1, f2⟩ := own_cells HW5.out hlt; clear hb5)))
                all_goals go_wp2_with fail
                all_goals go_meet
                all_goals exact ⟨Lib.hid (own_second HW5.out HL.out hlt hak hd.out.symm), Lib.hid (hS.far (Nat.ne_of_lt hg1) _), Lib.hid (HB5.out.setCell (Nat.le_refl _) _)⟩
            case rest =>
              obtain ⟨HW6, HX6, HB6⟩ := hcut
              have hcur : gc (curL xs a s (k + 1)) k = lateC xs a s k := by rw [cur_at (by rw [HL.out]; exact hlt), if_pos (by omega)]
              obtain ⟨d1, d2, f1, f2⟩ := own_cells HW6.out hlt
              rw [hcur, late_at hak] at d2
              obtain ⟨x0, x1, x2, x3, x4⟩ := HX6.out
              have hdd : (gc xs k).dep ≤ depI xs a s k := by
                by_cases h : (gc xs k).dep < arrI xs a s k + dwellI (gc xs k)
                · rw [dep_lt hak h]; omega
                · rw [dep_ge hak h]; omega
              clear hcur d1 f1 f2 hX0 hs0
              by_cases h5 : 3155932800 < depI xs a s k
              · have HF := Lib.hid (prop_late' HL.out ha (by omega) HO.out hak hlt h5)
                have HB7 := Lib.hid (bthen hb1 HB6.out (Nat.le_refl _))
                go_wp2
                go_ret2
                exact PropRet.err HF.out HB7.out
              · have HT2 := Lib.hid (HT.out.step (show depI xs a s k ≤ 3155932800 by omega))
                by_cases hlast : k + 1 < n
                · have hl1' : (k : Int) + 1 < (n : Int) := by omega
                  have hl2' : decide (k + 1 < n) = true := decide_eq_true hlast
                  have hkb2 := ok_bounds HK.out hlast
                  obtain ⟨e0, e1, e2, e3, e4⟩ := call_cells (H1.out.stays HB6.out) hlast
                  have hw1 : IntKind.i64.wrap ((k : Int) + 1) = (k : Int) + 1 := wrap64 (by omega) (by omega)
                  have hw2 : (0 : Int) ≤ (k : Int) + 1 := by omega
                  have hw3 : ((k : Int) + 1).toNat = k + 1 := by omega
                  have hw4 : IntKind.i64.wrap ((gc xs (k + 1)).arr + depI xs a s k) = (gc xs (k + 1)).arr + depI xs a s k := wrap64 (by omega) (by omega)
                  have hw5 : IntKind.i64.wrap ((gc xs (k + 1)).arr + depI xs a s k - (gc xs k).dep) = (gc xs (k + 1)).arr + depI xs a s k - (gc xs k).dep := wrap64 (by omega) (by omega)
                  have HQ2 : Hid (k + 1 < n → (gc xs (k + 1)).arr + depI xs a s k - (gc xs k).dep = arrI xs a s (k + 1)) := Lib.hid (fun _ => (arr_next hak).symm)
                  go_wp2
                  go_quiet (fail)
                  clear hw1 hw3 hw4 hw5 d2 x0 x1 x2 x3 x4 e0 e1 e2 e3 e4
                  go_wp2
                  go_roundg g2
                  case rel => exact ⟨k + 1, _, by omega, by go_num, rfl, HQ2, Lib.hid (ownsRow_drewN HW6.out _), HT2, bdrewN HB6.out _⟩
                  case measure => omega
                · have hl1' : ¬ (k : Int) + 1 < (n : Int) := by omega
                  have hl2' : decide (k + 1 < n) = false := decide_eq_false hlast
                  have HQ2 : Hid (k + 1 < n → arrI xs a s k = arrI xs a s (k + 1)) := Lib.hid (fun h => absurd h hlast)
                  go_wp2
                  go_roundg g2
                  case rel => exact ⟨k + 1, _, by omega, by go_num, rfl, HQ2, HW6, HT2, HB6.out⟩
                  case measure => omega
        | zero =>
          obtain rfl : k = n := by omega
          have hd : ¬ ((k : Int) < (k : Int)) := by omega
          have HF := Lib.hid (prop_done' HL.out ha (by omega) HO.out HT.out)
          go_wp2
          go_ret2
          exact PropRet.ok HF.out (by rw [cur_len, HL.out]) (ownsRow_base HW.out hb1.size) (bthen hb1 hbel (Nat.le_refl _))
end Go.Proofs.Ytackadjhgklieaa
