/-
  The reference's Front.
-/
import Derived.Test.YtgcngipbjkmdoaaIns
import Derived.Test.YtgcngipbjkmdoaaRfLaw
import Derived.Test.YtgcngipbjkmdoaaSub
namespace Go.Proofs.Ytgcngipbjkmdoaa
open Go.RowKit
open Vec (V vi leV eqV domV ltV cmpV dominV frontV)

/-- the four cells of a vector -/
theorem vec_cells {w : World} {b o n k : Nat} {xs : List V} (h : VecsAt w (some ⟨b, o, none⟩) n xs) (hk : k < n) :
    w.cell? ⟨b, o + k * 4, none⟩ = some (.int .i64 (vi (gv xs k) 0)) ∧ w.cell? ⟨b, o + k * 4 + 1, none⟩ = some (.int .i64 (vi (gv xs k) 1)) ∧ w.cell? ⟨b, o + k * 4 + 2, none⟩ = some (.int .i64 (vi (gv xs k) 2)) ∧ w.cell? ⟨b, o + k * 4 + 3, none⟩ = some (.int .i64 (vi (gv xs k) 3)) := by
  obtain ⟨b', o', e, h0, h1, h2, h3⟩ := h.at_ hk
  injection e with e
  injection e with e1 e2
  subst e1 e2
  exact ⟨h0, h1, h2, h3⟩
/-- the four cells of a vector, in every world above wo -/
theorem sub_cells {wo : World} {b o n k : Nat} {xs : List V} (h : VecsAt wo (some ⟨b, o, none⟩) n xs) (hk : k < n) :
    (∀ x : Sub wo, x.u.cell? ⟨b, o + k * 4, none⟩ = some (.int .i64 (vi (gv xs k) 0))) ∧ (∀ x : Sub wo, x.u.cell? ⟨b, o + k * 4 + 1, none⟩ = some (.int .i64 (vi (gv xs k) 1))) ∧ (∀ x : Sub wo, x.u.cell? ⟨b, o + k * 4 + 2, none⟩ = some (.int .i64 (vi (gv xs k) 2))) ∧ (∀ x : Sub wo, x.u.cell? ⟨b, o + k * 4 + 3, none⟩ = some (.int .i64 (vi (gv xs k) 3))) :=
  ⟨fun x => (vec_cells (h.stays x.h) hk).1, fun x => (vec_cells (h.stays x.h) hk).2.1, fun x => (vec_cells (h.stays x.h) hk).2.2.1, fun x => (vec_cells (h.stays x.h) hk).2.2.2⟩

set_option maxHeartbeats 4000000 in
theorem rfront_any (A : Option Addr) (n c : Nat) (xs : List V) (w : World) (hx : VecsAt w A n xs) (hn : n ≤ 1000) :
    Calls Try.prog 23 #[.slice A n c] w fun e w' => MadeVecs w.heap.size w 26 (frontV xs) e w' := by
  obtain ⟨i0, hi, hz0, hz1, hz2⟩ := info_parts infoR
  obtain ⟨N, hN⟩ : ∃ N, N = (frontV xs).length := ⟨_, rfl⟩
  have hNl : N ≤ 1000 := by have := frontV_len xs; rw [← hN, hx.1] at this; omega
  have HN := Lib.hid hN
  have H := Lib.hid hx
  clear hx hN
  go_enter Try.func23, Try.ntmps23
  go_wp2
  go_loopg [3] N (fun g v wx => ∃ (t : Nat) (ts : List V), t + g = N ∧ Hid (ts = (frontV xs).take t) ∧ wx.ownsRow w.heap.size 26 4 v t (vcs ts) ∧ Below w.heap.size w wx)
  case atStart => exact ⟨0, [], by omega, Lib.hid rfl, World.ownsRow_nil _ _ _ _, Below.refl _ _⟩
  case round =>
    obtain ⟨t, ts, htg, HT, hown, hbel⟩ := hrel
    obtain ⟨A2, c2, rfl, hc2⟩ := ownsRow_slice hown
    have HO := Lib.hid hown
    clear hown
    go_wp2
    obtain ⟨wo, rfl⟩ : ∃ wo : World, wo = wr := ⟨_, rfl⟩
    go_loopg [4, 5] n (fun g s4 s5 wx => ∃ (i : Nat) (b : Int), i + g = n ∧ s5 = .int .i64 i ∧ s4 = .int .i64 b ∧ Hid (Best xs t i b) ∧ Below wo.heap.size wo wx)
    case atStart => exact ⟨0, -1, by omega, rfl, rfl, Lib.hid (Best.zero _ _), Below.refl _ _⟩
    case round =>
      obtain ⟨i, b, hig, rfl, rfl, HB, hbi⟩ := hrel
      cases gk with
      | zero =>
        obtain rfl : i = n := by omega
        have hd : ¬ ((i : Int) < (i : Int)) := by omega
        have hHi := H.out.1
        have hown := ownsRow_stays HO.out hbi
        have hbw : Below w.heap.size w wr := bthen hbel hbi (Nat.le_refl _)
        rcases HB.out with ⟨rfl, hnone⟩ | ⟨m, hm, rfl, hcm, hmin⟩
        · have ht := Best.none_end (t := t) (by have := HN.out; omega) (fun j hj => hnone j (by omega))
          have hts : ts = frontV xs := by rw [HT.out, ht, List.take_length]
          have HTS := Lib.hid hts
          have HTE := Lib.hid ht
          clear hts ht hnone HB
          go_wp2
          go_ret
          exact ⟨_, rfl, by rw [← HTE.out, ← HTS.out]; exact hown, hbw⟩
        · have hend := Best.some_end (t := t) (by have := HN.out; omega) (by omega) hcm (fun j hj => hmin j (by omega))
          have HE := Lib.hid hend
          have m0 : (0 : Int) ≤ (m : Int) := by omega
          have mn : (m : Int) < (i : Int) := by omega
          have mneg : ¬ ((m : Int) < 0) := by omega
          have mdec : decide ((m : Int) < 0) = false := by simp
          obtain ⟨b1, o1, rfl, c0, c1, c2', c3⟩ := (H.out.stays hbw).at_ hm
          have htN : t < N := by have := HN.out; have := HE.out.1; omega
          obtain ⟨g', rfl⟩ : ∃ g', gk = g' + 1 := ⟨gk - 1, by omega⟩
          clear hend hmin hcm HB
          go_wp2_with (at_builtin; refine wpList_append_own _ rfl _ _ 36 rfl w.heap.size 26 i0 (.agg #[.int .i64 0, .int .i64 0, .int .i64 0, .int .i64 0]) 4 32 Try.underlying36 hi hz0 hz1 hz2 rfl (by decide) _ _ _ rfl (hown.alloc _) ⟨wr.heap.size, 0, none⟩ 1 1 (vc (gv xs m)) rfl rfl (vc_new _ _ _) (vc_one _) (by unfold maxLen; omega) (by omega) (by have := hbw.size; simp; omega) ?_; intro v' w2 hown' hgrow _)
          have R : Below w.heap.size w w2 := below_app hbw hbw.size (Nat.le_refl _) hown hgrow
          clear hown hgrow c0 c1 c2' c3 hbw
          go_wp2
          go_roundg g'
          case rel => exact ⟨t + 1, ts ++ [gv xs m], by omega, Lib.hid (by rw [HT.out, HE.out.2, ← take_gv HE.out.1]), by rw [vcs_app, vcs_one]; exact hown', R⟩
          case measure => omega
      | succ g2 =>
        have hin : i < n := by omega
        have i0' : (0 : Int) ≤ (i : Int) := by omega
        have inn : (i : Int) < (n : Int) := by omega
        have HXo := Lib.hid (H.out.stays hbel)
        obtain ⟨b1, o1, rfl, _⟩ := HXo.out.at_ hin
        obtain ⟨c0, c1, c2', c3⟩ := sub_cells HXo.out hin
        cases hdm : dominV xs (gv xs i)
        · have hdc : ∀ x : Sub wo, Calls Try.prog 32 #[.slice (some ⟨b1, o1, none⟩) n c, .agg #[.int .i64 (vi (gv xs i) 0), .int .i64 (vi (gv xs i) 1), .int .i64 (vi (gv xs i) 2), .int .i64 (vi (gv xs i) 3)]] x.u fun e w'' => e = .returned (.bool false) ∧ ∃ y : Sub wo, w'' = y.u := fun x => calls_sub (by rw [← hdm]; exact dominated_any _ n c xs (gv xs i) _ (HXo.out.stays x.h) hn)
          cases t with
          | zero =>
            have HC := Lib.hid (cand_new (l := xs) (t := 0) hdm (.inl rfl))
            go_wp2
            refine wp_region_sub (wo := wo) (by kernel_rfl) (by kernel_rfl) hbi ?_
            repeat (go_big_quiet_step (exact hdc _))
            refine wpQuiet_nil ?_
            rintro _ ⟨⟨w2, hb2⟩, rfl⟩
            clear hdc hbi c0 c1 c2' c3
            go_wp2
            rcases HB.out with ⟨rfl, hnone⟩ | ⟨m, hm, rfl, hcm, hmin⟩
            · have HF := Lib.hid (Best.first hnone HC.out)
              clear hnone HB
              go_wp2
              go_quiet (fail)
              go_wp2
              go_roundg g2
              case rel => exact ⟨i + 1, i, by omega, by go_num, rfl, HF.out, bdrewN hb2 _⟩
              case measure => omega
            · have m0 : (0 : Int) ≤ (m : Int) := by omega
              have mn : (m : Int) < (n : Int) := by omega
              have mneg : ¬ ((m : Int) < 0) := by omega
              have mdec : decide ((m : Int) < 0) = false := by simp
              obtain ⟨c0, c1, c2', c3⟩ := sub_cells HXo.out hin
              obtain ⟨d0, d1, d2, d3⟩ := sub_cells HXo.out (show m < n by omega)
              have hcc : ∀ x : Sub wo, Calls Try.prog 12 #[.agg #[.int .i64 (vi (gv xs i) 0), .int .i64 (vi (gv xs i) 1), .int .i64 (vi (gv xs i) 2), .int .i64 (vi (gv xs i) 3)], .agg #[.int .i64 (vi (gv xs m) 0), .int .i64 (vi (gv xs m) 1), .int .i64 (vi (gv xs m) 2), .int .i64 (vi (gv xs m) 3)]] x.u fun e w'' => e = .returned (.int .i64 (cmpV (gv xs i) (gv xs m))) ∧ ∃ y : Sub wo, w'' = y.u := fun x => calls_sub (rcmp_any _ _ _)
              have hcl := cmp_neg (a := gv xs i) (b := gv xs m)
              cases hlt : ltV (gv xs i) (gv xs m)
              · have HF := Lib.hid (Best.stay hm hcm hmin hlt)
                rw [hlt] at hcl
                have hcl' := hcl
                clear hmin HB hcm hcl hlt
                go_wp2
                refine wp_region_sub (wo := wo) (by kernel_rfl) (by kernel_rfl) hb2 ?_
                repeat (go_big_quiet_step (exact hcc _))
                refine wpQuiet_nil ?_
                rintro _ ⟨⟨w3, hb3⟩, rfl⟩
                clear hcc hb2 c0 c1 c2' c3 d0 d1 d2 d3
                go_wp2
                go_roundg g2
                case rel => exact ⟨i + 1, m, by omega, by go_num, rfl, HF.out, hb3⟩
                case measure => omega
              · have HF := Lib.hid (Best.less hmin HC.out hlt)
                rw [hlt] at hcl
                have hcl' := hcl
                clear hmin HB hcm hcl hlt
                go_wp2
                refine wp_region_sub (wo := wo) (by kernel_rfl) (by kernel_rfl) hb2 ?_
                repeat (go_big_quiet_step (exact hcc _))
                refine wpQuiet_nil ?_
                rintro _ ⟨⟨w3, hb3⟩, rfl⟩
                clear hcc hb2 c0 c1 c2' c3 d0 d1 d2 d3
                go_wp2
                go_roundg g2
                case rel => exact ⟨i + 1, i, by omega, by go_num, rfl, HF.out, hb3⟩
                case measure => omega
          | succ t' =>
            have hxo2 := VecsAt.own HO.out
            obtain ⟨b2, o2, rfl, _⟩ := hxo2.at_ (show t' < t' + 1 by omega)
            obtain ⟨d0, d1, d2, d3⟩ := sub_cells hxo2 (show t' < t' + 1 by omega)
            have hcc : ∀ x : Sub wo, Calls Try.prog 12 #[.agg #[.int .i64 (vi (gv xs i) 0), .int .i64 (vi (gv xs i) 1), .int .i64 (vi (gv xs i) 2), .int .i64 (vi (gv xs i) 3)], .agg #[.int .i64 (vi (gv ts t') 0), .int .i64 (vi (gv ts t') 1), .int .i64 (vi (gv ts t') 2), .int .i64 (vi (gv ts t') 3)]] x.u fun e w'' => e = .returned (.int .i64 (cmpV (gv xs i) (gv ts t'))) ∧ ∃ y : Sub wo, w'' = y.u := fun x => calls_sub (rcmp_any _ _ _)
            have hcl := cmp_leq (gv xs i) (gv ts t')
            have hft : gv ts t' = gv (frontV xs) (t' + 1 - 1) := by
              rw [HT.out, Nat.add_sub_cancel]
              unfold gv
              rw [List.getD_eq_getElem?_getD, List.getD_eq_getElem?_getD, List.getElem?_take_of_lt (by omega)]
            cases hlt : ltV (gv ts t') (gv xs i)
            · have HC := Lib.hid (HB.out.skip (cand_old (t := t' + 1) (by omega) (by rw [← hft]; exact hlt)))
              rw [hlt] at hcl
              have hcl' := hcl
              clear hft hcl hlt
              go_wp2
              refine wp_region_sub (wo := wo) (by kernel_rfl) (by kernel_rfl) hbi ?_
              repeat (go_big_quiet_step (first | exact hdc _ | exact hcc _))
              refine wpQuiet_nil ?_
              rintro _ ⟨⟨w2, hb2⟩, rfl⟩
              clear hdc hcc hbi c0 c1 c2' c3 d0 d1 d2 d3
              go_wp2
              go_roundg g2
              case rel => exact ⟨i + 1, b, by omega, by go_num, rfl, HC.out, hb2⟩
              case measure => omega
            · have HC := Lib.hid (cand_new (t := t' + 1) hdm (.inr (by rw [← hft]; exact hlt)))
              rw [hlt] at hcl
              have hcl' := hcl
              clear hft hcl hlt
              go_wp2
              refine wp_region_sub (wo := wo) (by kernel_rfl) (by kernel_rfl) hbi ?_
              repeat (go_big_quiet_step (first | exact hdc _ | exact hcc _))
              refine wpQuiet_nil ?_
              rintro _ ⟨⟨w2, hb2⟩, rfl⟩
              clear hdc hcc hbi c0 c1 c2' c3 d0 d1 d2 d3
              go_wp2
              rcases HB.out with ⟨rfl, hnone⟩ | ⟨m, hm, rfl, hcm, hmin⟩
              · have HF := Lib.hid (Best.first hnone HC.out)
                clear hnone HB
                go_wp2
                go_quiet (fail)
                go_wp2
                go_roundg g2
                case rel => exact ⟨i + 1, i, by omega, by go_num, rfl, HF.out, bdrewN hb2 _⟩
                case measure => omega
              · have m0 : (0 : Int) ≤ (m : Int) := by omega
                have mn : (m : Int) < (n : Int) := by omega
                have mneg : ¬ ((m : Int) < 0) := by omega
                have mdec : decide ((m : Int) < 0) = false := by simp
                obtain ⟨c0, c1, c2', c3⟩ := sub_cells HXo.out hin
                obtain ⟨d0, d1, d2, d3⟩ := sub_cells HXo.out (show m < n by omega)
                have hcc : ∀ x : Sub wo, Calls Try.prog 12 #[.agg #[.int .i64 (vi (gv xs i) 0), .int .i64 (vi (gv xs i) 1), .int .i64 (vi (gv xs i) 2), .int .i64 (vi (gv xs i) 3)], .agg #[.int .i64 (vi (gv xs m) 0), .int .i64 (vi (gv xs m) 1), .int .i64 (vi (gv xs m) 2), .int .i64 (vi (gv xs m) 3)]] x.u fun e w'' => e = .returned (.int .i64 (cmpV (gv xs i) (gv xs m))) ∧ ∃ y : Sub wo, w'' = y.u := fun x => calls_sub (rcmp_any _ _ _)
                have hcl := cmp_neg (a := gv xs i) (b := gv xs m)
                cases hlt : ltV (gv xs i) (gv xs m)
                · have HF := Lib.hid (Best.stay hm hcm hmin hlt)
                  rw [hlt] at hcl
                  have hcl' := hcl
                  clear hmin HB hcm hcl hlt
                  go_wp2
                  refine wp_region_sub (wo := wo) (by kernel_rfl) (by kernel_rfl) hb2 ?_
                  repeat (go_big_quiet_step (exact hcc _))
                  refine wpQuiet_nil ?_
                  rintro _ ⟨⟨w3, hb3⟩, rfl⟩
                  clear hcc hb2 c0 c1 c2' c3 d0 d1 d2 d3
                  go_wp2
                  go_roundg g2
                  case rel => exact ⟨i + 1, m, by omega, by go_num, rfl, HF.out, hb3⟩
                  case measure => omega
                · have HF := Lib.hid (Best.less hmin HC.out hlt)
                  rw [hlt] at hcl
                  have hcl' := hcl
                  clear hmin HB hcm hcl hlt
                  go_wp2
                  refine wp_region_sub (wo := wo) (by kernel_rfl) (by kernel_rfl) hb2 ?_
                  repeat (go_big_quiet_step (exact hcc _))
                  refine wpQuiet_nil ?_
                  rintro _ ⟨⟨w3, hb3⟩, rfl⟩
                  clear hcc hb2 c0 c1 c2' c3 d0 d1 d2 d3
                  go_wp2
                  go_roundg g2
                  case rel => exact ⟨i + 1, i, by omega, by go_num, rfl, HF.out, hb3⟩
                  case measure => omega
        · have HC := Lib.hid (HB.out.skip (cand_dom (t := t) hdm))
          have hdc : ∀ x : Sub wo, Calls Try.prog 32 #[.slice (some ⟨b1, o1, none⟩) n c, .agg #[.int .i64 (vi (gv xs i) 0), .int .i64 (vi (gv xs i) 1), .int .i64 (vi (gv xs i) 2), .int .i64 (vi (gv xs i) 3)]] x.u fun e w'' => e = .returned (.bool true) ∧ ∃ y : Sub wo, w'' = y.u := fun x => calls_sub (by rw [← hdm]; exact dominated_any _ n c xs (gv xs i) _ (HXo.out.stays x.h) hn)
          go_wp2
          refine wp_region_sub (wo := wo) (by kernel_rfl) (by kernel_rfl) hbi ?_
          repeat (go_big_quiet_step (exact hdc _))
          refine wpQuiet_nil ?_
          rintro _ ⟨⟨w2, hb2⟩, rfl⟩
          clear hdc c0 c1 c2' c3 hbi
          go_wp2
          go_roundg g2
          case rel => exact ⟨i + 1, b, by omega, by go_num, rfl, HC.out, hb2⟩
          case measure => omega
end Go.Proofs.Ytgcngipbjkmdoaa
