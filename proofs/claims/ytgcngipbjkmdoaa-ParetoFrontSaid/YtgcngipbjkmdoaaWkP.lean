/-
  The walk of the statement on the front, without the reference.
-/
import Derived.Test.YtgcngipbjkmdoaaWkI
namespace Go.Proofs.Ytgcngipbjkmdoaa
open Go.RowKit
open Vec (V vi leV eqV domV ltV cmpV covV putV frontV mergeV withinV)

/-- is v among the first t vectors? -/
def inB (xs : List V) (t : Nat) (v : V) : Bool := (xs.take t).any fun x => eqV x v
theorem inB_zero (xs : List V) (v : V) : inB xs 0 v = false := by simp [inB]
theorem inB_step {xs : List V} {t : Nat} {v : V} (h : t < xs.length) : inB xs (t + 1) v = (inB xs t v || eqV (gv xs t) v) := by
  unfold inB
  rw [take_gv h]
  simp
theorem inB_all {xs : List V} {v : V} {n : Nat} (hn : xs.length = n) (h : v ∈ xs) : inB xs n v = true := by
  subst hn
  simp only [inB, List.take_length, List.any_eq_true]
  exact ⟨v, h, by simp [eqV]⟩
theorem f_mem {xs fs : List V} {k : Nat} (hf : fs = frontV xs) (h : k < fs.length) : gv fs k ∈ xs := by
  have := gv_mem h
  rw [hf] at this ⊢
  exact (((Vec.isF_front xs).mem _).1 this).1
theorem f_dom {xs fs : List V} {i k : Nat} (hf : fs = frontV xs) (hi : i < fs.length) (hk : k < fs.length) : domV (gv fs i) (gv fs k) = false := by
  have h1 := f_mem hf hi
  have h2 := gv_mem hk
  rw [hf] at h1 h2 ⊢
  exact (((Vec.isF_front xs).mem _).1 h2).2 _ h1
theorem f_cmp {xs fs : List V} {q : Nat} (hf : fs = frontV xs) (h : q + 1 < fs.length) : cmpV (gv fs q) (gv fs (q + 1)) = -1 := by
  have hs : Vec.Sorted fs := by rw [hf]; exact (Vec.isF_front xs).sorted
  have := List.pairwise_iff_getElem.1 hs q (q + 1) (by omega) h (by omega)
  rw [gv_eq (by omega), gv_eq h]
  simp [cmpV, this]
theorem f_cov {xs fs : List V} {k : Nat} (hf : fs = frontV xs) (h : k < xs.length) : covV fs (gv xs k) = true := by
  rw [hf, Vec.cov_front]
  exact List.any_eq_true.2 ⟨_, gv_mem h, Vec.leV_refl _⟩
theorem f_turned {xs fs : List V} (hf : fs = frontV xs) : frontV xs.reverse = fs := by rw [hf]; exact Vec.front_perm fun x => List.mem_reverse
theorem f_again {xs fs : List V} (hf : fs = frontV xs) : frontV fs = fs := by rw [hf]; exact Vec.front_front xs
theorem f_same {fs : List V} (h : frontV fs = fs) : Vec.sameV (frontV fs) fs = true := by simp [Vec.sameV, h]
theorem sub_calls {P : Program} {wo : World} {f : FuncId} {args : Array Value} {v : Value} (h : ∀ w, Calls P f args w fun e w' => e = .returned v ∧ Below w.heap.size w w') :
    ∀ x : Sub wo, Calls P f args x.u fun e w'' => e = .returned v ∧ ∃ y : Sub wo, w'' = y.u := fun _ => calls_sub (h _)

set_option maxRecDepth 100000 in
set_option maxHeartbeats 1600000 in
theorem front_walk (A : Option Addr) (n c : Nat) (xs : List V) (w : World) (hx : VecsAt w A n xs) :
    Calls Try.prog 7 #[.slice A n c] w fun e w' => e = .returned (.bool true) ∧ Below w.heap.size w w' := by
  have Rl := Lib.hid hx
  have HN := Lib.hid hx.1
  have HB := Lib.hid (Below.refl w.heap.size w)
  clear hx
  by_cases hn : n ≤ 60
  · have hcond : ¬ ((60 : Int) < (n : Int)) := by omega
    have hxl : xs.length ≤ 60 := by have := HN.out; omega
    go_enter Try.func7, Try.ntmps7
    go_wp2_with fail
    refine (from_any _ _ _ xs _ Rl.out (by omega)).mono ?_
    rintro e w1 ⟨v1, rfl, hr1, hb1⟩
    obtain ⟨Ax, cx, rfl, hcx⟩ := ownsRow_slice hr1
    have Rl := Lib.hid (Rl.out.stays hb1)
    have HB := Lib.hid (bthen HB.out hb1 (Nat.le_refl _))
    have Rx := Lib.hid (VecsAt.own hr1)
    clear hr1 hb1
    clear Rl
    go_wp2_with fail
    refine (front_any _ _ _ xs _ Rx.out (by omega)).mono ?_
    rintro e w2 ⟨v2, rfl, hr2, hb2⟩
    obtain ⟨Af, cf, rfl, hcf⟩ := ownsRow_slice hr2
    have Rx := Lib.hid (Rx.out.stays hb2)
    have HB := Lib.hid (bthen HB.out hb2 (Nat.le_refl _))
    have Rf := Lib.hid (VecsAt.own hr2)
    clear hr2 hb2
    obtain ⟨fs, hfs⟩ : ∃ fs, fs = frontV xs := ⟨_, rfl⟩
    rw [← hfs] at Rf
    rw [← hfs]
    have hfl : fs.length ≤ 60 := by rw [hfs]; have := frontV_len xs; omega
    have HFS := Lib.hid hfs
    obtain ⟨p, hp⟩ : ∃ p, p = fs.length := ⟨_, rfl⟩
    obtain ⟨m, hm⟩ : ∃ m, m = xs.length := ⟨_, rfl⟩
    rw [← hp] at Rf hfl
    rw [← hm] at Rx hxl
    rw [← hp, ← hm]
    have HP := Lib.hid hp
    have HM := Lib.hid hm
    clear hfs hp hm hcond hcx hcf
    go_wp2
    go_loopg [5] p (fun g s5 wx => ∃ i : Nat, i + g = p ∧ s5 = .int .i64 i ∧ Below w2.heap.size w2 wx)
    case atStart => exact ⟨0, by omega, rfl, Below.refl _ _⟩
    case round =>
      obtain ⟨i, hig, rfl, hbi⟩ := hrel
      cases gk with
      | succ g1 =>
        have hin : i < p := by omega
        have i0 : (0 : Int) ≤ (i : Int) := by omega
        have ip : (i : Int) < (p : Int) := by omega
        obtain ⟨bf, of, hA, _⟩ := Rf.out.at_ hin
        subst hA
        obtain ⟨c0, c1, c2, c3⟩ := sub_cells Rf.out hin
        have HBI := Lib.hid hbi
        clear hbi
        go_wp2
        obtain ⟨wo, rfl⟩ : ∃ wo : World, wo = wr := ⟨_, rfl⟩
        go_loopg [6, 7] m (fun g s6 s7 wx => ∃ k : Nat, k + g = m ∧ s7 = .int .i64 k ∧ s6 = .bool (inB xs k (gv fs i)) ∧ Below w2.heap.size w2 wx)
        case atStart => exact ⟨0, by omega, rfl, by rw [inB_zero], HBI.out⟩
        case round =>
          obtain ⟨k, hkg, rfl, rfl, hbk⟩ := hrel
          cases gk with
          | succ g2 =>
            have hkm : k < m := by omega
            have k0 : (0 : Int) ≤ (k : Int) := by omega
            have km : (k : Int) < (m : Int) := by omega
            obtain ⟨bx, ox, hA, _⟩ := Rx.out.at_ hkm
            subst hA
            obtain ⟨d0, d1, d2, d3⟩ := sub_cells (Rx.out) hkm
            have hst := inB_step (v := gv fs i) (show k < xs.length by have := HM.out; omega)
            have heq := eqV_run (gv xs k) (gv fs i)
            cases hin' : inB xs k (gv fs i)
            · rw [hin', Bool.false_or] at hst
              have HS := Lib.hid hst
              clear hst hin'
              go_wp2
              refine wp_region_sub (wo := w2) (by kernel_rfl) (by kernel_rfl) hbk ?_
              repeat (go_big_quiet_step (fail))
              refine wpQuiet_nil ?_
              rintro _ ⟨⟨w4, hb4⟩, rfl⟩
              clear hbk heq d0 d1 d2 d3 c0 c1 c2 c3
              go_wp2
              go_roundg g2
              case rel => exact ⟨k + 1, by omega, by go_num, by rw [HS.out], hb4⟩
              case measure => omega
            · rw [hin', Bool.true_or] at hst
              have HS := Lib.hid hst
              clear hst hin' heq
              go_wp2
              refine wp_region_sub (wo := w2) (by kernel_rfl) (by kernel_rfl) hbk ?_
              repeat (go_big_quiet_step (fail))
              refine wpQuiet_nil ?_
              rintro _ ⟨⟨w4, hb4⟩, rfl⟩
              clear hbk d0 d1 d2 d3 c0 c1 c2 c3
              go_wp2
              go_roundg g2
              case rel => exact ⟨k + 1, by omega, by go_num, by rw [HS.out], hb4⟩
              case measure => omega
          | zero =>
            obtain rfl : k = m := by omega
            have hall := inB_all HM.out.symm (f_mem HFS.out (show i < fs.length by have := HP.out; omega))
            rw [hall]
            clear hall
            have hd : ¬ ((k : Int) < (k : Int)) := by omega
            by_cases hi0 : i = 0
            · have hpos : ¬ (0 : Int) < (i : Int) := by omega
              have hdec : decide ((0 : Int) < (i : Int)) = false := decide_eq_false hpos
              have hdec' : decide (0 < i) = false := decide_eq_false (by omega)
              clear hi0
              go_wp2
              refine wp_region_sub (wo := w2) (by kernel_rfl) (by kernel_rfl) hbk ?_
              repeat (go_big_quiet_step (fail))
              refine wpQuiet_nil ?_
              rintro _ ⟨⟨w4, hb4⟩, rfl⟩
              clear hbk c0 c1 c2 c3
              go_wp2
              go_loopg [8] p (fun g s8 wx => ∃ k : Nat, k + g = p ∧ s8 = .int .i64 k ∧ Below w2.heap.size w2 wx)
              case atStart => exact ⟨0, by omega, rfl, hb4⟩
              case round =>
                obtain ⟨j, hjg, rfl, hbj⟩ := hrel
                cases gk with
                | succ g2 =>
                  have hjp : j < p := by omega
                  have j0 : (0 : Int) ≤ (j : Int) := by omega
                  have jp : (j : Int) < (p : Int) := by omega
                  obtain ⟨d0, d1, d2, d3⟩ := sub_cells Rf.out hin
                  obtain ⟨e0, e1, e2, e3⟩ := sub_cells Rf.out hjp
                  have hcc := sub_calls (wo := w2) (fun u => dom_any (gv fs i) (gv fs j) u)
                  rw [f_dom HFS.out (by have := HP.out; omega) (by have := HP.out; omega)] at hcc
                  go_wp2
                  refine wp_region_sub (wo := w2) (by kernel_rfl) (by kernel_rfl) hbj ?_
                  repeat (go_big_quiet_step (exact hcc _))
                  refine wpQuiet_nil ?_
                  rintro _ ⟨⟨w5, hb5⟩, rfl⟩
                  clear hcc hbj d0 d1 d2 d3 e0 e1 e2 e3
                  go_wp2
                  go_roundg g2
                  case rel => exact ⟨j + 1, by omega, by go_num, hb5⟩
                  case measure => omega
                | zero =>
                  obtain rfl : j = p := by omega
                  have hd : ¬ ((j : Int) < (j : Int)) := by omega
                  go_wp2
                  go_roundg g1
                  case rel => exact ⟨i + 1, by omega, by go_num, hbj⟩
                  case measure => omega
            · obtain ⟨q, hi⟩ : ∃ q, i = q + 1 := ⟨i - 1, by omega⟩
              clear hi0
              have hq : q < p := by omega
              have q0 : (0 : Int) ≤ (q : Int) := by omega
              have qp : (q : Int) < (p : Int) := by omega
              have hw : IntKind.i64.wrap ((i : Int) - 1) = (q : Int) := by rw [show (i : Int) - 1 = (q : Int) by omega]; exact wrap64 (by omega) (by omega)
              have hpos : (0 : Int) < (i : Int) := by omega
              have hdec : decide ((0 : Int) < (i : Int)) = true := decide_eq_true hpos
              have hdec' : decide (0 < i) = true := decide_eq_true (by omega)
              obtain ⟨e0, e1, e2, e3⟩ := sub_cells Rf.out hq
              have hcc := sub_calls (wo := w2) (fun u => cmp_any (gv fs q) (gv fs i) u)
              rw [show cmpV (gv fs q) (gv fs i) = -1 by rw [hi]; exact f_cmp HFS.out (by have := HP.out; omega)] at hcc
              have HI := Lib.hid hi
              clear hi
              go_wp2
              refine wp_region_sub (wo := w2) (by kernel_rfl) (by kernel_rfl) hbk ?_
              repeat (go_big_quiet_step (exact hcc _))
              clear hcc e0 e1 e2 e3 hdec hdec' hw hpos
              refine wpQuiet_nil ?_
              rintro _ ⟨⟨w4, hb4⟩, rfl⟩
              clear hbk c0 c1 c2 c3
              go_wp2
              go_loopg [8] p (fun g s8 wx => ∃ k : Nat, k + g = p ∧ s8 = .int .i64 k ∧ Below w2.heap.size w2 wx)
              case atStart => exact ⟨0, by omega, rfl, hb4⟩
              case round =>
                obtain ⟨j, hjg, rfl, hbj⟩ := hrel
                cases gk with
                | succ g2 =>
                  have hjp : j < p := by omega
                  have j0 : (0 : Int) ≤ (j : Int) := by omega
                  have jp : (j : Int) < (p : Int) := by omega
                  obtain ⟨d0, d1, d2, d3⟩ := sub_cells Rf.out hin
                  obtain ⟨e0, e1, e2, e3⟩ := sub_cells Rf.out hjp
                  have hcc := sub_calls (wo := w2) (fun u => dom_any (gv fs i) (gv fs j) u)
                  rw [f_dom HFS.out (by have := HP.out; omega) (by have := HP.out; omega)] at hcc
                  go_wp2
                  refine wp_region_sub (wo := w2) (by kernel_rfl) (by kernel_rfl) hbj ?_
                  repeat (go_big_quiet_step (exact hcc _))
                  refine wpQuiet_nil ?_
                  rintro _ ⟨⟨w5, hb5⟩, rfl⟩
                  clear hcc hbj d0 d1 d2 d3 e0 e1 e2 e3
                  go_wp2
                  go_roundg g2
                  case rel => exact ⟨j + 1, by omega, by go_num, hb5⟩
                  case measure => omega
                | zero =>
                  obtain rfl : j = p := by omega
                  have hd : ¬ ((j : Int) < (j : Int)) := by omega
                  go_wp2
                  go_roundg g1
                  case rel => exact ⟨i + 1, by omega, by go_num, hbj⟩
                  case measure => omega
      | zero =>
        obtain rfl : i = p := by omega
        have hd : ¬ ((i : Int) < (i : Int)) := by omega
        go_wp2
        obtain ⟨wo, rfl⟩ : ∃ wo : World, wo = wr := ⟨_, rfl⟩
        go_loopg [9] m (fun g s9 wx => ∃ k : Nat, k + g = m ∧ s9 = .int .i64 k ∧ Below w2.heap.size w2 wx)
        case atStart => exact ⟨0, by omega, rfl, hbi⟩
        case round =>
          obtain ⟨k, hkg, rfl, hbk⟩ := hrel
          cases gk with
          | succ g2 =>
            have hkm : k < m := by omega
            have k0 : (0 : Int) ≤ (k : Int) := by omega
            have km : (k : Int) < (m : Int) := by omega
            obtain ⟨bx, ox, hA, d0, d1, d2, d3⟩ := (Rx.out.stays hbk).at_ hkm
            subst hA
            have hcv := f_cov HFS.out (show k < xs.length by have := HM.out; omega)
            have hcc := fun u h => covers_any Af _ cf fs (gv xs k) u h (by omega : i ≤ 1000)
            rw [hcv] at hcc
            clear hcv
            go_wp2_with fail
            refine (hcc _ (Rf.out.stays hbk)).mono ?_
            rintro e w5 ⟨rfl, hb5⟩
            have hb6 := bthen hbk hb5 (Nat.le_refl _)
            clear hcc hbk d0 d1 d2 d3 hb5
            go_wp2
            go_roundg g2
            case rel => exact ⟨k + 1, by omega, by go_num, hb6⟩
            case measure => omega
          | zero =>
            obtain rfl : k = m := by omega
            have hd : ¬ ((k : Int) < (k : Int)) := by omega
            have Rx := Lib.hid (Rx.out.stays hbk)
            have Rf := Lib.hid (Rf.out.stays hbk)
            have HB := Lib.hid (bthen HB.out hbk (Nat.le_refl _))
            clear hbk hbi
            have hfl2 : fs.length ≤ 1000 := by have := HP.out; omega
            have htu := fun A n c u h h2 => turned_any A n c xs u h h2
            have hft := f_turned HFS.out
            have hrl : xs.reverse.length ≤ 1000 := by rw [List.length_reverse]; have := HM.out; omega
            obtain ⟨rs, hrs⟩ : ∃ rs, rs = xs.reverse := ⟨_, rfl⟩
            rw [← hrs] at htu hft hrl
            clear hrs
            have HFT := Lib.hid hft
            clear hft
            have hfr : (frontV rs).length ≤ 1000 := by have := frontV_len rs; omega
            have hff : (frontV fs).length ≤ 1000 := by have := frontV_len fs; have := HP.out; omega
            have hsm := f_same (f_again HFS.out)
            have hif := fun A n c u h h2 => isfront_any A n c fs u h h2
            rw [hsm] at hif
            clear hsm
            go_wp2_with fail
            refine (htu _ _ _ _ Rx.out (by omega)).mono ?_
            rintro e w11 ⟨v11, rfl, hr11, hb11⟩
            obtain ⟨At, ct, rfl, hct⟩ := ownsRow_slice hr11
            have Rx := Lib.hid (Rx.out.stays hb11)
            have Rf := Lib.hid (Rf.out.stays hb11)
            have HB := Lib.hid (bthen HB.out hb11 (Nat.le_refl _))
            have Rt := Lib.hid (VecsAt.own hr11)
            clear hr11 hb11
            clear Rx
            go_wp2_with fail
            refine (front_any _ _ _ rs _ Rt.out hrl).mono ?_
            rintro e w12 ⟨v12, rfl, hr12, hb12⟩
            obtain ⟨Aft, cft, rfl, hcft⟩ := ownsRow_slice hr12
            have Rf := Lib.hid (Rf.out.stays hb12)
            have Rt := Lib.hid (Rt.out.stays hb12)
            have HB := Lib.hid (bthen HB.out hb12 (Nat.le_refl _))
            have Rft := Lib.hid (VecsAt.own hr12)
            clear hr12 hb12
            clear Rt
            go_wp2_with fail
            refine (to_any _ _ _ (frontV rs) _ Rft.out hfr).mono ?_
            rintro e w13 ⟨v13, rfl, hr13, hb13⟩
            obtain ⟨Att, ctt, rfl, hctt⟩ := ownsRow_slice hr13
            have Rf := Lib.hid (Rf.out.stays hb13)
            have Rft := Lib.hid (Rft.out.stays hb13)
            have HB := Lib.hid (bthen HB.out hb13 (Nat.le_refl _))
            have Rtt := Lib.hid (VecsAt.own hr13)
            clear hr13 hb13
            clear Rft
            go_wp2_with fail
            refine (to_any _ _ _ fs _ Rf.out (by omega)).mono ?_
            rintro e w14 ⟨v14, rfl, hr14, hb14⟩
            obtain ⟨Atf, ctf, rfl, hctf⟩ := ownsRow_slice hr14
            have Rf := Lib.hid (Rf.out.stays hb14)
            have Rtt := Lib.hid (Rtt.out.stays hb14)
            have HB := Lib.hid (bthen HB.out hb14 (Nat.le_refl _))
            have Rtf := Lib.hid (VecsAt.own hr14)
            clear hr14 hb14
            go_wp2_with fail
            refine (same_eq _ _ _ _ _ _ (frontV rs) fs _ HFT.out Rtt.out Rtf.out hfr hfl2).mono ?_
            rintro e w15 ⟨rfl, q15, rfl⟩
            have Rf := Lib.hid (Rf.out.drewN q15)
            have Rtt := Lib.hid (Rtt.out.drewN q15)
            have Rtf := Lib.hid (Rtf.out.drewN q15)
            have HB := Lib.hid (bdrewN HB.out q15)
            clear Rtt
            clear Rtf
            go_wp2_with fail
            refine (front_any _ _ _ fs _ Rf.out (by omega)).mono ?_
            rintro e w16 ⟨v16, rfl, hr16, hb16⟩
            obtain ⟨Ag, cg, rfl, hcg⟩ := ownsRow_slice hr16
            have Rf := Lib.hid (Rf.out.stays hb16)
            have HB := Lib.hid (bthen HB.out hb16 (Nat.le_refl _))
            have Rg := Lib.hid (VecsAt.own hr16)
            clear hr16 hb16
            go_wp2_with fail
            refine (to_any _ _ _ (frontV fs) _ Rg.out hff).mono ?_
            rintro e w17 ⟨v17, rfl, hr17, hb17⟩
            obtain ⟨Atg, ctg, rfl, hctg⟩ := ownsRow_slice hr17
            have Rf := Lib.hid (Rf.out.stays hb17)
            have Rg := Lib.hid (Rg.out.stays hb17)
            have HB := Lib.hid (bthen HB.out hb17 (Nat.le_refl _))
            have Rtg := Lib.hid (VecsAt.own hr17)
            clear hr17 hb17
            clear Rg
            go_wp2_with fail
            refine (to_any _ _ _ fs _ Rf.out (by omega)).mono ?_
            rintro e w18 ⟨v18, rfl, hr18, hb18⟩
            obtain ⟨Ath, cth, rfl, hcth⟩ := ownsRow_slice hr18
            have Rf := Lib.hid (Rf.out.stays hb18)
            have Rtg := Lib.hid (Rtg.out.stays hb18)
            have HB := Lib.hid (bthen HB.out hb18 (Nat.le_refl _))
            have Rth := Lib.hid (VecsAt.own hr18)
            clear hr18 hb18
            go_wp2_with fail
            refine (same_eq _ _ _ _ _ _ (frontV fs) fs _ (f_again HFS.out) Rtg.out Rth.out hff hfl2).mono ?_
            rintro e w19 ⟨rfl, q19, rfl⟩
            have Rf := Lib.hid (Rf.out.drewN q19)
            have Rtg := Lib.hid (Rtg.out.drewN q19)
            have Rth := Lib.hid (Rth.out.drewN q19)
            have HB := Lib.hid (bdrewN HB.out q19)
            clear Rtg
            clear Rth
            go_wp2_with fail
            refine (hif _ _ _ _ Rf.out (by omega)).mono ?_
            rintro e w20 ⟨rfl, hb20⟩
            have Rf := Lib.hid (Rf.out.stays hb20)
            have HB := Lib.hid (bthen HB.out hb20 (Nat.le_refl _))
            clear hb20
            go_wp2_with fail
            refine (example_any _).mono ?_
            rintro e w21 ⟨rfl, hb21⟩
            have Rf := Lib.hid (Rf.out.stays hb21)
            have HB := Lib.hid (bthen HB.out hb21 (Nat.le_refl _))
            clear hb21
            go_wp2
            go_ret
            exact ⟨rfl, HB.out⟩
  · have hcond : (60 : Int) < (n : Int) := by omega
    go_enter Try.func7, Try.ntmps7
    go_wp2_with fail
    refine (example_any _).mono ?_
    rintro e w1 ⟨rfl, hb1⟩
    have Rl := Lib.hid (Rl.out.stays hb1)
    have HB := Lib.hid (bthen HB.out hb1 (Nat.le_refl _))
    clear hb1
    go_wp2
    go_ret
    exact ⟨rfl, HB.out⟩
end Go.Proofs.Ytgcngipbjkmdoaa
