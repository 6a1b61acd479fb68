/-
  The walk of the statement on building fronts.
-/
import Derived.Test.YtgcngipbjkmdoaaWkF
namespace Go.Proofs.Ytgcngipbjkmdoaa
open Go.RowKit
open Vec (V vi leV eqV domV ltV cmpV covV putV frontV mergeV withinV)

theorem wrap64 {a : Int} (h1 : -1000000 ≤ a) (h2 : a ≤ 1000000) : IntKind.i64.wrap a = a := by
  simp [IntKind.wrap, IntKind.bits, IntKind.signed]
  omega
theorem same_eq (A B : Option Addr) (n m c d : Nat) (xs ys : List V) (w : World) (e : xs = ys) (hx : VecsAt w A n xs) (hy : VecsAt w B m ys) (hn : n ≤ 1000) (hm : m ≤ 1000) :
    Calls Try.prog 18 #[.slice A n c, .slice B m d] w fun e w' => e = .returned (.bool true) ∧ ∃ q, w' = w.drewN q := by
  have := rsame_any A B n m c d xs ys w hx hy (by omega) (by omega)
  rw [show Vec.sameV xs ys = true by simp [Vec.sameV, e]] at this
  exact this
theorem mergeV_len (xs ys : List V) : (mergeV xs ys).length ≤ xs.length + ys.length := by
  have := foldl_len ys (frontV xs)
  have := frontV_len xs
  unfold mergeV
  omega
theorem up_step {xs : List V} {k : Nat} (h : k < xs.length) : putV (frontV (frontV (xs.take k))) (gv xs k) = frontV (xs.take (k + 1)) := by
  rw [Vec.front_front, Vec.put_front, take_gv h]
theorem down_step {xs : List V} {n k m : Nat} (hl : xs.length = n) (h : n = k + 1 + m) : putV (frontV (frontV (xs.drop (n - k)).reverse)) (gv xs m) = frontV (xs.drop (n - (k + 1))).reverse := by
  rw [Vec.front_front, Vec.put_front]
  congr 1
  have hm : m < xs.length := by omega
  rw [show n - (k + 1) = m by omega, List.drop_eq_getElem_cons hm, List.reverse_cons, gv_eq hm, show n - k = m + 1 by omega]

/-- the value u is a slice that reads as xs -/
def RowAt (w : World) (u : Value) (xs : List V) : Prop := ∃ A c, u = .slice A xs.length c ∧ VecsAt w A xs.length xs
theorem RowAt.mk {w : World} {A : Option Addr} {c : Nat} {xs : List V} (h : VecsAt w A xs.length xs) : RowAt w (.slice A xs.length c) xs := ⟨A, c, rfl, h⟩

set_option maxHeartbeats 4000000 in
theorem builds_walk (A : Option Addr) (n c : Nat) (xs : List V) (B : Option Addr) (m d : Nat) (ys : List V) (D : Option Addr) (l e : Nat) (zs : List V) (w : World) (hx : VecsAt w A n xs) (hy : VecsAt w B m ys) (hz : VecsAt w D l zs) :
    Calls Try.prog 5 #[.slice A n c, .slice B m d, .slice D l e] w fun e w' => e = .returned (.bool true) ∧ Below w.heap.size w w' := by
  have Ra := Lib.hid hx
  have Rb := Lib.hid hy
  have Rc := Lib.hid hz
  have HN := Lib.hid hx.1
  have HM := Lib.hid hy.1
  have HL := Lib.hid hz.1
  have HB := Lib.hid (Below.refl w.heap.size w)
  clear hx hy hz
  by_cases h1 : (40 : Int) < (n : Int)
  · go_enter Try.func5, Try.ntmps5
    go_wp2_with fail
    refine (example_any _).mono ?_
    rintro e w1 ⟨rfl, hb1⟩
    have HB := Lib.hid (bthen HB.out hb1 (Nat.le_refl _))
    clear hb1
    go_wp2
    go_ret
    exact ⟨rfl, HB.out⟩
  by_cases h2 : (40 : Int) < (m : Int)
  · go_enter Try.func5, Try.ntmps5
    go_wp2_with fail
    refine (example_any _).mono ?_
    rintro e w1 ⟨rfl, hb1⟩
    have HB := Lib.hid (bthen HB.out hb1 (Nat.le_refl _))
    clear hb1
    go_wp2
    go_ret
    exact ⟨rfl, HB.out⟩
  by_cases h3 : (40 : Int) < (l : Int)
  · go_enter Try.func5, Try.ntmps5
    go_wp2_with fail
    refine (example_any _).mono ?_
    rintro e w1 ⟨rfl, hb1⟩
    have HB := Lib.hid (bthen HB.out hb1 (Nat.le_refl _))
    clear hb1
    go_wp2
    go_ret
    exact ⟨rfl, HB.out⟩
  have xl : xs.length ≤ 40 := by have := HN.out; omega
  have yl : ys.length ≤ 40 := by have := HM.out; omega
  have zl : zs.length ≤ 40 := by have := HL.out; omega
  have fl := frontV_len xs
  have m1 := mergeV_len xs ys
  have m2 := mergeV_len ys xs
  have m3 := mergeV_len (mergeV xs ys) zs
  have m4 := mergeV_len ys zs
  have m5 := mergeV_len xs (mergeV ys zs)
  go_enter Try.func5, Try.ntmps5
  go_wp2_with fail
  refine (from_any _ _ _ xs _ Ra.out (by omega)).mono ?_
  rintro e w1 ⟨v1, rfl, hr1, hb1⟩
  obtain ⟨Ax, cx, rfl, hcx⟩ := ownsRow_slice hr1
  have Ra := Lib.hid (Ra.out.stays hb1)
  have Rb := Lib.hid (Rb.out.stays hb1)
  have Rc := Lib.hid (Rc.out.stays hb1)
  have HB := Lib.hid (bthen HB.out hb1 (Nat.le_refl _))
  have Rx := Lib.hid (VecsAt.own hr1)
  clear hr1 hb1
  clear Ra
  go_wp2_with fail
  refine (from_any _ _ _ ys _ Rb.out (by omega)).mono ?_
  rintro e w2 ⟨v2, rfl, hr2, hb2⟩
  obtain ⟨Ay, cy, rfl, hcy⟩ := ownsRow_slice hr2
  have Rb := Lib.hid (Rb.out.stays hb2)
  have Rc := Lib.hid (Rc.out.stays hb2)
  have Rx := Lib.hid (Rx.out.stays hb2)
  have HB := Lib.hid (bthen HB.out hb2 (Nat.le_refl _))
  have Ry := Lib.hid (VecsAt.own hr2)
  clear hr2 hb2
  clear Rb
  go_wp2_with fail
  refine (from_any _ _ _ zs _ Rc.out (by omega)).mono ?_
  rintro e w3 ⟨v3, rfl, hr3, hb3⟩
  obtain ⟨Az, cz, rfl, hcz⟩ := ownsRow_slice hr3
  have Rc := Lib.hid (Rc.out.stays hb3)
  have Rx := Lib.hid (Rx.out.stays hb3)
  have Ry := Lib.hid (Ry.out.stays hb3)
  have HB := Lib.hid (bthen HB.out hb3 (Nat.le_refl _))
  have Rz := Lib.hid (VecsAt.own hr3)
  clear hr3 hb3
  clear Rc
  obtain ⟨p, hp⟩ : ∃ p, p = xs.length := ⟨_, rfl⟩
  rw [← hp] at Rx xl fl m1 m2 m5
  rw [← hp]
  have HP := Lib.hid hp
  clear hp
  go_wp2
  go_loopw [10, 11, 12] (fun u v i wr => ∃ (k : Nat) (fs ds : List V), k ≤ p ∧ i = .int .i64 k ∧ Hid (fs = frontV (xs.take k)) ∧ Hid (ds = frontV (xs.drop (p - k)).reverse) ∧ RowAt wr u fs ∧ RowAt wr v ds ∧ Below w3.heap.size w3 wr) (fun _ _ i _ => p - (intOf i).toNat)
  case atStart => exact ⟨0, [], [], by omega, rfl, Lib.hid rfl, Lib.hid (by rw [HP.out, Nat.sub_zero, List.drop_length]; rfl), RowAt.mk (VecsAt.nil _ _), RowAt.mk (VecsAt.nil _ _), Below.refl _ _⟩
  case round =>
    obtain ⟨k, fs, ds, hk, rfl, HF, HD, ⟨A1, c1, rfl, hu⟩, ⟨A2, c2, rfl, hv⟩, hbel⟩ := hrel
    have hfl : fs.length ≤ 40 := by have := frontV_len (xs.take k); rw [← HF.out, List.length_take] at this; omega
    have hdl : ds.length ≤ 40 := by have := frontV_len (xs.drop (p - k)).reverse; rw [← HD.out, List.length_reverse, List.length_drop] at this; have := HP.out; omega
    have HU := Lib.hid hu
    have HV := Lib.hid hv
    clear hu hv
    by_cases hlt : k < p
    · obtain ⟨q, hq⟩ : ∃ q, p = k + 1 + q := ⟨p - k - 1, by omega⟩
      have k0 : (0 : Int) ≤ (k : Int) := by omega
      have kp : (k : Int) < (p : Int) := by omega
      have w1' : IntKind.i64.wrap ((p : Int) - 1) = (p : Int) - 1 := wrap64 (by omega) (by omega)
      have w2' : IntKind.i64.wrap ((p : Int) - 1 - (k : Int)) = (q : Int) := by rw [show (p : Int) - 1 - (k : Int) = (q : Int) by omega]; exact wrap64 (by omega) (by omega)
      have q0 : (0 : Int) ≤ (q : Int) := by omega
      have qp : (q : Int) < (p : Int) := by omega
      have HQ := Lib.hid hq
      have hqp : q < p := by omega
      clear hq
      obtain ⟨b, o, hA, a0, a1, a2, a3⟩ := (Rx.out.stays hbel).at_ hlt
      subst hA
      go_wp2_with fail
      refine (insert_any _ _ _ fs (gv xs k) _ (HU.out) (by omega)).mono ?_
      rintro e5 w5 ⟨v5, rfl, hr5, hb5⟩
      obtain ⟨A5, c5, rfl, hc5⟩ := ownsRow_slice hr5
      have hbel5 := bthen hbel hb5 (Nat.le_refl _)
      have HV5 := Lib.hid (HV.out.stays hb5)
      have HU5 := Lib.hid (VecsAt.own hr5)
      obtain ⟨b', o', hA', a0', a1', a2', a3'⟩ := (Rx.out.stays hbel5).at_ hqp
      injection hA' with hA'
      injection hA' with hA' hA2
      subst hA' hA2
      clear a0 a1 a2 a3 hr5 hb5
      go_wp2_with fail
      refine (insert_any _ _ _ ds (gv xs q) _ (HV5.out) (by omega)).mono ?_
      rintro e6 w6 ⟨v6, rfl, hr6, hb6⟩
      obtain ⟨A6, c6, rfl, hc6⟩ := ownsRow_slice hr6
      have hbel6 := Lib.hid (bthen hbel5 hb6 (Nat.le_refl _))
      have HU6 := Lib.hid (HU5.out.stays hb6)
      have HV6 := Lib.hid (VecsAt.own hr6)
      clear a0' a1' a2' a3' hr6 hb6 hbel5 HV5 HU5
      go_wp2
      go_roundw
      case rel => exact ⟨k + 1, putV (frontV fs) (gv xs k), putV (frontV ds) (gv xs q), by omega, by go_num, Lib.hid (by rw [HF.out]; exact up_step (by have := HP.out; omega)), Lib.hid (by rw [HD.out]; exact down_step HP.out.symm HQ.out), RowAt.mk HU6.out, RowAt.mk HV6.out, hbel6.out⟩
      case measure => simp [intOf]; omega
    · obtain rfl : k = p := by omega
      have hd : ¬ ((k : Int) < (k : Int)) := by omega
      have hff : fs = frontV xs := by rw [HF.out, HP.out, List.take_length]
      have hdd : ds = frontV xs := by rw [HD.out, Nat.sub_self, List.drop_zero]; exact Vec.front_perm (fun x => List.mem_reverse)
      have Ry' := Lib.hid (Ry.out.stays hbel)
      have Rz' := Lib.hid (Rz.out.stays hbel)
      have Rx' := Lib.hid (Rx.out.stays hbel)
      have HFF := Lib.hid hff
      have HDD := Lib.hid hdd
      have HBB := Lib.hid (bthen HB.out hbel (Nat.le_refl _))
      clear hff hdd
      have HB := HBB
      have RU := HU
      have RV := HV
      clear HU HV HBB
      go_wp2_with fail
      refine (front_any _ _ _ xs _ Rx'.out (by omega)).mono ?_
      rintro e w21 ⟨v21, rfl, hr21, hb21⟩
      obtain ⟨Af, cf, rfl, hcf⟩ := ownsRow_slice hr21
      have Rx' := Lib.hid (Rx'.out.stays hb21)
      have Ry' := Lib.hid (Ry'.out.stays hb21)
      have Rz' := Lib.hid (Rz'.out.stays hb21)
      have RU := Lib.hid (RU.out.stays hb21)
      have RV := Lib.hid (RV.out.stays hb21)
      have HB := Lib.hid (bthen HB.out hb21 (Nat.le_refl _))
      have Rf := Lib.hid (VecsAt.own hr21)
      clear hr21 hb21
      go_wp2_with fail
      refine (to_any _ _ _ (frontV xs) _ Rf.out (by omega)).mono ?_
      rintro e w22 ⟨v22, rfl, hr22, hb22⟩
      obtain ⟨Atf, ctf, rfl, hctf⟩ := ownsRow_slice hr22
      have Rx' := Lib.hid (Rx'.out.stays hb22)
      have Ry' := Lib.hid (Ry'.out.stays hb22)
      have Rz' := Lib.hid (Rz'.out.stays hb22)
      have RU := Lib.hid (RU.out.stays hb22)
      have RV := Lib.hid (RV.out.stays hb22)
      have Rf := Lib.hid (Rf.out.stays hb22)
      have HB := Lib.hid (bthen HB.out hb22 (Nat.le_refl _))
      have Rtf := Lib.hid (VecsAt.own hr22)
      clear hr22 hb22
      clear Rf
      go_wp2_with fail
      refine (to_any _ _ _ fs _ RU.out (by omega)).mono ?_
      rintro e w23 ⟨v23, rfl, hr23, hb23⟩
      obtain ⟨Atu, ctu, rfl, hctu⟩ := ownsRow_slice hr23
      have Rx' := Lib.hid (Rx'.out.stays hb23)
      have Ry' := Lib.hid (Ry'.out.stays hb23)
      have Rz' := Lib.hid (Rz'.out.stays hb23)
      have RU := Lib.hid (RU.out.stays hb23)
      have RV := Lib.hid (RV.out.stays hb23)
      have Rtf := Lib.hid (Rtf.out.stays hb23)
      have HB := Lib.hid (bthen HB.out hb23 (Nat.le_refl _))
      have Rtu := Lib.hid (VecsAt.own hr23)
      clear hr23 hb23
      clear RU
      go_wp2_with fail
      refine (same_eq _ _ _ _ _ _ fs (frontV xs) _ HFF.out Rtu.out Rtf.out (by omega) (by omega)).mono ?_
      rintro e w24 ⟨rfl, q24, rfl⟩
      have Rx' := Lib.hid (Rx'.out.drewN q24)
      have Ry' := Lib.hid (Ry'.out.drewN q24)
      have Rz' := Lib.hid (Rz'.out.drewN q24)
      have RV := Lib.hid (RV.out.drewN q24)
      have Rtf := Lib.hid (Rtf.out.drewN q24)
      have Rtu := Lib.hid (Rtu.out.drewN q24)
      have HB := Lib.hid (bdrewN HB.out q24)
      clear Rtu
      go_wp2_with fail
      refine (to_any _ _ _ ds _ RV.out (by omega)).mono ?_
      rintro e w25 ⟨v25, rfl, hr25, hb25⟩
      obtain ⟨Atv, ctv, rfl, hctv⟩ := ownsRow_slice hr25
      have Rx' := Lib.hid (Rx'.out.stays hb25)
      have Ry' := Lib.hid (Ry'.out.stays hb25)
      have Rz' := Lib.hid (Rz'.out.stays hb25)
      have RV := Lib.hid (RV.out.stays hb25)
      have Rtf := Lib.hid (Rtf.out.stays hb25)
      have HB := Lib.hid (bthen HB.out hb25 (Nat.le_refl _))
      have Rtv := Lib.hid (VecsAt.own hr25)
      clear hr25 hb25
      clear RV
      go_wp2_with fail
      refine (same_eq _ _ _ _ _ _ ds (frontV xs) _ HDD.out Rtv.out Rtf.out (by omega) (by omega)).mono ?_
      rintro e w26 ⟨rfl, q26, rfl⟩
      have Rx' := Lib.hid (Rx'.out.drewN q26)
      have Ry' := Lib.hid (Ry'.out.drewN q26)
      have Rz' := Lib.hid (Rz'.out.drewN q26)
      have Rtf := Lib.hid (Rtf.out.drewN q26)
      have Rtv := Lib.hid (Rtv.out.drewN q26)
      have HB := Lib.hid (bdrewN HB.out q26)
      clear Rtv
      clear Rtf
      go_wp2_with fail
      refine (merge_any _ _ _ _ _ _ xs ys _ Rx'.out Ry'.out (by omega)).mono ?_
      rintro e w27 ⟨v27, rfl, hr27, hb27⟩
      obtain ⟨Am1, cm1, rfl, hcm1⟩ := ownsRow_slice hr27
      have Rx' := Lib.hid (Rx'.out.stays hb27)
      have Ry' := Lib.hid (Ry'.out.stays hb27)
      have Rz' := Lib.hid (Rz'.out.stays hb27)
      have HB := Lib.hid (bthen HB.out hb27 (Nat.le_refl _))
      have Rm1 := Lib.hid (VecsAt.own hr27)
      clear hr27 hb27
      go_wp2_with fail
      refine (to_any _ _ _ (mergeV xs ys) _ Rm1.out (by omega)).mono ?_
      rintro e w28 ⟨v28, rfl, hr28, hb28⟩
      obtain ⟨Atm1, ctm1, rfl, hctm1⟩ := ownsRow_slice hr28
      have Rx' := Lib.hid (Rx'.out.stays hb28)
      have Ry' := Lib.hid (Ry'.out.stays hb28)
      have Rz' := Lib.hid (Rz'.out.stays hb28)
      have Rm1 := Lib.hid (Rm1.out.stays hb28)
      have HB := Lib.hid (bthen HB.out hb28 (Nat.le_refl _))
      have Rtm1 := Lib.hid (VecsAt.own hr28)
      clear hr28 hb28
      clear Rm1
      go_wp2_with fail
      refine (merge_any _ _ _ _ _ _ ys xs _ Ry'.out Rx'.out (by omega)).mono ?_
      rintro e w29 ⟨v29, rfl, hr29, hb29⟩
      obtain ⟨Am2, cm2, rfl, hcm2⟩ := ownsRow_slice hr29
      have Rx' := Lib.hid (Rx'.out.stays hb29)
      have Ry' := Lib.hid (Ry'.out.stays hb29)
      have Rz' := Lib.hid (Rz'.out.stays hb29)
      have Rtm1 := Lib.hid (Rtm1.out.stays hb29)
      have HB := Lib.hid (bthen HB.out hb29 (Nat.le_refl _))
      have Rm2 := Lib.hid (VecsAt.own hr29)
      clear hr29 hb29
      go_wp2_with fail
      refine (to_any _ _ _ (mergeV ys xs) _ Rm2.out (by omega)).mono ?_
      rintro e w30 ⟨v30, rfl, hr30, hb30⟩
      obtain ⟨Atm2, ctm2, rfl, hctm2⟩ := ownsRow_slice hr30
      have Rx' := Lib.hid (Rx'.out.stays hb30)
      have Ry' := Lib.hid (Ry'.out.stays hb30)
      have Rz' := Lib.hid (Rz'.out.stays hb30)
      have Rtm1 := Lib.hid (Rtm1.out.stays hb30)
      have Rm2 := Lib.hid (Rm2.out.stays hb30)
      have HB := Lib.hid (bthen HB.out hb30 (Nat.le_refl _))
      have Rtm2 := Lib.hid (VecsAt.own hr30)
      clear hr30 hb30
      clear Rm2
      go_wp2_with fail
      refine (same_eq _ _ _ _ _ _ (mergeV xs ys) (mergeV ys xs) _ (Vec.merge_comm xs ys) Rtm1.out Rtm2.out (by omega) (by omega)).mono ?_
      rintro e w31 ⟨rfl, q31, rfl⟩
      have Rx' := Lib.hid (Rx'.out.drewN q31)
      have Ry' := Lib.hid (Ry'.out.drewN q31)
      have Rz' := Lib.hid (Rz'.out.drewN q31)
      have Rtm1 := Lib.hid (Rtm1.out.drewN q31)
      have Rtm2 := Lib.hid (Rtm2.out.drewN q31)
      have HB := Lib.hid (bdrewN HB.out q31)
      clear Rtm1
      clear Rtm2
      go_wp2_with fail
      refine (merge_any _ _ _ _ _ _ xs ys _ Rx'.out Ry'.out (by omega)).mono ?_
      rintro e w32 ⟨v32, rfl, hr32, hb32⟩
      obtain ⟨An1, cn1, rfl, hcn1⟩ := ownsRow_slice hr32
      have Rx' := Lib.hid (Rx'.out.stays hb32)
      have Ry' := Lib.hid (Ry'.out.stays hb32)
      have Rz' := Lib.hid (Rz'.out.stays hb32)
      have HB := Lib.hid (bthen HB.out hb32 (Nat.le_refl _))
      have Rn1 := Lib.hid (VecsAt.own hr32)
      clear hr32 hb32
      go_wp2_with fail
      refine (merge_any _ _ _ _ _ _ (mergeV xs ys) zs _ Rn1.out Rz'.out (by omega)).mono ?_
      rintro e w33 ⟨v33, rfl, hr33, hb33⟩
      obtain ⟨An2, cn2, rfl, hcn2⟩ := ownsRow_slice hr33
      have Rx' := Lib.hid (Rx'.out.stays hb33)
      have Ry' := Lib.hid (Ry'.out.stays hb33)
      have Rz' := Lib.hid (Rz'.out.stays hb33)
      have Rn1 := Lib.hid (Rn1.out.stays hb33)
      have HB := Lib.hid (bthen HB.out hb33 (Nat.le_refl _))
      have Rn2 := Lib.hid (VecsAt.own hr33)
      clear hr33 hb33
      clear Rn1
      go_wp2_with fail
      refine (to_any _ _ _ (mergeV (mergeV xs ys) zs) _ Rn2.out (by omega)).mono ?_
      rintro e w34 ⟨v34, rfl, hr34, hb34⟩
      obtain ⟨Atn2, ctn2, rfl, hctn2⟩ := ownsRow_slice hr34
      have Rx' := Lib.hid (Rx'.out.stays hb34)
      have Ry' := Lib.hid (Ry'.out.stays hb34)
      have Rz' := Lib.hid (Rz'.out.stays hb34)
      have Rn2 := Lib.hid (Rn2.out.stays hb34)
      have HB := Lib.hid (bthen HB.out hb34 (Nat.le_refl _))
      have Rtn2 := Lib.hid (VecsAt.own hr34)
      clear hr34 hb34
      clear Rn2
      go_wp2_with fail
      refine (merge_any _ _ _ _ _ _ ys zs _ Ry'.out Rz'.out (by omega)).mono ?_
      rintro e w35 ⟨v35, rfl, hr35, hb35⟩
      obtain ⟨An3, cn3, rfl, hcn3⟩ := ownsRow_slice hr35
      have Rx' := Lib.hid (Rx'.out.stays hb35)
      have Ry' := Lib.hid (Ry'.out.stays hb35)
      have Rz' := Lib.hid (Rz'.out.stays hb35)
      have Rtn2 := Lib.hid (Rtn2.out.stays hb35)
      have HB := Lib.hid (bthen HB.out hb35 (Nat.le_refl _))
      have Rn3 := Lib.hid (VecsAt.own hr35)
      clear hr35 hb35
      go_wp2_with fail
      refine (merge_any _ _ _ _ _ _ xs (mergeV ys zs) _ Rx'.out Rn3.out (by omega)).mono ?_
      rintro e w36 ⟨v36, rfl, hr36, hb36⟩
      obtain ⟨An4, cn4, rfl, hcn4⟩ := ownsRow_slice hr36
      have Rx' := Lib.hid (Rx'.out.stays hb36)
      have Ry' := Lib.hid (Ry'.out.stays hb36)
      have Rz' := Lib.hid (Rz'.out.stays hb36)
      have Rtn2 := Lib.hid (Rtn2.out.stays hb36)
      have Rn3 := Lib.hid (Rn3.out.stays hb36)
      have HB := Lib.hid (bthen HB.out hb36 (Nat.le_refl _))
      have Rn4 := Lib.hid (VecsAt.own hr36)
      clear hr36 hb36
      clear Rn3
      go_wp2_with fail
      refine (to_any _ _ _ (mergeV xs (mergeV ys zs)) _ Rn4.out (by omega)).mono ?_
      rintro e w37 ⟨v37, rfl, hr37, hb37⟩
      obtain ⟨Atn4, ctn4, rfl, hctn4⟩ := ownsRow_slice hr37
      have Rx' := Lib.hid (Rx'.out.stays hb37)
      have Ry' := Lib.hid (Ry'.out.stays hb37)
      have Rz' := Lib.hid (Rz'.out.stays hb37)
      have Rtn2 := Lib.hid (Rtn2.out.stays hb37)
      have Rn4 := Lib.hid (Rn4.out.stays hb37)
      have HB := Lib.hid (bthen HB.out hb37 (Nat.le_refl _))
      have Rtn4 := Lib.hid (VecsAt.own hr37)
      clear hr37 hb37
      clear Rn4
      go_wp2_with fail
      refine (same_eq _ _ _ _ _ _ (mergeV (mergeV xs ys) zs) (mergeV xs (mergeV ys zs)) _ (Vec.merge_assoc xs ys zs) Rtn2.out Rtn4.out (by omega) (by omega)).mono ?_
      rintro e w38 ⟨rfl, q38, rfl⟩
      have Rx' := Lib.hid (Rx'.out.drewN q38)
      have Ry' := Lib.hid (Ry'.out.drewN q38)
      have Rz' := Lib.hid (Rz'.out.drewN q38)
      have Rtn2 := Lib.hid (Rtn2.out.drewN q38)
      have Rtn4 := Lib.hid (Rtn4.out.drewN q38)
      have HB := Lib.hid (bdrewN HB.out q38)
      clear Rtn2
      clear Rtn4
      go_wp2_with fail
      refine (example_any _).mono ?_
      rintro e w39 ⟨rfl, hb39⟩
      have Rx' := Lib.hid (Rx'.out.stays hb39)
      have Ry' := Lib.hid (Ry'.out.stays hb39)
      have Rz' := Lib.hid (Rz'.out.stays hb39)
      have HB := Lib.hid (bthen HB.out hb39 (Nat.le_refl _))
      clear hb39
      go_wp2
      go_ret
      exact ⟨rfl, HB.out⟩
end Go.Proofs.Ytgcngipbjkmdoaa
