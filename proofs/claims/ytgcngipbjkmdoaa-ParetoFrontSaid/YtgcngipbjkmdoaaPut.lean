/-
  put: a vector is added to a front that the call has made.
-/
import Derived.Test.YtgcngipbjkmdoaaCov
import Derived.Test.YtgcngipbjkmdoaaCopy
namespace Go.Proofs.Ytgcngipbjkmdoaa
open Go.RowKit
open Vec (V vi leV eqV domV ltV cmpV covV keepV lowV highV putV)

theorem ownsRow_stays {w w' : World} {base e size n : Nat} {v : Value} {xs : List Value} (h : w.ownsRow base e size v n xs) (hb : Below w.heap.size w w') : w'.ownsRow base e size v n xs := by
  refine ⟨h.1, ?_⟩
  rcases h.2 with h | ⟨g, cap, cur, hv, hg, hh, hr⟩
  · exact .inl h
  · exact .inr ⟨g, cap, cur, hv, hg, (hb.block g (Array.getElem?_eq_some_iff.1 hh).1).trans hh, hr⟩

/-- what put leaves -/
def Put (base : Nat) (w : World) (xs : List V) (v : V) (e : Ending) (w' : World) : Prop :=
  ∃ v' : Value, e = .returned v' ∧ w'.ownsRow base 23 4 v' (putV xs v).length (vcs (putV xs v)) ∧ Below base w w'

theorem put_fin {base k j : Nat} {xs ks : List V} {v : V} {w w' : World} {v' : Value} (hcov : covV xs v = false) (hks : ks = keepV xs v) (hl : lowV ks v = ks.take j ∧ highV ks v = ks.drop j) (hk : ks.length = k) (hj : j ≤ k)
    (ho : w'.ownsRow base 23 4 v' (j + 1 + (k - j)) ((vcs (ks.take j) ++ vc v) ++ vcs (ks.drop j))) (hb : Below base w w') : Put base w xs v (.returned v') w' := by
  have e : putV xs v = ks.take j ++ v :: ks.drop j := by
    unfold putV
    rw [if_neg (by rw [hcov]; simp), ← hks, hl.1, hl.2]
  refine ⟨v', rfl, ?_, hb⟩
  rw [e, vcs_app, vcs_cons, ← List.append_assoc, show (ks.take j ++ v :: ks.drop j).length = j + 1 + (k - j) by rw [List.length_append, List.length_cons, List.length_take, List.length_drop, hk]; omega]
  exact ho

set_option maxHeartbeats 4000000 in
theorem put_new (base g0 : Nat) (n c : Nat) (xs : List V) (v : V) (w : World) (hown : w.ownsRow base 23 4 (.slice (some ⟨g0, 0, none⟩) n c) n (vcs xs)) (hg0 : g0 < w.heap.size) (hbase : base ≤ w.heap.size) (hn : n ≤ 1000) (hcov : covV xs v = false) :
    Calls Try.prog 31 #[.slice (some ⟨g0, 0, none⟩) n c, .agg #[.int .i64 (vi v 0), .int .i64 (vi v 1), .int .i64 (vi v 2), .int .i64 (vi v 3)]] w fun e w' => Put base w xs v e w' := by
  obtain ⟨i0, hi, hz0, hz1, hz2⟩ := info_parts infoV
  have hx := VecsAt.own hown
  have hxl := hx.1
  have HV := Lib.hid (VBox.new w 23 v)
  have hs : w.heap.size < (w.alloc (.cells #[.int .i64 (vi v 0), .int .i64 (vi v 1), .int .i64 (vi v 2), .int .i64 (vi v 3)] 23)).heap.size := by simp
  have ho := hown.alloc (.cells #[.int .i64 (vi v 0), .int .i64 (vi v 1), .int .i64 (vi v 2), .int .i64 (vi v 3)] 23)
  have HXL := Lib.hid hxl
  clear hxl
  go_enter Try.func31, Try.ntmps31
  go_wp2_with fail
  refine (covers_any _ n c xs v _ (hx.alloc _) hn).mono ?_
  rintro e w1 ⟨rfl, hb1⟩
  have hv1 : Hid (∀ j, j < 4 → w1.cell? ⟨w.heap.size, j, none⟩ = some (.int .i64 (vi v j))) := Lib.hid (fun j hj => (hb1.cell (p := ⟨w.heap.size, j, none⟩) hs).trans (HV.out j hj))
  have hs1 : w.heap.size < w1.heap.size := Nat.lt_of_lt_of_le hs hb1.size
  have ho1 := ownsRow_stays ho hb1
  have hbw : Below base w w1 := bthen (balloc (Below.refl _ w) _ hbase) hb1 hbase
  clear ho hown hx
  go_wp2_with fail
  go_loopg [5, 16] n (fun g s5 s16 wx => ∃ k m : Nat, m + g = n ∧ s16 = .int .i64 m ∧ s5 = .int .i64 k ∧ k ≤ m ∧ wx.ownsRow base 23 4 (.slice (some ⟨g0, 0, none⟩) n c) n (vcs (keepV (xs.take m) v ++ xs.drop k)) ∧ Hid (k = (keepV (xs.take m) v).length) ∧
    Hid (∀ j, j < 4 → wx.cell? ⟨w.heap.size, j, none⟩ = some (.int .i64 (vi v j))) ∧ w.heap.size < wx.heap.size ∧ Below base w wx)
  case atStart => exact ⟨0, 0, by omega, rfl, rfl, by omega, ho1, Lib.hid rfl, hv1, hs1, hbw⟩
  case round =>
    obtain ⟨k, m, hmg, rfl, rfl, hkm, hown, HK, HV1, hsr, hbr⟩ := hrel
    cases gk with
    | zero =>
      have hmz : ¬ ((m : Int) < (n : Int)) := by omega
      have hcl := Lib.hid (cur_len (xs := xs) (v := v) (m := m) (by rw [HXL.out]; omega) HK.out)
      obtain ⟨ks, hks⟩ : ∃ ks, ks = keepV (xs.take m) v := ⟨_, rfl⟩
      obtain ⟨zs, hzs⟩ : ∃ zs, zs = xs.drop k := ⟨_, rfl⟩
      rw [← hks, ← hzs] at hown
      have HKS : Hid (ks = keepV xs v) := Lib.hid (by rw [hks, List.take_of_length_le (by rw [HXL.out]; omega)])
      have HKL : Hid (ks.length = k) := Lib.hid (by rw [hks]; exact HK.out.symm)
      have HZL : Hid (ks.length + zs.length = n) := Lib.hid (by rw [← List.length_append, hks, hzs, hcl.out, HXL.out])
      clear hks hzs hcl HK
      have hkn : k ≤ n := by omega
      clear HV hv1 ho1 hs1 hb1 hbw hs
      go_wp2_with fail
      have HO := Lib.hid hown
      clear hown
      obtain ⟨wo, rfl⟩ : ∃ wo : World, wo = wr := ⟨_, rfl⟩
      go_loopg [8] k (fun g s8 wx => ∃ j : Nat, j + g = k ∧ s8 = .int .i64 j ∧ Below wo.heap.size wo wx ∧ Hid (∀ i, i < j → ltV (gv ks i) v = true))
      case atStart => exact ⟨0, by omega, rfl, Below.refl _ _, fun i h => absurd h (by omega)⟩
      case round =>
        obtain ⟨j, hjg, rfl, hbj, HJ⟩ := hrel
        have HOr := Lib.hid (ownsRow_stays HO.out hbj)
        have HVr : Hid (∀ j, j < 4 → wr.cell? ⟨w.heap.size, j, none⟩ = some (.int .i64 (vi v j))) := Lib.hid (fun j hj => (hbj.cell (p := ⟨w.heap.size, j, none⟩) hsr).trans (HV1.out j hj))
        have hsr2 : w.heap.size < wr.heap.size := Nat.lt_of_lt_of_le hsr hbj.size
        have hBW : Below base w wr := bthen hbr hbj hbase
        have hnc : n ≤ c := by
          rcases HOr.out.2 with ⟨h, _⟩ | ⟨_, _, _, h, _, _, h', _⟩
          · simp at h
          · simp at h; omega
        cases gk with
        | zero =>
          have hjk : j ≤ k := by omega
          have hkj : k ≤ j := by omega
          have hd : decide (j < k) = false := by simp; omega
          have HL := Lib.hid (low_take (ks := ks) (v := v) (j := j) (by rw [HKL.out]; omega) HJ.out (.inl (by rw [HKL.out]; omega)))
          clear hjg
          go_wp2
          go_quiet (fail)
          clear hkj hd
          rcases (show c ≠ j ∨ c = j from by omega) with hcj | hcj
          · have hmk : base ≤ wr.heap.size := Nat.le_trans hbase hBW.size
            have hszV : (Try.prog.info? 23).map (·.size) = some 4 := by rw [hi]; simp [hz1]
            go_wp2_with (first | (at_make; refine wpList_make_full _ rfl _ _ 32 rfl wr.heap.size 23 i0 (.agg #[.int .i64 0, .int .i64 0, .int .i64 0, .int .i64 0]) 4 Try.underlying32 hi hz0 hz1 .i64 .i64 _ _ (k - j) rfl rfl (by omega) (by omega) (by rw [hz2]; omega) (by unfold maxLen; omega) (Nat.le_refl _) ?_; intro w4 hr4 hg4; have hb4 : Below wr.heap.size wr w4 := bthen (bdrewN (Below.refl _ wr) _) ((Below.refl _ _).grown hg4 (Nat.le_refl _) (by simp)) (Nat.le_refl _)) | (refine wpList_copy_whole rfl (.tmp 49) (.tmp 53) 32 32 rfl 23 4 Try.underlying32 hszV wr.heap.size _ (k - j) _ _ _ rfl rfl hr4 (vcs (ks.drop j)) (by rw [vcs_len, List.length_drop, HKL.out]) (fun hp => ⟨_, rfl, own_piece (ownsRow_stays HOr.out hb4)⟩) (vcs_one' _) ?_; intro w5 hr5 hb5))
            have hb45 : Below wr.heap.size wr w5 := hb4.trans hb5
            have HF := Lib.hid (ownsRow_stays HOr.out hb45)
            have HR := Lib.hid hr5
            have hs5 : wr.heap.size < w5.heap.size := own_lt hr5
            have d0 := (hb45.cell (p := ⟨w.heap.size, 0, none⟩) hsr2).trans (HVr.out 0 (by omega))
            have d1 := (hb45.cell (p := ⟨w.heap.size, 1, none⟩) hsr2).trans (HVr.out 1 (by omega))
            have d2 := (hb45.cell (p := ⟨w.heap.size, 2, none⟩) hsr2).trans (HVr.out 2 (by omega))
            have d3 := (hb45.cell (p := ⟨w.heap.size, 3, none⟩) hsr2).trans (HVr.out 3 (by omega))
            have hB5 : Below base w w5 := bthen hBW hb45 hbase
            have hgl : g0 < w5.heap.size := by omega
            have FH : Hid (∀ o i u, (vcs (ks.take j))[i]? = some u → (w5.drew.alloc o).cell? ((⟨g0, 0, none⟩ : Addr).add i) = some u) := Lib.hid (fun o i u hu => (World.cell?_alloc_lt w5.drew o ((⟨g0, 0, none⟩ : Addr).add i) (by rw [add_block]; exact hgl)).trans (own_head HF.out (by rw [HKL.out]; omega) i u hu))
            clear hr4 hr5 hg4 hb4 hb5
            have hjc : j ≤ c := by omega
            go_region_law (first | (refine step_append_grows rfl (.tmp 58) (.tmp 60) 32 rfl 23 i0 (.agg #[.int .i64 0, .int .i64 0, .int .i64 0, .int .i64 0]) 4 32 Try.underlying32 hi hz0 hz1 hz2 rfl (by decide) (some ⟨g0, 0, none⟩) j j (vcs (ks.take j)) (by simp [Act.eval, Act.put]) (by simp) (by rw [vcs_len, List.length_take, HKL.out]; omega) (fun b hb i u hu => by cases hb; exact FH.out _ i u hu) ⟨w5.heap.size, 0, none⟩ 1 1 (vc v) (by simp [Act.eval, Act.put]) rfl (vc_new _ _ _) (vc_one _) (by omega) (by unfold maxLen; omega) (by omega) ?_; intro v6 w6 hr6 hg6; have hb6 : Below w5.heap.size w5 w6 := (balloc (Below.refl w5.heap.size w5).drew _ (Nat.le_refl _)).grown hg6 (by simp) (by simp)) | (refine step_append_own rfl (.tmp 61) (.tmp 62) 32 rfl w5.heap.size 23 i0 (.agg #[.int .i64 0, .int .i64 0, .int .i64 0, .int .i64 0]) 4 32 Try.underlying32 hi hz0 hz1 hz2 rfl (by decide) v6 (j + 1) (vcs (ks.take j) ++ vc v) (by simp [Act.eval, Act.put]) (ownsRow_base hr6 (by simp)) ⟨wr.heap.size, 0, none⟩ (k - j) (k - j) (vcs (ks.drop j)) (by simp [Act.eval, Act.put]) (by rw [vcs_len, List.length_drop, HKL.out]) ((ownsRow_stays HR.out hb6).cells (g := wr.heap.size) rfl) (vcs_one' _) (by unfold maxLen; omega) (by omega) hb6.size ?_; intro v7 w7 hr7 hg7 _))
            have hb7 : Below w5.heap.size w5 w7 := below_own hb6 hb6.size (Nat.le_refl _) (ownsRow_base hr6 (by simp)) hg7
            have hfin := put_fin hcov HKS.out HL.out HKL.out hjk (ownsRow_base hr7 (Nat.le_trans hmk (Nat.le_trans hb45.size (Nat.le_refl _)))) (bthen hB5 hb7 hbase)
            clear hr6 hr7 hg6 hg7 hb6 d0 d1 d2 d3
            have HFIN := Lib.hid hfin
            clear hfin
            go_wp2
            go_ret
            exact HFIN.out
          · obtain rfl : j = c := hcj.symm
            have hmk : base ≤ wr.heap.size := Nat.le_trans hbase hBW.size
            have hszV : (Try.prog.info? 23).map (·.size) = some 4 := by rw [hi]; simp [hz1]
            go_wp2_with (first | (at_make; refine wpList_make_full _ rfl _ _ 32 rfl wr.heap.size 23 i0 (.agg #[.int .i64 0, .int .i64 0, .int .i64 0, .int .i64 0]) 4 Try.underlying32 hi hz0 hz1 .i64 .i64 _ _ (k - j) rfl rfl (by omega) (by omega) (by rw [hz2]; omega) (by unfold maxLen; omega) (Nat.le_refl _) ?_; intro w4 hr4 hg4; have hb4 : Below wr.heap.size wr w4 := bthen (bdrewN (Below.refl _ wr) _) ((Below.refl _ _).grown hg4 (Nat.le_refl _) (by simp)) (Nat.le_refl _)) | (refine wpList_copy_whole rfl (.tmp 49) (.tmp 53) 32 32 rfl 23 4 Try.underlying32 hszV wr.heap.size _ (k - j) _ _ _ rfl rfl hr4 (vcs (ks.drop j)) (by rw [vcs_len, List.length_drop, HKL.out]) (fun hp => ⟨_, rfl, absurd hp (by omega)⟩) (vcs_one' _) ?_; intro w5 hr5 hb5))
            have hb45 : Below wr.heap.size wr w5 := hb4.trans hb5
            have HF := Lib.hid (ownsRow_stays HOr.out hb45)
            have HR := Lib.hid hr5
            have hs5 : wr.heap.size < w5.heap.size := own_lt hr5
            have d0 := (hb45.cell (p := ⟨w.heap.size, 0, none⟩) hsr2).trans (HVr.out 0 (by omega))
            have d1 := (hb45.cell (p := ⟨w.heap.size, 1, none⟩) hsr2).trans (HVr.out 1 (by omega))
            have d2 := (hb45.cell (p := ⟨w.heap.size, 2, none⟩) hsr2).trans (HVr.out 2 (by omega))
            have d3 := (hb45.cell (p := ⟨w.heap.size, 3, none⟩) hsr2).trans (HVr.out 3 (by omega))
            have hB5 : Below base w w5 := bthen hBW hb45 hbase
            have hgl : g0 < w5.heap.size := by omega
            have FH : Hid (∀ o i u, (vcs (ks.take j))[i]? = some u → (w5.drew.alloc o).cell? ((⟨g0, 0, none⟩ : Addr).add i) = some u) := Lib.hid (fun o i u hu => (World.cell?_alloc_lt w5.drew o ((⟨g0, 0, none⟩ : Addr).add i) (by rw [add_block]; exact hgl)).trans (own_head HF.out (by rw [HKL.out]; omega) i u hu))
            clear hr4 hr5 hg4 hb4 hb5
            go_region_law (first | (refine step_append_grows rfl (.tmp 58) (.tmp 60) 32 rfl 23 i0 (.agg #[.int .i64 0, .int .i64 0, .int .i64 0, .int .i64 0]) 4 32 Try.underlying32 hi hz0 hz1 hz2 rfl (by decide) (some ⟨g0, 0, none⟩) j j (vcs (ks.take j)) (by simp [Act.eval, Act.put]) (by simp) (by rw [vcs_len, List.length_take, HKL.out]; omega) (fun b hb i u hu => by cases hb; exact FH.out _ i u hu) ⟨w5.heap.size, 0, none⟩ 1 1 (vc v) (by simp [Act.eval, Act.put]) rfl (vc_new _ _ _) (vc_one _) (by omega) (by unfold maxLen; omega) (by omega) ?_; intro v6 w6 hr6 hg6; have hb6 : Below w5.heap.size w5 w6 := (balloc (Below.refl w5.heap.size w5).drew _ (Nat.le_refl _)).grown hg6 (by simp) (by simp)) | (refine step_append_own rfl (.tmp 61) (.tmp 62) 32 rfl w5.heap.size 23 i0 (.agg #[.int .i64 0, .int .i64 0, .int .i64 0, .int .i64 0]) 4 32 Try.underlying32 hi hz0 hz1 hz2 rfl (by decide) v6 (j + 1) (vcs (ks.take j) ++ vc v) (by simp [Act.eval, Act.put]) (ownsRow_base hr6 (by simp)) ⟨wr.heap.size, 0, none⟩ (k - j) (k - j) (vcs (ks.drop j)) (by simp [Act.eval, Act.put]) (by rw [vcs_len, List.length_drop, HKL.out]) ((ownsRow_stays HR.out hb6).cells (g := wr.heap.size) rfl) (vcs_one' _) (by unfold maxLen; omega) (by omega) hb6.size ?_; intro v7 w7 hr7 hg7 _))
            have hb7 : Below w5.heap.size w5 w7 := below_own hb6 hb6.size (Nat.le_refl _) (ownsRow_base hr6 (by simp)) hg7
            have hfin := put_fin hcov HKS.out HL.out HKL.out hjk (ownsRow_base hr7 (Nat.le_trans hmk (Nat.le_trans hb45.size (Nat.le_refl _)))) (bthen hB5 hb7 hbase)
            clear hr6 hr7 hg6 hg7 hb6 d0 d1 d2 d3
            have HFIN := Lib.hid hfin
            clear hfin
            go_wp2
            go_ret
            exact HFIN.out
        | succ g2 =>
          have hjk' : j < k := by omega
          have hjk : j ≤ k := by omega
          have hjz : (j : Int) < (k : Int) := by omega
          have hd : decide (j < k) = true := by simpa using hjk'
          have hj0 : (0 : Int) ≤ (j : Int) := by omega
          have hjn : (j : Int) < (n : Int) := by omega
          have e0 := own_at HOr.out (show j < n by omega)
          rw [show gv (ks ++ zs) j = gv ks j from by unfold gv; rw [List.getD_eq_getElem?_getD, List.getD_eq_getElem?_getD, List.getElem?_append_left (by rw [HKL.out]; exact hjk')]] at e0
          obtain ⟨c0, c1, c2, c3⟩ := e0
          have f0 := HVr.out 0 (by omega)
          have f1 := HVr.out 1 (by omega)
          have f2 := HVr.out 2 (by omega)
          have f3 := HVr.out 3 (by omega)
          have hcn := cmp_neg (a := gv ks j) (b := v)
          go_wp2
          go_still_tail 9, (by kernel_rfl)
          go_wp2_with fail
          refine (cmp_any _ _ _).mono ?_
          rintro e w3 ⟨rfl, hb3⟩
          have hb3' : Below wo.heap.size wo w3 := bthen (w1 := wr.drew) hbj.drew hb3 (Nat.le_refl _)
          clear c0 c1 c2 c3 f0 f1 f2 f3 hb3 hbj HOr HVr hsr2 hBW hnc
          cases hl : ltV (gv ks j) v
          · have HL := Lib.hid (low_take (ks := ks) (v := v) (j := j) (by rw [HKL.out]; omega) HJ.out (.inr hl))
            rw [hl] at hcn
            have HOr := Lib.hid (ownsRow_stays HO.out hb3')
            have HVr : Hid (∀ j, j < 4 → w3.cell? ⟨w.heap.size, j, none⟩ = some (.int .i64 (vi v j))) := Lib.hid (fun j hj => (hb3'.cell (p := ⟨w.heap.size, j, none⟩) hsr).trans (HV1.out j hj))
            have hsr2 : w.heap.size < w3.heap.size := Nat.lt_of_lt_of_le hsr hb3'.size
            have hBW : Below base w w3 := bthen hbr hb3' hbase
            have hnc : n ≤ c := by
              rcases HOr.out.2 with ⟨h, _⟩ | ⟨_, _, _, h, _, _, h', _⟩
              · simp at h
              · simp at h; omega
            have hcj : c ≠ j := by omega
            clear hl
            have hmk : base ≤ w3.heap.size := Nat.le_trans hbase hBW.size
            have hszV : (Try.prog.info? 23).map (·.size) = some 4 := by rw [hi]; simp [hz1]
            go_wp2_with (first | (at_make; refine wpList_make_full _ rfl _ _ 32 rfl w3.heap.size 23 i0 (.agg #[.int .i64 0, .int .i64 0, .int .i64 0, .int .i64 0]) 4 Try.underlying32 hi hz0 hz1 .i64 .i64 _ _ (k - j) rfl rfl (by omega) (by omega) (by rw [hz2]; omega) (by unfold maxLen; omega) (Nat.le_refl _) ?_; intro w4 hr4 hg4; have hb4 : Below w3.heap.size w3 w4 := (Below.refl _ w3).grown hg4 (Nat.le_refl _) (by simp)) | (refine wpList_copy_whole rfl (.tmp 49) (.tmp 53) 32 32 rfl 23 4 Try.underlying32 hszV w3.heap.size _ (k - j) _ _ _ rfl rfl hr4 (vcs (ks.drop j)) (by rw [vcs_len, List.length_drop, HKL.out]) (fun hp => ⟨_, rfl, own_piece (ownsRow_stays HOr.out hb4)⟩) (vcs_one' _) ?_; intro w5 hr5 hb5))
            have hb45 : Below w3.heap.size w3 w5 := hb4.trans hb5
            have HF := Lib.hid (ownsRow_stays HOr.out hb45)
            have HR := Lib.hid hr5
            have hs5 : w3.heap.size < w5.heap.size := own_lt hr5
            have d0 := (hb45.cell (p := ⟨w.heap.size, 0, none⟩) hsr2).trans (HVr.out 0 (by omega))
            have d1 := (hb45.cell (p := ⟨w.heap.size, 1, none⟩) hsr2).trans (HVr.out 1 (by omega))
            have d2 := (hb45.cell (p := ⟨w.heap.size, 2, none⟩) hsr2).trans (HVr.out 2 (by omega))
            have d3 := (hb45.cell (p := ⟨w.heap.size, 3, none⟩) hsr2).trans (HVr.out 3 (by omega))
            have hB5 : Below base w w5 := bthen hBW hb45 hbase
            have hgl : g0 < w5.heap.size := by omega
            have FH : Hid (∀ o i u, (vcs (ks.take j))[i]? = some u → (w5.drew.alloc o).cell? ((⟨g0, 0, none⟩ : Addr).add i) = some u) := Lib.hid (fun o i u hu => (World.cell?_alloc_lt w5.drew o ((⟨g0, 0, none⟩ : Addr).add i) (by rw [add_block]; exact hgl)).trans (own_head HF.out (by rw [HKL.out]; omega) i u hu))
            clear hr4 hr5 hg4 hb4 hb5
            have hjc : j ≤ c := by omega
            go_region_law (first | (refine step_append_grows rfl (.tmp 58) (.tmp 60) 32 rfl 23 i0 (.agg #[.int .i64 0, .int .i64 0, .int .i64 0, .int .i64 0]) 4 32 Try.underlying32 hi hz0 hz1 hz2 rfl (by decide) (some ⟨g0, 0, none⟩) j j (vcs (ks.take j)) (by simp [Act.eval, Act.put]) (by simp) (by rw [vcs_len, List.length_take, HKL.out]; omega) (fun b hb i u hu => by cases hb; exact FH.out _ i u hu) ⟨w5.heap.size, 0, none⟩ 1 1 (vc v) (by simp [Act.eval, Act.put]) rfl (vc_new _ _ _) (vc_one _) (by omega) (by unfold maxLen; omega) (by omega) ?_; intro v6 w6 hr6 hg6; have hb6 : Below w5.heap.size w5 w6 := (balloc (Below.refl w5.heap.size w5).drew _ (Nat.le_refl _)).grown hg6 (by simp) (by simp)) | (refine step_append_own rfl (.tmp 61) (.tmp 62) 32 rfl w5.heap.size 23 i0 (.agg #[.int .i64 0, .int .i64 0, .int .i64 0, .int .i64 0]) 4 32 Try.underlying32 hi hz0 hz1 hz2 rfl (by decide) v6 (j + 1) (vcs (ks.take j) ++ vc v) (by simp [Act.eval, Act.put]) (ownsRow_base hr6 (by simp)) ⟨w3.heap.size, 0, none⟩ (k - j) (k - j) (vcs (ks.drop j)) (by simp [Act.eval, Act.put]) (by rw [vcs_len, List.length_drop, HKL.out]) ((ownsRow_stays HR.out hb6).cells (g := w3.heap.size) rfl) (vcs_one' _) (by unfold maxLen; omega) (by omega) hb6.size ?_; intro v7 w7 hr7 hg7 _))
            have hb7 : Below w5.heap.size w5 w7 := below_own hb6 hb6.size (Nat.le_refl _) (ownsRow_base hr6 (by simp)) hg7
            have hfin := put_fin hcov HKS.out HL.out HKL.out hjk (ownsRow_base hr7 (Nat.le_trans hmk (Nat.le_trans hb45.size (Nat.le_refl _)))) (bthen hB5 hb7 hbase)
            clear hr6 hr7 hg6 hg7 hb6 d0 d1 d2 d3
            have HFIN := Lib.hid hfin
            clear hfin
            go_wp2
            go_ret
            exact HFIN.out
          · rw [hl] at hcn
            have HJ2 : Hid (∀ i, i < j + 1 → ltV (gv ks i) v = true) := Lib.hid (fun i hi => by
              by_cases e : i = j
              · subst e; exact hl
              · exact HJ.out i (by omega))
            clear hl
            go_wp2
            go_roundg g2
            case measure => omega
            case rel => exact ⟨j + 1, by omega, by first | rfl | simp, hb3', HJ2⟩
    | succ g =>
      have hmz : (m : Int) < (n : Int) := by omega
      have hkz : (k : Int) < (n : Int) := by omega
      have hmx : m < xs.length := by rw [HXL.out]; omega
      obtain ⟨c0, c1, c2, c3⟩ := own_at hown (show m < n by omega)
      rw [cur_at hmx HK.out] at c0 c1 c2 c3
      have d0 := HV1.out 0 (by omega)
      have d1 := HV1.out 1 (by omega)
      have d2 := HV1.out 2 (by omega)
      have d3 := HV1.out 3 (by omega)
      have d0' := fun o => (World.cell?_alloc_lt wr o ⟨w.heap.size, 0, none⟩ hsr).trans d0
      have d1' := fun o => (World.cell?_alloc_lt wr o ⟨w.heap.size, 1, none⟩ hsr).trans d1
      have d2' := fun o => (World.cell?_alloc_lt wr o ⟨w.heap.size, 2, none⟩ hsr).trans d2
      have d3' := fun o => (World.cell?_alloc_lt wr o ⟨w.heap.size, 3, none⟩ hsr).trans d3
      clear hv1 ho1 hs1 hb1 hbw hs HV
      go_wp2_with fail
      refine (dom_any _ _ _).mono ?_
      rintro e w2 ⟨rfl, hb2⟩
      have xb := VBox.new wr 23 (gv xs m)
      have hsz : wr.heap.size < (wr.alloc (.cells #[.int .i64 (vi (gv xs m) 0), .int .i64 (vi (gv xs m) 1), .int .i64 (vi (gv xs m) 2), .int .i64 (vi (gv xs m) 3)] 23)).heap.size := by simp
      have x0 := (hb2.cell (p := ⟨wr.heap.size, 0, none⟩) hsz).trans (xb 0 (by omega))
      have x1 := (hb2.cell (p := ⟨wr.heap.size, 1, none⟩) hsz).trans (xb 1 (by omega))
      have x2 := (hb2.cell (p := ⟨wr.heap.size, 2, none⟩) hsz).trans (xb 2 (by omega))
      have x3 := (hb2.cell (p := ⟨wr.heap.size, 3, none⟩) hsz).trans (xb 3 (by omega))
      have ho2 := ownsRow_stays (hown.alloc (.cells #[.int .i64 (vi (gv xs m) 0), .int .i64 (vi (gv xs m) 1), .int .i64 (vi (gv xs m) 2), .int .i64 (vi (gv xs m) 3)] 23)) hb2
      obtain ⟨y0, y1, y2, y3⟩ := own_at ho2 (show k < n by omega)
      have z0 := ho2.frozenAt (k * 4)
      have z1 := ho2.frozenAt (k * 4 + 1)
      have z2 := ho2.frozenAt (k * 4 + 2)
      have z3 := ho2.frozenAt (k * 4 + 3)
      have HV2 : Hid (∀ j, j < 4 → w2.cell? ⟨w.heap.size, j, none⟩ = some (.int .i64 (vi v j))) := Lib.hid (fun j hj => (hb2.cell (p := ⟨w.heap.size, j, none⟩) (by simp; omega)).trans ((World.cell?_alloc_lt wr _ ⟨w.heap.size, j, none⟩ hsr).trans (HV1.out j hj)))
      have hb2' : Below base w w2 := bthen (balloc hbr _ hbase) hb2 hbase
      have hs2 : w.heap.size < w2.heap.size := Nat.lt_trans hsr (Nat.lt_of_lt_of_le hsz hb2.size)
      have HO := Lib.hid ho2
      have hgb : base ≤ g0 := by
        rcases ho2.2 with ⟨h, _⟩ | ⟨g', _, _, h, hb', _⟩
        · simp at h
        · simp at h; omega
      clear c0 c1 c2 c3 d0 d1 d2 d3 d0' d1' d2' d3' xb ho2 hown hsz hb2
      cases hd : domV v (gv xs m)
      · have HD := Lib.hid (keep_hit hmx hd)
        clear hd
        go_wp2_with fail
        go_roundg g
        case measure => omega
        case rel =>
          have hst := (((HO.out.stored (k * 4) (.int .i64 (vi (gv xs m) 0))).1.stored (k * 4 + 1) (.int .i64 (vi (gv xs m) 1))).1.stored (k * 4 + 2) (.int .i64 (vi (gv xs m) 2))).1.stored (k * 4 + 3) (.int .i64 (vi (gv xs m) 3))
          have hst1 := hst.1
          rw [vcs_set (by rw [cur_len (by omega) HK.out]; omega), cur_set hmx HK.out, ← HD.out] at hst1
          refine ⟨k + 1, m + 1, by omega, by first | rfl | simp, by first | rfl | simp, by omega, hst1, Lib.hid (by rw [HD.out, List.length_append, ← HK.out]; rfl), Lib.hid ?_, by simpa using hs2, ?_⟩
          · intro j hj
            have hne : ∀ a : Nat, (⟨g0, a, none⟩ : Addr) ≠ ⟨w.heap.size, j, none⟩ := fun a e => by injection e; omega
            rw [World.cell?_setCell_other _ _ _ _ (hne _), World.cell?_setCell_other _ _ _ _ (hne _), World.cell?_setCell_other _ _ _ _ (hne _), World.cell?_setCell_other _ _ _ _ (hne _)]
            exact HV2.out j hj
          · exact (((hb2'.setCell (p := ⟨g0, k * 4, none⟩) hgb _).setCell (p := ⟨g0, k * 4 + 1, none⟩) hgb _).setCell (p := ⟨g0, k * 4 + 2, none⟩) hgb _).setCell (p := ⟨g0, k * 4 + 3, none⟩) hgb _
      · have HD := Lib.hid (keep_miss hmx hd)
        clear hd
        go_wp2_with fail
        go_roundg g
        case measure => omega
        case rel =>
          refine ⟨k, m + 1, by omega, by first | rfl | simp, rfl, by omega, ?_, Lib.hid (by rw [HD.out]; exact HK.out), HV2, hs2, hb2'⟩
          rw [HD.out]
          exact HO.out
end Go.Proofs.Ytgcngipbjkmdoaa
