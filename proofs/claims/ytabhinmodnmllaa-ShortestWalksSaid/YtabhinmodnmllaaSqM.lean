/-
  Components of the program: the walk. Printed by gen/sp12.py.
-/
import Derived.Test.YtabhinmodnmllaaSqL
import Derived.BigQuiet
namespace Go.Proofs.Ytabhinmodnmllaa
open Go.RowKit

/-- the variable parent, and its row -/
structure ParAt (w : World) (P g base N : Nat) (ps : List Int) : Prop where
  cell : w.cell? ⟨P, 0, none⟩ = some (.slice (some ⟨g, 0, none⟩) N N)
  own : w.ownsRow base 3 intC.sz (.slice (some ⟨g, 0, none⟩) N N) N (intC.all ps)
  ne : P ≠ g
theorem ParAt.stays {w w' : World} {P g base N : Nat} {ps : List Int} (h : ParAt w P g base N ps) (hb : Below w.heap.size w w') : ParAt w' P g base N ps :=
  ⟨(World.cell?_of_block (a := ⟨P, 0, none⟩) (hb.block P (cell?_block_lt h.cell))).trans h.cell, ownsRow_stays h.own hb, h.ne⟩
theorem ParAt.put {w : World} {P g base N k : Nat} {ps : List Int} (h : ParAt w P g base N ps) (hk : k < ps.length) (x : Int) : ParAt (w.setCell ⟨g, k, none⟩ (.int .i64 x)) P g base N (ps.set k x) :=
  ⟨(World.cell?_of_block (a := ⟨P, 0, none⟩) (Below.heap_setCell _ _ _ _ (by simpa using h.ne))).trans h.cell, int_put h.own hk x, h.ne⟩
theorem ParAt.drewN {w : World} {P g base N : Nat} {ps : List Int} (h : ParAt w P g base N ps) (q : Nat) : ParAt (w.drewN q) P g base N ps := ⟨h.cell, h.own, h.ne⟩
theorem ds_step {ds o : List Int} {n k : Nat} (hl : ds.length = n) (ho : o.length = k) (h : ∀ j, j < k → gi ds j = gi o j) (hk : k < n) (x : Int) : (ds.set k x).length = n ∧ ∀ j, j < k + 1 → gi (ds.set k x) j = gi (o ++ [x]) j := by
  refine ⟨by rw [List.length_set]; exact hl, fun j hj => ?_⟩
  rw [gi_put (by omega)]
  by_cases e : j = k
  · rw [if_pos e, gi_app_one (by omega)]
  · rw [if_neg e, gi_app_left (by omega)]
    exact h j (by omega)
theorem quiet_eq {P : Program} {f : FuncId} {args : Array Value} {w : World} {n : Nat} {v : Value}
    (h : Calls P f args (w.drewN n) fun e w' => e = .returned v ∧ w.drewN n = w') : Calls P f args (w.drewN n) fun e w'' => e = .returned v ∧ ∃ m, w'' = w.drewN m :=
  h.mono fun _ _ ⟨he, hm⟩ => ⟨he, n, hm.symm⟩
theorem checkN_nil (n : Int) (l : List Edge) : checkN n l [] = checkI n l := by
  unfold checkN
  by_cases h : checkI n l ≠ 0
  · rw [if_pos h]
  · rw [if_neg h]
    simp
    omega
theorem id_of {ds : List Int} {n : Nat} (hl : ds.length = n) (h : ∀ j, j < n → gi ds j = (j : Int)) : ds = idL n := by
  apply gi_ext
  · rw [hl, idL_len]
  · intro k hk
    rw [hl] at hk
    rw [h k hk, idL_at hk]
theorem max_cast (a b : Nat) : max (a : Int) (b : Int) = ((max a b : Nat) : Int) := by omega
theorem min_cast (a b : Nat) : min (a : Int) (b : Int) = ((min a b : Nat) : Int) := by omega

set_option maxRecDepth 100000 in
set_option maxHeartbeats 8000000 in
theorem comp_any (A : Option Addr) (n : Int) (m c : Nat) (l : List Edge) (w : World) (hx : SAt edgeC w A m l) : Calls Try.prog 17 #[.int .i64 n, .slice A m c] w fun e w' => CompR l n w e w' := by
  obtain ⟨i0, hi, hz0, hz1, hz2⟩ := info_parts int_info
  have HX := Lib.hid hx
  have HM := Lib.hid hx.1
  clear hx
  go_enter Try.func17, Try.ntmps17
  go_wp2_with fail
  refine (check_any n A m c l none 0 0 [] w HX.out ⟨rfl, fun i h => absurd h (by omega)⟩ (by omega)).mono ?_
  rintro e w1 ⟨rfl, hb1⟩
  have HX1 := Lib.hid (HX.out.stays hb1)
  have HB1 := Lib.hid hb1
  clear hb1
  rw [checkN_nil]
  obtain ⟨r, hr⟩ : ∃ r, checkI n l = r := ⟨_, rfl⟩
  rw [hr]
  have HR := Lib.hid hr
  by_cases hr0 : r = 0
  · subst hr0
    have hc := checkI_good hr
    clear hr
    obtain ⟨N, rfl⟩ : ∃ N : Nat, n = (N : Int) := ⟨n.toNat, by omega⟩
    have HGD := Lib.hid hc.2.2.2
    have hN : N ≤ 64 := by omega
    have hm4 : m ≤ 4096 := by have h1 := hc.2.2.1; have h2 := HM.out; omega
    clear hc
    have hmf : ∀ (fn : Fn) (first cap : Array Value) (w : World), (Instr.makeFunc fn first cap).run Try.prog w = .ok (.func fn first cap) w := fun _ _ _ _ => rfl
    have hent : ∀ args w, (callFunc 29 args).run Try.prog w = .ok (.enter 29 args) w := enters_of Try.func29 (by kernel_rfl) rfl
    go_wp2_with (first | (at_make; refine wpList_make_full _ rfl _ _ 25 rfl w1.heap.size 3 i0 (.int .i64 0) 1 Try.underlying25 hi hz0 hz1 .i64 .i64 _ _ N rfl rfl (by omega) (by omega) (by rw [hz2]; omega) (by unfold maxLen; omega) (Nat.le_refl _) ?_; intro w2 hr2 hg2; have HB2 := Lib.hid ((Below.refl _ w1).grown hg2 (Nat.le_refl _) (by simp)); have HO2 : Hid (w2.ownsRow w1.heap.size 3 intC.sz (.slice (some ⟨w1.heap.size, 0, none⟩) N N) N (intC.all (List.replicate N 0))) := Lib.hid (by rw [← made_int]; exact hr2); clear hr2 hg2))
    have HP2 : Hid (ParAt (w2.alloc (.cells #[.slice (some ⟨w1.heap.size, 0, none⟩) N N] 25)) w2.heap.size w1.heap.size w1.heap.size N (List.replicate N 0)) := Lib.hid ⟨by rw [World.cell?_alloc_at _ _ _ _ rfl]; rfl, HO2.out.alloc _, fun e => by have := (own_lt HO2.out).1; omega⟩
    have HB3 := Lib.hid (bthen (bthen HB1.out HB2.out (Nat.le_refl _)) (al1 w2 (.cells #[.slice (some ⟨w1.heap.size, 0, none⟩) N N] 25)) (Nat.le_refl _))
    have HW1 : Hid (w.heap.size ≤ w1.heap.size) := Lib.hid HB1.out.size
    clear HO2 HB2
    go_loopw [28] (fun i wr => ∃ (k : Nat) (ds : List Int), k ≤ N ∧ i = .int .i64 k ∧ Hid (ds.length = N ∧ ∀ j, j < k → gi ds j = (j : Int)) ∧ Hid (ParAt wr w2.heap.size w1.heap.size w1.heap.size N ds) ∧ Hid (Below w.heap.size w wr)) (fun i _ => N - (intOf i).toNat)
    case atStart => exact ⟨0, _, by omega, rfl, Lib.hid ⟨by rw [List.length_replicate], fun j hj => absurd hj (by omega)⟩, HP2, HB3⟩
    case round =>
      clear HP2 HB3
      obtain ⟨k, ds, hkn, rfl, HD, HP, HB⟩ := hrel
      have k0 : (0 : Int) ≤ (k : Int) := by omega
      have hp := HP.out.cell
      by_cases hlt : k < N
      · have hlt' : (k : Int) < (N : Int) := by omega
        obtain ⟨q0, q1⟩ := int_own HP.out.own hlt
        have HPP := Lib.hid (HP.out.put (by rw [HD.out.1]; exact hlt) (k : Int))
        go_wp2
        go_roundw
        case rel => exact ⟨k + 1, _, by omega, by go_num, Lib.hid ⟨by rw [List.length_set]; exact HD.out.1, fun j hj => by rw [gi_put (by rw [HD.out.1]; exact hlt)]; by_cases e : j = k; rw [if_pos e, e]; rw [if_neg e]; exact HD.out.2 j (by omega)⟩, HPP, Lib.hid (HB.out.setCell (p := ⟨w1.heap.size, k, none⟩) HW1.out _)⟩
        case measure => simp [intOf]; omega
      · obtain rfl : k = N := by omega
        have hd0 : ¬ ((k : Int) < (k : Int)) := by omega
        have HID := Lib.hid (id_of HD.out.1 HD.out.2)
        rw [HID.out] at HP
        clear HD HID
        go_wp2
        clear hp
        go_loopw [39] (fun i wr => ∃ (p : Nat) (ps : List Int), p ≤ m ∧ i = .int .i64 p ∧ Hid (Par ps (rootTo l k p) k) ∧ Hid (ParAt wr w2.heap.size w1.heap.size w1.heap.size k ps) ∧ Hid (Below w.heap.size w wr)) (fun i _ => m - (intOf i).toNat)
        case atStart => exact ⟨0, _, by omega, rfl, Lib.hid (Par.start k), HP, HB⟩
        case round =>
          clear HP HB
          obtain ⟨p, ps, hpm, rfl, HPR, HP, HB⟩ := hrel
          have p0 : (0 : Int) ≤ (p : Int) := by omega
          by_cases hlp : p < m
          · have hlp' : (p : Int) < (m : Int) := by omega
            obtain ⟨ab, ao, hA, _⟩ := HX.out.at_ hlp
            subst hA
            obtain ⟨e0, e1, e2⟩ := edge_cells (HX.out.stays HB.out) hlp
            have hpl : p < l.length := by rw [HM.out]; exact hlp
            obtain ⟨s, d, hy, hs1, hd1, hw0, hw1⟩ := good_nat (HGD.out _ (ge_mem hpl))
            have HSP := Lib.hid (rootTo_step (n := k) hpl)
            have HLR := Lib.hid (rootTo_len l k p (by omega))
            obtain ⟨wt, hwt⟩ : ∃ wt, wt = (ge l p).wt := ⟨_, rfl⟩
            rw [← hwt] at hy hw0 hw1
            rw [hy] at HSP e0 e1 e2
            have HPS := Lib.hid (HPR.out.step (wt := wt) HLR.out hs1 hd1)
            obtain ⟨X, hX⟩ : ∃ X, X = wr.heap.size := ⟨_, rfl⟩
            obtain ⟨W, hW⟩ : ∃ W, W = wr.alloc (.cells #[.int .i64 (s : Int), .int .i64 (d : Int), .int .i64 wt] 47) := ⟨_, rfl⟩
            have hbW : Below wr.heap.size wr W := by rw [hW]; exact al1 _ _
            have HXB : Hid (BoxE W X ⟨(s : Int), (d : Int), wt⟩) := Lib.hid (by rw [hW]; exact BoxE.new wr ⟨(s : Int), (d : Int), wt⟩ _ _ hX)
            have HP3 := Lib.hid (HP.out.stays hbW)
            have HB3 := Lib.hid (bthen HB.out hbW (Nat.le_refl _))
            clear hbW hy hwt HP HB
            go_upto_region 14 with fail
            rw [← hW, ← hX]
            clear hW hX e0 e1 e2
            obtain ⟨b0, b1, b2⟩ := HXB.out
            have hF := HPR.out.1
            obtain ⟨s1, s2⟩ := rt_fix hF s hs1
            obtain ⟨d1, d2⟩ := rt_fix hF d hd1
            have hS0 : ∀ n, SAt intC (W.drewN n) (some ⟨w1.heap.size, 0, none⟩) k ps := fun n => (SAt.own HP3.out.own (by decide)).drewN n
            have hfs := fun n => quiet_eq (n := n) (first_any s k k w1.heap.size w2.heap.size ps (W.drewN n) hF hs1 HP3.out.cell (hS0 n))
            have hfd := fun n => quiet_eq (n := n) (first_any d k k w1.heap.size w2.heap.size ps (W.drewN n) hF hd1 HP3.out.cell (hS0 n))
            have HFS := Lib.hid hfs
            have HFD := Lib.hid hfd
            have HLP := Lib.hid hF.1
            have hp := HP3.out.cell
            obtain ⟨a, ha⟩ : ∃ a, a = rt ps s := ⟨_, rfl⟩
            obtain ⟨b, hb⟩ : ∃ b, b = rt ps d := ⟨_, rfl⟩
            rw [← ha] at HFS HPS s1 s2
            rw [← hb] at HFD HPS d1 d2
            clear ha hb hfs hfd hS0 hF s2 d2
            go_quiet (first | (with_reducible exact HFS.out _) | (with_reducible exact HFD.out _))
            rcases Nat.lt_trichotomy a b with hab | hab | hab
            · have f1 : (a : Int) < (b : Int) := by omega
              have f2 : ¬ (b : Int) < (a : Int) := by omega
              have f3 : ¬ b < a := by omega
              obtain ⟨q0, q1⟩ := int_own HP3.out.own (show b < k by omega)
              have m0 : (0 : Int) ≤ (b : Int) := by omega
              have m1 : (b : Int) < (k : Int) := by omega
              have HPS2 : Hid (Par (ps.set b (a : Int)) (joinR (rootTo l k p) ⟨(s : Int), (d : Int), wt⟩) k) := Lib.hid (by have h := HPS.out; rw [Nat.max_eq_right (by omega), Nat.min_eq_left (by omega)] at h; exact h)
              have HPP := fun q => Lib.hid ((HP3.out.drewN q).put (k := b) (by rw [HLP.out]; omega) (a : Int))
              clear HPS HFS HFD
              go_wp2
              go_roundw
              case rel => exact ⟨p + 1, _, by omega, by go_num, Lib.hid (by rw [HSP.out]; exact HPS2.out), HPP _, Lib.hid ((bdrewN HB3.out _).setCell (p := ⟨w1.heap.size, b, none⟩) HW1.out _)⟩
              case measure => simp [intOf]; omega
            · subst hab
              obtain ⟨q0, q1⟩ := int_own HP3.out.own (show a < k by omega)
              have m0 : (0 : Int) ≤ (a : Int) := by omega
              have m1 : (a : Int) < (k : Int) := by omega
              have HPS2 : Hid (Par (ps.set a (a : Int)) (joinR (rootTo l k p) ⟨(s : Int), (d : Int), wt⟩) k) := Lib.hid (by have h := HPS.out; rw [Nat.max_self, Nat.min_self] at h; exact h)
              have HPP := fun q => Lib.hid ((HP3.out.drewN q).put (k := a) (by rw [HLP.out]; omega) (a : Int))
              clear HPS HFS HFD
              go_wp2
              go_roundw
              case rel => exact ⟨p + 1, _, by omega, by go_num, Lib.hid (by rw [HSP.out]; exact HPS2.out), HPP _, Lib.hid ((bdrewN HB3.out _).setCell (p := ⟨w1.heap.size, a, none⟩) HW1.out _)⟩
              case measure => simp [intOf]; omega
            · have f1 : (b : Int) < (a : Int) := by omega
              have f2 : ¬ (a : Int) < (b : Int) := by omega
              have f3 : ¬ a < b := by omega
              obtain ⟨q0, q1⟩ := int_own HP3.out.own (show a < k by omega)
              have m0 : (0 : Int) ≤ (a : Int) := by omega
              have m1 : (a : Int) < (k : Int) := by omega
              have HPS2 : Hid (Par (ps.set a (b : Int)) (joinR (rootTo l k p) ⟨(s : Int), (d : Int), wt⟩) k) := Lib.hid (by have h := HPS.out; rw [Nat.max_eq_left (by omega), Nat.min_eq_right (by omega)] at h; exact h)
              have HPP := fun q => Lib.hid ((HP3.out.drewN q).put (k := a) (by rw [HLP.out]; omega) (b : Int))
              clear HPS HFS HFD
              go_wp2
              go_roundw
              case rel => exact ⟨p + 1, _, by omega, by go_num, Lib.hid (by rw [HSP.out]; exact HPS2.out), HPP _, Lib.hid ((bdrewN HB3.out _).setCell (p := ⟨w1.heap.size, a, none⟩) HW1.out _)⟩
              case measure => simp [intOf]; omega
          · obtain rfl : p = m := by omega
            have hdp : ¬ ((p : Int) < (p : Int)) := by omega
            have HCL : Hid (compL l k = (numTo (rootsL l k) k).1) := Lib.hid rfl
            have HRL : Hid (rootTo l k p = rootsL l k) := Lib.hid (by unfold rootsL; rw [HM.out])
            rw [HRL.out] at HPR
            obtain ⟨rs, hrs⟩ : ∃ rs, rs = rootsL l k := ⟨_, rfl⟩
            rw [← hrs] at HPR HCL
            clear hrs HRL
            obtain ⟨WS, hWS⟩ : ∃ WS, WS = wr := ⟨_, rfl⟩
            rw [← hWS] at HP HB ⊢
            clear hWS
            go_wp2_with (first | (at_make; refine wpList_make_full _ rfl _ _ 25 rfl WS.heap.size 3 i0 (.int .i64 0) 1 Try.underlying25 hi hz0 hz1 .i64 .i64 _ _ k rfl rfl (by omega) (by omega) (by rw [hz2]; omega) (by unfold maxLen; omega) (Nat.le_refl _) ?_; intro w5 hr5 hg5; have HB5 := Lib.hid ((Below.refl _ WS).grown hg5 (Nat.le_refl _) (by simp)); have HO5 : Hid (w5.ownsRow WS.heap.size 3 intC.sz (.slice (some ⟨WS.heap.size, 0, none⟩) k k) k (intC.all (List.replicate k 0))) := Lib.hid (by rw [← made_int]; exact hr5); clear hr5 hg5))
            go_loopw [15, 64] (fun x i wb => ∃ (j : Nat) (ct : Int) (o ds : List Int), j ≤ k ∧ i = .int .i64 j ∧ x = .int .i64 ct ∧ 0 ≤ ct ∧ ct ≤ j ∧ Hid (numTo rs j = (o, ct)) ∧ Hid (ds.length = k ∧ ∀ q, q < j → gi ds q = gi o q) ∧ Hid (wb.ownsRow WS.heap.size 3 intC.sz (.slice (some ⟨WS.heap.size, 0, none⟩) k k) k (intC.all ds)) ∧ Hid (Below WS.heap.size WS wb)) (fun _ i _ => k - (intOf i).toNat)
            case atStart => exact ⟨0, 0, [], _, by omega, rfl, rfl, by omega, by omega, Lib.hid rfl, Lib.hid ⟨by rw [List.length_replicate], fun q hq => absurd hq (by omega)⟩, HO5, HB5⟩
            case round =>
              clear HO5 HB5
              obtain ⟨j, ct, o, ds, hjk, rfl, rfl, hct0, hct1, HNT, HDS, HO5, HB5⟩ := hrel
              have j0 : (0 : Int) ≤ (j : Int) := by omega
              by_cases hlj : j < k
              · have hlj' : (j : Int) < (k : Int) := by omega
                have HPj := Lib.hid (HP.out.stays HB5.out)
                have hF := HPR.out.1
                have HRJ := Lib.hid (HPR.out.2 j hlj)
                have HOL : Hid (o.length = j) := Lib.hid (by have := numTo_len rs j; rw [HNT.out] at this; exact this)
                obtain ⟨f1, f2⟩ := rt_fix hF j hlj
                have hcall := first_any j k k w1.heap.size w2.heap.size ps wr hF hlj HPj.out.cell (SAt.own HPj.out.own (by decide))
                obtain ⟨f, hf⟩ : ∃ f, f = rt ps j := ⟨_, rfl⟩
                rw [← hf] at hcall f1 HRJ
                have HCALL := Lib.hid hcall
                clear hf f2 hF hcall
                go_wp2_with fail
                refine HCALL.out.mono ?_
                rintro e w7 ⟨rfl, rfl⟩
                clear HCALL
                obtain ⟨q0, q1⟩ := int_own HO5.out hlj
                have HPUT := fun x => Lib.hid (int_put HO5.out (by rw [HDS.out.1]; exact hlj) x)
                have HDST := fun x => Lib.hid (ds_step HDS.out.1 HOL.out HDS.out.2 hlj x)
                by_cases hfe : f = j
                · subst hfe
                  have HN2 := Lib.hid (num_new HNT.out HRJ.out)
                  go_wp2
                  go_roundw
                  case rel => exact ⟨f + 1, ct + 1, _, _, by omega, by go_num, by go_num, by omega, by omega, HN2, HDST ct, HPUT ct, Lib.hid (HB5.out.setCell (p := ⟨WS.heap.size, f, none⟩) (Nat.le_refl _) _)⟩
                  case measure => simp [intOf]; omega
                · have hfe1 : ¬ (f : Int) = (j : Int) := by omega
                  have hfe2 : ((f : Int) == (j : Int)) = false := by simpa using hfe1
                  have f0 : (0 : Int) ≤ (f : Int) := by omega
                  have f3 : (f : Int) < (k : Int) := by omega
                  have hfk : f < k := by omega
                  have HN2 := Lib.hid (num_old HNT.out HRJ.out hfe)
                  obtain ⟨t0, t1⟩ := int_own HO5.out hfk
                  rw [HDS.out.2 f (by omega)] at t0
                  go_wp2
                  go_roundw
                  case rel => exact ⟨j + 1, ct, _, _, by omega, by go_num, rfl, by omega, by omega, HN2, HDST (gi o f), HPUT (gi o f), Lib.hid (HB5.out.setCell (p := ⟨WS.heap.size, j, none⟩) (Nat.le_refl _) _)⟩
                  case measure => simp [intOf]; omega
              · obtain rfl : j = k := by omega
                have hdj : ¬ ((j : Int) < (j : Int)) := by omega
                have HCE : Hid (compL l j = ds) := Lib.hid (by
                  rw [HCL.out, HNT.out]
                  have hol : o.length = j := by have := numTo_len rs j; rw [HNT.out] at this; exact this
                  apply gi_ext
                  · rw [HDS.out.1]; exact hol
                  · intro q hq
                    exact (HDS.out.2 q (by rw [← hol]; exact hq)).symm)
                go_wp2
                go_ret2
                refine ⟨fun h => absurd HR.out h, fun _ => ⟨some ⟨WS.heap.size, 0, none⟩, j, by rw [Int.toNat_natCast]; rfl, ?_⟩, bthen HB.out HB5.out (Nat.le_refl _)⟩
                rw [Int.toNat_natCast, HCE.out]
                have := HO5.out
                rw [int_all] at this
                exact (IntsAt.own this).1
  · clear hr
    go_wp2
    go_ret2
    exact ⟨fun _ => by rw [HR.out]; rfl, fun h => absurd (HR.out.symm.trans h) hr0, HB1.out⟩
end Go.Proofs.Ytabhinmodnmllaa
