/-
  Components of the reference: the walk. Printed by gen/sp11.py.
-/
import Derived.Test.YtabhinmodnmllaaSqJ
import Derived.Test.YtabhinmodnmllaaSqH
import Derived.BigQuiet
namespace Go.Proofs.Ytabhinmodnmllaa
open Go.RowKit

/-- what Components leaves, in both packages -/
def CompR (l : List Edge) (n : Int) (w : World) (e : Ending) (w' : World) : Prop :=
  (checkI n l ≠ 0 → e = .returned (.tuple #[.slice none 0 0, .int .i64 (checkI n l)])) ∧
  (checkI n l = 0 → ∃ A c, e = .returned (.tuple #[.slice A n.toNat c, .int .i64 0]) ∧ IntsAt w' A n.toNat (compL l n.toNat)) ∧ Below w.heap.size w w'
theorem idL_step (k : Nat) : idL (k + 1) = idL k ++ [(k : Int)] := by
  unfold idL
  rw [List.range_succ, List.map_append]
  rfl
theorem num_new {rs : List Int} {k : Nat} {o : List Int} {ct : Int} (h : numTo rs k = (o, ct)) (hr : gi rs k = (k : Int)) : numTo rs (k + 1) = (o ++ [ct], ct + 1) := by
  rw [numTo, if_pos hr, h]
theorem num_old {rs : List Int} {k f : Nat} {o : List Int} {ct : Int} (h : numTo rs k = (o, ct)) (hr : gi rs k = (f : Int)) (hf : ¬ f = k) : numTo rs (k + 1) = (o ++ [gi o f], ct) := by
  rw [numTo, if_neg (by rw [hr]; omega), h, hr, Int.toNat_natCast]
theorem min_lt {fs : List Int} {s d : Nat} {wt : Int} (h : gi fs s < gi fs d) : minE fs ⟨(s : Int), (d : Int), wt⟩ = fs.set d (gi fs s) := by
  unfold minE
  rw [if_pos (by simpa using h)]
  rfl
theorem min_ge {fs : List Int} {s d : Nat} {wt : Int} (h : ¬ gi fs s < gi fs d) : minE fs ⟨(s : Int), (d : Int), wt⟩ = fs.set s (gi fs d) := by
  unfold minE
  rw [if_neg (by simpa using h)]
  rfl
/-- a row that is not empty lies in a block of its own -/
theorem own_block {w : World} {base e size n c : Nat} {A : Option Addr} {xs : List Value} (h : w.ownsRow base e size (.slice A n c) n xs) (h0 : 0 < n) : ∃ g, A = some ⟨g, 0, none⟩ ∧ base ≤ g ∧ g < w.heap.size := by
  have hO := h
  rcases hO.2 with ⟨_, h1⟩ | ⟨g, cap, cur, h1, _⟩
  · omega
  · injection h1 with h1
    subst h1
    exact ⟨g, rfl, (own_lt hO).2, (own_lt hO).1⟩

set_option maxRecDepth 100000 in
set_option maxHeartbeats 8000000 in
theorem rcomp_any (A : Option Addr) (n : Int) (m c : Nat) (l : List Edge) (w : World) (hx : SAt edgeC w A m l) : Calls Try.prog 18 #[.int .i64 n, .slice A m c] w fun e w' => CompR l n w e w' := by
  obtain ⟨i0, hi, hz0, hz1, hz2⟩ := info_parts int_info
  have HX := Lib.hid hx
  have HM := Lib.hid hx.1
  clear hx
  obtain ⟨r, hr⟩ : ∃ r, checkI n l = r := ⟨_, rfl⟩
  go_enter Try.func18, Try.ntmps18
  go_wp2_with fail
  refine (rcheck_any n A m c l w HX.out).mono ?_
  rintro e w0 ⟨rfl, rfl⟩
  rw [hr]
  have HR := Lib.hid hr
  by_cases hr0 : r = 0
  · subst hr0
    have hc := checkI_good hr
    clear hr
    obtain ⟨N, rfl⟩ : ∃ N : Nat, n = (N : Int) := ⟨n.toNat, by omega⟩
    have HGD := Lib.hid hc.2.2.2
    have hN : N ≤ 64 := by omega
    have hm4 : m ≤ 4096 := by have h1 := hc.2.2.1; have h2 := HM.out; omega
    clear hc
    go_wp2
    go_loopw [7, 8] (fun s i wr => ∃ k : Nat, k ≤ N ∧ i = .int .i64 k ∧ Hid (wr.ownsRow w.heap.size 3 intC.sz s k (intC.all (idL k))) ∧ Hid (Below w.heap.size w wr)) (fun _ i _ => N - (intOf i).toNat)
    case atStart => exact ⟨0, by omega, rfl, Lib.hid (World.ownsRow_nil _ _ _ _), Lib.hid (Below.refl _ w)⟩
    case round =>
      obtain ⟨k, hkn, rfl, HO, HB⟩ := hrel
      have k0 : (0 : Int) ≤ (k : Int) := by omega
      obtain ⟨A1, c1, rfl, _⟩ := ownsRow_slice HO.out
      by_cases hlt : k < N
      · have hlt' : (k : Int) < (N : Int) := by omega
        go_wp2_with (at_builtin; refine wpList_append_own _ rfl _ _ 25 rfl w.heap.size 3 i0 (.int .i64 0) intC.sz 8 Try.underlying25 hi hz0 hz1 hz2 rfl (by decide) _ _ _ rfl (HO.out.alloc _) ⟨wr.heap.size, 0, none⟩ 1 1 [.int .i64 (k : Int)] rfl rfl (cell_new1 _ _ _) (by intro u hu; simp at hu; subst hu; rfl) (by unfold maxLen; omega) (by omega) (balloc HB.out _ (Nat.le_refl _)).size ?_; intro v8 w8 hown8 hg8 _; have HO8 : Hid (w8.ownsRow w.heap.size 3 intC.sz v8 (k + 1) (intC.all (idL (k + 1)))) := Lib.hid (by rw [idL_step, edgeC_app]; exact hown8); have HB8 := Lib.hid (below_app HB.out HB.out.size (Nat.le_refl _) HO.out hg8); clear hown8 hg8)
        go_roundw
        case rel => exact ⟨k + 1, by omega, by go_num, HO8, HB8⟩
        case measure => simp [intOf]; omega
      · obtain rfl : k = N := by omega
        have hd0 : ¬ ((k : Int) < (k : Int)) := by omega
        go_wp2
        go_loopw [9] (fun i wb => ∃ r : Nat, r ≤ k ∧ i = .int .i64 r ∧ Hid (wb.ownsRow w.heap.size 3 intC.sz (.slice A1 k c1) k (intC.all (minRounds l (idL k) r))) ∧ Hid (Below w.heap.size w wb)) (fun i _ => k - (intOf i).toNat)
        case atStart => exact ⟨0, by omega, rfl, HO, HB⟩
        case round =>
          clear HO HB
          obtain ⟨r, hrk, rfl, HO, HB⟩ := hrel
          have r0 : (0 : Int) ≤ (r : Int) := by omega
          by_cases hlr : r < k
          · have hlr' : (r : Int) < (k : Int) := by omega
            go_wp2
            go_loopw [10] (fun i wb => ∃ p : Nat, p ≤ m ∧ i = .int .i64 p ∧ Hid (wb.ownsRow w.heap.size 3 intC.sz (.slice A1 k c1) k (intC.all (minTo l (minRounds l (idL k) r) p))) ∧ Hid (Below w.heap.size w wb)) (fun i _ => m - (intOf i).toNat)
            case atStart => exact ⟨0, by omega, rfl, HO, HB⟩
            case round =>
              clear HO HB
              obtain ⟨p, hpm, rfl, HO, HB⟩ := hrel
              have p0 : (0 : Int) ≤ (p : Int) := by omega
              by_cases hlp : p < m
              · have hlp' : (p : Int) < (m : Int) := by omega
                obtain ⟨ab, ao, hA, _⟩ := HX.out.at_ hlp
                subst hA
                obtain ⟨e0, e1, e2⟩ := edge_cells (HX.out.stays HB.out) hlp
                have hpl : p < l.length := by rw [HM.out]; exact hlp
                obtain ⟨s, d, hy, hs1, hd1, hw0, hw1⟩ := good_nat (HGD.out _ (ge_mem hpl))
                have HSP := Lib.hid (minTo_step hpl (minRounds l (idL k) r))
                obtain ⟨fs, hfs⟩ : ∃ fs, fs = minTo l (minRounds l (idL k) r) p := ⟨_, rfl⟩
                have HLN : Hid (fs.length = k) := Lib.hid (by rw [hfs, minTo_len _ _ _ (by omega), minRounds_len, idL_len])
                rw [← hfs] at HO HSP
                clear hfs
                obtain ⟨wt, hwt⟩ : ∃ wt, wt = (ge l p).wt := ⟨_, rfl⟩
                rw [← hwt] at hy hw0 hw1
                rw [hy] at HSP e0 e1 e2
                clear hy hwt
                obtain ⟨g, hg1, hg2, _⟩ := own_block HO.out (by omega)
                subst hg1
                obtain ⟨q0, q1⟩ := int_own HO.out hs1
                obtain ⟨u0, u1⟩ := int_own HO.out hd1
                have s0 : (0 : Int) ≤ (s : Int) := by omega
                have s1 : (s : Int) < (k : Int) := by omega
                have d0 : (0 : Int) ≤ (d : Int) := by omega
                have d1 : (d : Int) < (k : Int) := by omega
                have HLT := fun h => Lib.hid (min_lt (fs := fs) (s := s) (d := d) (wt := wt) h)
                have HGE := fun h => Lib.hid (min_ge (fs := fs) (s := s) (d := d) (wt := wt) h)
                have HPS := fun x => Lib.hid (int_put HO.out (by rw [HLN.out]; exact hs1) x)
                have HPT := fun x => Lib.hid (int_put HO.out (by rw [HLN.out]; exact hd1) x)
                obtain ⟨fa, hfa⟩ : ∃ fa, fa = gi fs s := ⟨_, rfl⟩
                obtain ⟨fb, hfb⟩ : ∃ fb, fb = gi fs d := ⟨_, rfl⟩
                rw [← hfa] at q0 HLT HGE
                rw [← hfb] at u0 HLT HGE
                clear hfa hfb
                go_wp2
                go_quiet (fail)
                by_cases hz : fa < fb
                · have HR2 := HLT hz
                  have HP2 := HPT fa
                  clear HLT HGE HPS HPT
                  go_wp2
                  go_quiet (fail)
                  go_wp2
                  go_roundw
                  case rel => exact ⟨p + 1, by omega, by go_num, Lib.hid (by rw [HSP.out, HR2.out]; exact HP2.out), Lib.hid ((bdrewN HB.out _).setCell (p := ⟨g, d, none⟩) hg2 _)⟩
                  case measure => simp [intOf]; omega
                · have HR2 := HGE (by omega)
                  have HP2 := HPS fb
                  clear HLT HGE HPS HPT
                  go_wp2
                  go_quiet (fail)
                  go_wp2
                  go_roundw
                  case rel => exact ⟨p + 1, by omega, by go_num, Lib.hid (by rw [HSP.out, HR2.out]; exact HP2.out), Lib.hid ((bdrewN HB.out _).setCell (p := ⟨g, s, none⟩) hg2 _)⟩
                  case measure => simp [intOf]; omega
              · obtain rfl : p = m := by omega
                have hdp : ¬ ((p : Int) < (p : Int)) := by omega
                have HEQ : Hid (minRounds l (idL k) (r + 1) = minTo l (minRounds l (idL k) r) p) := Lib.hid (by rw [minRounds, HM.out])
                go_wp2
                go_roundw
                case rel => exact ⟨r + 1, by omega, by go_num, Lib.hid (by rw [HEQ.out]; exact HO.out), HB⟩
                case measure => simp [intOf]; omega
          · obtain rfl : r = k := by omega
            have hdr : ¬ ((r : Int) < (r : Int)) := by omega
            have HLO := Lib.hid (fun i hi => (roots_ok HGD.out l.length (Nat.le_refl _)).lo i hi)
            have HMR := Lib.hid (min_roots HGD.out)
            have HCL : Hid (compL l r = (numTo (rootsL l r) r).1) := Lib.hid rfl
            obtain ⟨rs, hrs⟩ : ∃ rs, rs = rootsL l r := ⟨_, rfl⟩
            rw [HMR.out, ← hrs] at HO
            rw [← hrs] at HCL
            rw [show rootTo l r l.length = rs from hrs.symm] at HLO
            clear hrs HMR
            obtain ⟨WS, hWS⟩ : ∃ WS, WS = wr := ⟨_, rfl⟩
            rw [← hWS] at HO HB ⊢
            clear hWS
            have HF := HO
            have HBF := HB
            clear HO HB
            go_wp2
            go_loopw [13, 14, 15] (fun s x i wb => ∃ (k : Nat) (o : List Int) (ct : Int), k ≤ r ∧ i = .int .i64 k ∧ x = .int .i64 ct ∧ 0 ≤ ct ∧ ct ≤ k ∧ Hid (numTo rs k = (o, ct)) ∧ Hid (wb.ownsRow WS.heap.size 3 intC.sz s k (intC.all o)) ∧ Hid (Below WS.heap.size WS wb)) (fun _ _ i _ => r - (intOf i).toNat)
            case atStart => exact ⟨0, [], 0, by omega, rfl, rfl, by omega, by omega, Lib.hid rfl, Lib.hid (World.ownsRow_nil _ _ _ _), Lib.hid (Below.refl _ _)⟩
            case round =>
              obtain ⟨k, o, ct, hkr, rfl, rfl, hct0, hct1, HNT, HO, HB⟩ := hrel
              have k0 : (0 : Int) ≤ (k : Int) := by omega
              obtain ⟨A5, c5, rfl, _⟩ := ownsRow_slice HO.out
              by_cases hlk : k < r
              · have hlk' : (k : Int) < (r : Int) := by omega
                obtain ⟨f, hf⟩ : ∃ f : Nat, gi rs k = (f : Int) := ⟨(gi rs k).toNat, by have := HLO.out k hlk; omega⟩
                have hfk : f ≤ k := by have := HLO.out k hlk; omega
                obtain ⟨g, hg1, hg2, _⟩ := own_block HF.out (by omega)
                subst hg1
                obtain ⟨q0, q1⟩ := int_own (ownsRow_stays HF.out HB.out) hlk
                rw [hf] at q0
                have HRF := Lib.hid hf
                clear hf
                by_cases hfe : f = k
                · subst hfe
                  have HN2 := Lib.hid (num_new HNT.out HRF.out)
                  go_wp2_with (at_builtin; refine wpList_append_own _ rfl _ _ 25 rfl WS.heap.size 3 i0 (.int .i64 0) intC.sz 8 Try.underlying25 hi hz0 hz1 hz2 rfl (by decide) _ _ _ rfl (HO.out.alloc _) ⟨wr.heap.size, 0, none⟩ 1 1 [.int .i64 ct] rfl rfl (cell_new1 _ _ _) (by intro u hu; simp at hu; subst hu; rfl) (by unfold maxLen; omega) (by omega) (balloc HB.out _ (Nat.le_refl _)).size ?_; intro v8 w8 hown8 hg8 _; have HO8 : Hid (w8.ownsRow WS.heap.size 3 intC.sz v8 (f + 1) (intC.all (o ++ [ct]))) := Lib.hid (by rw [edgeC_app]; exact hown8); have HB8 := Lib.hid (below_app HB.out HB.out.size (Nat.le_refl _) HO.out hg8); clear hown8 hg8)
                  go_roundw
                  case rel => exact ⟨f + 1, o ++ [ct], ct + 1, by omega, by go_num, by go_num, by omega, by omega, HN2, HO8, HB8⟩
                  case measure => simp [intOf]; omega
                · have hfe1 : ¬ (f : Int) = (k : Int) := by omega
                  have hfe2 : ((f : Int) == (k : Int)) = false := by simpa using hfe1
                  have f0 : (0 : Int) ≤ (f : Int) := by omega
                  have f1 : (f : Int) < (k : Int) := by omega
                  have hfk2 : f < k := by omega
                  have HN2 := Lib.hid (num_old HNT.out HRF.out hfe)
                  obtain ⟨g5, hg5, _, _⟩ := own_block HO.out (by omega)
                  subst hg5
                  obtain ⟨t0, t1⟩ := int_own HO.out hfk2
                  go_wp2_with (at_builtin; refine wpList_append_own _ rfl _ _ 25 rfl WS.heap.size 3 i0 (.int .i64 0) intC.sz 8 Try.underlying25 hi hz0 hz1 hz2 rfl (by decide) _ _ _ rfl (HO.out.alloc _) ⟨wr.heap.size, 0, none⟩ 1 1 [.int .i64 (gi o f)] rfl rfl (cell_new1 _ _ _) (by intro u hu; simp at hu; subst hu; rfl) (by unfold maxLen; omega) (by omega) (balloc HB.out _ (Nat.le_refl _)).size ?_; intro v8 w8 hown8 hg8 _; have HO8 : Hid (w8.ownsRow WS.heap.size 3 intC.sz v8 (k + 1) (intC.all (o ++ [gi o f]))) := Lib.hid (by rw [edgeC_app]; exact hown8); have HB8 := Lib.hid (below_app HB.out HB.out.size (Nat.le_refl _) HO.out hg8); clear hown8 hg8)
                  go_roundw
                  case rel => exact ⟨k + 1, o ++ [gi o f], ct, by omega, by go_num, rfl, by omega, by omega, HN2, HO8, HB8⟩
                  case measure => simp [intOf]; omega
              · obtain rfl : k = r := by omega
                have hd2 : ¬ ((k : Int) < (k : Int)) := by omega
                have HCE : Hid (compL l k = o) := Lib.hid (by rw [HCL.out, HNT.out])
                go_wp2
                go_ret2
                refine ⟨fun h => absurd HR.out h, fun _ => ⟨A5, c5, by rw [Int.toNat_natCast]; rfl, ?_⟩, bthen HBF.out HB.out (Nat.le_refl _)⟩
                rw [Int.toNat_natCast, HCE.out]
                have := HO.out
                rw [int_all] at this
                exact (IntsAt.own this).1
  · clear hr
    go_wp2
    go_ret2
    exact ⟨fun _ => by rw [HR.out]; rfl, fun h => absurd (HR.out.symm.trans h) hr0, Below.refl _ _⟩
end Go.Proofs.Ytabhinmodnmllaa
