/-
  labels: the walk of Dijkstra's search. Printed by gen/sp5.py.
-/
import Derived.Test.YtabhinmodnmllaaSpN
namespace Go.Proofs.Ytabhinmodnmllaa
open Go.RowKit

theorem push_one (x : Lab) (q : Int) : pushN ltL [] x q = [⟨x, q⟩] := by
  unfold pushN
  rw [List.nil_append, List.length_nil]
  exact swimN_zero
theorem heap_row_lt {w : World} {base hb : Nat} {K : FuncId} {v : Value} {ns : List Node} {pu : Int} (h : HeapAt w base hb K v ns pu) {q : Nat} (hq : v.ownBlock = some q) : q < w.heap.size := (h.own.lt q hq).2
theorem HeapAt.below {w w' : World} {base hb : Nat} {K : FuncId} {v : Value} {ns : List Node} {pu : Int} (h : HeapAt w base hb K v ns pu) (hbase : base ≤ w.heap.size) (ha : Asd hb v.ownBlock w w') : Below base w w' :=
  ha.toBelow hbase h.hb0 (fun k hk => (h.own.lt k hk).1)
theorem own_keep {w w' : World} {base e size n : Nat} {v : Value} {xs : List Value} (h : w.ownsRow base e size v n xs) (hk : ∀ k, v.ownBlock = some k → w'.heap[k]? = w.heap[k]?) : w'.ownsRow base e size v n xs := by
  refine ⟨h.1, ?_⟩
  rcases h.2 with h | ⟨g, cap, cur, hv, hg, hr, h3⟩
  · exact .inl h
  · exact .inr ⟨g, cap, cur, hv, hg, (hk g (by rw [hv]; rfl)).trans hr, h3⟩
/-- a row that lies below the heap, behind a call of the heap -/
theorem own_under {w w' : World} {base e size n hb g c m : Nat} {K : FuncId} {vh : Value} {ns : List Node} {pu : Int} {xs : List Value} (h : w.ownsRow base e size (.slice (some ⟨g, 0, none⟩) m c) n xs) (hh : HeapAt w hb hb K vh ns pu) (hg : g < hb) (ha : Asd hb vh.ownBlock w w') : w'.ownsRow base e size (.slice (some ⟨g, 0, none⟩) m c) n xs :=
  own_keep h fun k hk => by
    simp [Value.ownBlock] at hk
    subst hk
    exact ha.block g (by have := hh.lt; omega) (by omega) (fun e => by have := (hh.own.lt g e.symm).1; omega)
/-- what is known of the numbers of edges -/
def Few (n : Nat) (out : List Lab) (ns : List Node) (pu : Nat) : Prop := (∀ x ∈ ns, x.p.edges < (pu : Int)) ∧ ∀ v : Int, 0 ≤ v → v < n → Seen out v → (lb out v).edges < (pu : Int)
/-- what labels leaves -/
def MadeLab (L : Int → List Edge) (s : Int) (n : Nat) (w : World) (e : Ending) (w' : World) : Prop :=
  ∃ v out, e = .returned v ∧ w'.ownsRow w.heap.size 57 labC.sz v n (labC.all out) ∧ LabOk L s n out ∧ Below w.heap.size w w'

set_option maxRecDepth 100000 in
set_option maxHeartbeats 4000000 in
theorem labels_any (n B : Nat) (s : Int) (w : World) (base cnt : Nat) (G : Int → Value) (L : Int → List Edge) (hG : Grp w base B cnt G L) (hg : Graph L n) (hs : 0 ≤ s ∧ s < n) (hn : n ≤ 64) (htot : remTo L (lab0 n) n ≤ 500) :
    Calls Try.prog 25 #[.int .i64 n, .map (some B), .int .i64 s] w fun e w' => MadeLab L s n w e w' := by
  obtain ⟨i0, hi, hz0, hz1, hz2⟩ := info_parts lab_info
  have HG := Lib.hid hG
  have HGR := Lib.hid hg
  have HS := Lib.hid hs
  have HTOT := Lib.hid htot
  clear hG hg hs htot
  go_enter Try.func25, Try.ntmps25
  go_wp2_with (first | (at_make; refine wpList_make_full _ rfl _ _ 50 rfl w.heap.size 57 i0 (.agg #[.int .i64 0, .int .i64 0, .int .i64 0]) 3 Try.underlying50 hi hz0 hz1 .i64 .i64 _ _ n rfl rfl (by omega) (by omega) (by rw [hz2]; omega) (by unfold maxLen; omega) (Nat.le_refl _) ?_; intro w2 hr2 hg2; have HB2 := Lib.hid ((Below.refl _ w).grown hg2 (Nat.le_refl _) (by simp)); have HO2 : Hid (w2.ownsRow w.heap.size 57 labC.sz (.slice (some ⟨w.heap.size, 0, none⟩) n n) n (labC.all (labTo n 0))) := Lib.hid (by rw [labTo_zero, ← made_lab]; exact hr2); clear hr2 hg2))
  go_loopw [18] (fun i wr => ∃ k : Nat, k ≤ n ∧ i = .int .i64 k ∧ Hid (wr.ownsRow w.heap.size 57 labC.sz (.slice (some ⟨w.heap.size, 0, none⟩) n n) n (labC.all (labTo n k))) ∧ Hid (Below w.heap.size w wr)) (fun i _ => n - (intOf i).toNat)
  case atStart => exact ⟨0, by omega, rfl, HO2, HB2⟩
  case round =>
    obtain ⟨k, hkn, rfl, HO, HB⟩ := hrel
    have k0 : (0 : Int) ≤ (k : Int) := by omega
    by_cases hlt : k < n
    · have hlt' : (k : Int) < (n : Int) := by omega
      obtain ⟨⟨c0, c1, c2⟩, cf⟩ := lab_own_cells HO.out hlt
      have HST := Lib.hid (labTo_set hlt)
      go_wp2
      go_roundw
      case rel => exact ⟨k + 1, by omega, by go_num, Lib.hid (by rw [← HST.out]; exact own_lab HO.out (by rw [labTo_len]; exact hlt) ⟨(k : Int), -1, -1⟩), Lib.hid (((HB.out.setCell (Nat.le_refl _) _).setCell (Nat.le_refl _) _).setCell (Nat.le_refl _) _)⟩
      case measure => simp [intOf]; omega
    · obtain rfl : k = n := by omega
      have hd0 : ¬ ((k : Int) < (k : Int)) := by omega
      go_wp2_with fail
      refine (new_any ltL _ less_fn _).mono ?_
      rintro e w3 ⟨K, hK, rfl, hh3, hb3⟩
      obtain ⟨H, hH⟩ : ∃ H, H = wr.heap.size := ⟨_, rfl⟩
      rw [← hH] at hh3
      rw [← hH]
      have HK := Lib.hid hK
      have HH3 := Lib.hid hh3
      have HO3 : Hid (w3.ownsRow w.heap.size 57 labC.sz (.slice (some ⟨w.heap.size, 0, none⟩) k k) k (labC.all (lab0 k))) := Lib.hid (by rw [← labTo_all]; exact ownsRow_stays HO.out hb3)
      have HB3 := Lib.hid (bthen HB.out hb3 (Nat.le_refl _))
      have HGH : Hid (w.heap.size < H) := Lib.hid (by rw [hH]; have := (HO.out.lt w.heap.size rfl).2; exact this)
      clear hK hh3 hb3 hH
      go_wp2_with fail
      refine (push_any K ltL HK.out _ _ _ [] 0 ⟨s, 0, 0⟩ _ HH3.out 0 rfl (by omega) (by omega)).mono ?_
      rintro e w4 ⟨rfl, v4, hh4, _, ha4⟩
      rw [push_one] at hh4
      have HO4 := Lib.hid (own_under HO3.out HH3.out HGH.out ha4)
      have HB4 := Lib.hid (HB3.out.trans ((HH3.out.below (Nat.le_of_lt HH3.out.lt) ha4).mono (Nat.le_of_lt HGH.out)))
      have HH4 := Lib.hid hh4
      have HI0 := Lib.hid (DInv.start0 (L := L) HS.out (q := ((0 : Nat) : Int)))
      clear hh4 ha4
      go_wp2
      go_loopg [] 502 (fun g wr2 => ∃ (ns : List Node) (v : Value) (out : List Lab) (pu : Nat), ns.length + remTo L out k + 1 ≤ g ∧ ns.length ≤ pu ∧ pu + remTo L out k ≤ 501 ∧ Hid (HeapAt wr2 H H K v ns (pu : Nat)) ∧ Hid (HeapOk ltL ns) ∧ Hid (DInv L s k out ns (-1) 0) ∧ Hid (wr2.ownsRow w.heap.size 57 labC.sz (.slice (some ⟨w.heap.size, 0, none⟩) k k) k (labC.all out)) ∧ Hid (Few k out ns pu) ∧ Hid (Below w.heap.size w wr2))
      case atStart =>
        have := HTOT.out
        exact ⟨_, v4, lab0 k, 1, by simp; omega, by simp, by omega, HH4, Lib.hid (by intro j h1 h2; simp at h2; omega), HI0, HO4, Lib.hid ⟨(by intro x hx; rw [List.mem_singleton.1 hx]; show (0 : Int) < ((1 : Nat) : Int); omega), fun v h0 h1 h2 => by unfold Seen at h2; rw [lab0_at h0 h1] at h2; simp at h2⟩, HB4⟩
      case round =>
        obtain ⟨ns, v, out, pu, hgk, hnp, hpr, HH, HOK, HI, HO5, HFW, HB5⟩ := hrel
        obtain ⟨g2, rfl⟩ : ∃ g2, gk = g2 + 1 := ⟨gk - 1, by omega⟩
        have hple : pu ≤ 100000 := by omega
        obtain hn0 | ⟨m, hnm⟩ : ns.length = 0 ∨ ∃ m, ns.length = m + 1 := by
          cases h : ns.length with
          | zero => exact .inl rfl
          | succ m => exact .inr ⟨m, rfl⟩
        · go_wp2_with fail
          refine (pop_zero K H H v ns pu _ HH.out hn0).mono ?_
          rintro e w5 ⟨rfl, hb5⟩
          have HO6 := Lib.hid (ownsRow_stays HO5.out hb5)
          have HB6 := Lib.hid (bthen HB5.out hb5 (Nat.le_refl _))
          have HE : Hid (LabOk L s k out) := Lib.hid (by have h := HI.out; rw [List.length_eq_zero_iff.1 hn0] at h; exact h.end_ HGR.out HS.out)
          clear hb5
          go_wp2
          go_ret
          exact ⟨_, out, rfl, ownsRow_stays HO6.out (al1 _ _), HE.out, bthen HB6.out (al1 _ _) (Nat.le_refl _)⟩
        · go_wp2_with fail
          refine (pop_any K ltL HK.out H H v ns pu _ HH.out m hnm (by omega)).mono ?_
          rintro e w5 ⟨rfl, v5, hh5, hv5, ha5⟩
          have HX := HI.out.sound _ (gn_mem (by omega : 0 < ns.length))
          obtain ⟨x, hx⟩ : ∃ x, (gn ns 0).p = x := ⟨_, rfl⟩
          obtain ⟨xn, xl, xe⟩ := x
          have hroot := root_all (f := ()) rfl HOK.out
          have hperm := pop_perm ltL hnm
          have hxm := gn_mem (by omega : 0 < ns.length)
          rw [hx] at HX
          rw [hx]
          obtain ⟨u, rfl⟩ : ∃ u : Nat, xn = (u : Int) := ⟨xn.toNat, by have := HX.1; simp at this; omega⟩
          have hu : u < k := by have := HX.2.1; simp at this; omega
          have HO6 := Lib.hid (own_under HO5.out HH.out HGH.out ha5)
          have HB6 := Lib.hid (HB5.out.trans ((HH.out.below (Nat.le_of_lt HH.out.lt) ha5).mono (Nat.le_of_lt HGH.out)))
          obtain ⟨X, hX⟩ : ∃ X, X = w5.heap.size := ⟨_, rfl⟩
          obtain ⟨W, hW⟩ : ∃ W, W = w5.alloc (.cells #[.int .i64 (u : Int), .int .i64 xl, .int .i64 xe] 57) := ⟨_, rfl⟩
          have hbW : Below w5.heap.size w5 W := by rw [hW]; exact al1 _ _
          have HXB : Hid (Box2 W X ⟨(u : Int), xl, xe⟩) := Lib.hid (by rw [hW]; exact Box2.new w5 ⟨(u : Int), xl, xe⟩ _ _ hX)
          have HO7 := Lib.hid (ownsRow_stays HO6.out hbW)
          have HB7 := Lib.hid (bthen HB6.out hbW (Nat.le_refl _))
          have HH7 := Lib.hid (hh5.stays hbW)
          have HXG : Hid (H < X ∧ ∀ q, v5.ownBlock = some q → q < X) := Lib.hid (by rw [hX]; exact ⟨hh5.lt, fun q hq => heap_row_lt hh5 hq⟩)
          have hfx := HFW.out.1 _ hxm
          rw [hx] at hfx
          obtain ⟨hx1, hx2, hx3⟩ := HX
          have hxe := hx3.edges
          have hxl := hx3.len HGR.out
          have HPM := Lib.hid hperm
          have HRT := Lib.hid hroot
          have HXX := Lib.hid hx
          have hfx' : xe < (pu : Int) := hfx
          have HOKP := Lib.hid (pop_ok (f := ()) rfl hnm HOK.out)
          have HPL := Lib.hid (popN_len (lt := ltL) hnm)
          have hXw : Hid (w.heap.size < X) := Lib.hid (by have := HXG.out; have := HGH.out; omega)
          clear hh5 ha5 hbW hx hroot hperm hxm hfx hx1 hx2 hx3 hv5
          go_upto_region 10 with fail
          rw [← hW, ← hX]
          clear hW hX
          obtain ⟨⟨c0, c1, c2⟩, cf⟩ := lab_own_cells HO7.out hu
          obtain ⟨b0, b1, b2, f0, f1, f2⟩ := HXB.out
          have u0 : (0 : Int) ≤ (u : Int) := by omega
          have hu' : (u : Int) < (k : Int) := by omega
          simp only [] at b0 b1 b2
          by_cases hse : 0 ≤ (gl out u).edges
          · have HI2 : Hid (DInv L s k out (popN ltL ns) (-1) 0) := Lib.hid (HI.out.skip HPM.out (by rw [HXX.out]; exact hse))
            have HF2 : Hid (Few k out (popN ltL ns) pu) := Lib.hid ⟨fun y hy => HFW.out.1 y (HPM.out.subset (List.mem_cons_of_mem _ hy)), HFW.out.2⟩
            go_wp2
            go_roundg g2
            case measure => omega
            case rel =>
              exact ⟨popN ltL ns, v5, out, pu, by rw [HPL.out]; omega, by rw [HPL.out]; omega, hpr, HH7, HOKP, HI2, HO7, HF2, HB7⟩
          · have hlen : out.length = k := HI.out.len
            have hse' : (gl out u).edges < 0 := by omega
            have HNS : Hid (¬ Seen out (u : Int)) := Lib.hid hse
            have hvis := HI.out.visit HGR.out HS.out HPM.out HRT.out (by rw [HXX.out]; exact HNS.out)
            rw [HXX.out] at hvis
            obtain ⟨out2, ho2⟩ : ∃ out2, out.set u ⟨(u : Int), xl, xe⟩ = out2 := ⟨_, rfl⟩
            have hrem := rem_set (L := L) hlen hu hse' (x := ⟨(u : Int), xl, xe⟩) hxe k (Nat.le_refl k)
            rw [if_pos hu] at hrem
            have hvis' : DInv L s k out2 (popN ltL ns) (u : Int) 0 := by rw [← ho2]; exact hvis
            have hlb : lb out2 (u : Int) = ⟨(u : Int), xl, xe⟩ := by
              unfold lb
              rw [← ho2, Int.toNat_natCast, gl_set hlen hu, if_pos rfl]
            have hfew : Few k out2 (popN ltL ns) pu := by
              refine ⟨fun y hy => HFW.out.1 y (HPM.out.subset (List.mem_cons_of_mem _ hy)), fun v' h0 h1 h2 => ?_⟩
              by_cases e : v' = (u : Int)
              · rw [e, hlb]; exact hfx'
              · have hst := lb_set (out := out) (u := (u : Int)) (n := k) ⟨u0, hu'⟩ h0 hlen ⟨(u : Int), xl, xe⟩
                rw [Int.toNat_natCast, ho2, if_neg e] at hst
                rw [hst]
                exact HFW.out.2 v' h0 h1 (by unfold Seen at h2 ⊢; rw [← hst]; exact h2)
            obtain ⟨W1, hW1⟩ : ∃ W1, ((W.setCell ⟨w.heap.size, u * 3, none⟩ (.int .i64 (u : Int))).setCell ⟨w.heap.size, u * 3 + 1, none⟩ (.int .i64 xl)).setCell ⟨w.heap.size, u * 3 + 2, none⟩ (.int .i64 xe) = W1 := ⟨_, rfl⟩
            have HO8 : Hid (W1.ownsRow w.heap.size 57 labC.sz (.slice (some ⟨w.heap.size, 0, none⟩) k k) k (labC.all out2)) := Lib.hid (by rw [← hW1, ← ho2]; exact own_lab HO7.out (by omega) ⟨(u : Int), xl, xe⟩)
            have hHne : w.heap.size ≠ H := by have := HGH.out; omega
            have hvne : v5.ownBlock ≠ some w.heap.size := fun e => by have h1 := (HH7.out.own.lt _ e).1; have := HGH.out; omega
            have HH8 : Hid (HeapAt W1 H H K v5 (popN ltL ns) (pu : Nat)) := Lib.hid (by rw [← hW1]; exact ((HH7.out.far _ _ hHne hvne).far _ _ hHne hvne).far _ _ hHne hvne)
            have HXB8 : Hid (Box2 W1 X ⟨(u : Int), xl, xe⟩) := Lib.hid (HXB.out.of_block (by have := hXw.out; rw [← hW1, Below.heap_setCell _ _ _ _ (by simp; omega), Below.heap_setCell _ _ _ _ (by simp; omega), Below.heap_setCell _ _ _ _ (by simp; omega)]))
            have HB8 : Hid (Below w.heap.size w W1) := Lib.hid (by rw [← hW1]; exact ((HB7.out.setCell (Nat.le_refl _) _).setCell (Nat.le_refl _) _).setCell (Nat.le_refl _) _)
            have hvX : v5.ownBlock ≠ some X := fun e => by have := HXG.out.2 X e; omega
            have HVX := Lib.hid hvX
            have HXH : Hid (X ≠ H) := Lib.hid (by have := HXG.out.1; omega)
            obtain ⟨Ag, cg, hgv, _⟩ := ownsRow_slice (HG.out.rows (u : Int))
            have HGV := Lib.hid hgv
            have hl0 := (HG.out.stays HB8.out).map.look (i := (u : Int)) (by unfold I64; omega)
            rw [hgv] at hl0
            obtain ⟨ln, hln⟩ : ∃ ln, (L (u : Int)).length = ln := ⟨_, rfl⟩
            rw [hln] at hl0 hrem
            have HLN := Lib.hid hln
            have HV0 := Lib.hid hvis'
            have HLB := Lib.hid hlb
            have HFW0 := Lib.hid hfew
            have HOUT := Lib.hid ho2
            rw [ho2] at hrem
            have HREM := Lib.hid hrem
            have hlnn : ln ≤ 501 := by omega
            clear hrem hlb hfew hvis hvis' hgv hln ho2 hvX hvne hHne
            go_upto_region 14 with fail
            try rw [hW1]
            clear hW1 c0 c1 c2 b0 b1 b2 f0 f1 f2 cf hse'
            obtain ⟨b0, b1, b2, _, _, _⟩ := HXB8.out
            simp only [] at b0 b1 b2
            go_wp2
            clear b0 b1 b2 hl0
            go_loopw [57] (fun i wr => ∃ (j pj : Nat) (ms : List Node) (vj : Value), j ≤ ln ∧ i = .int .i64 j ∧ ms.length + (ln - j) + remTo L out2 k + 1 ≤ g2 ∧ ms.length ≤ pj ∧ pj + (ln - j) + remTo L out2 k ≤ 501 ∧ xe < (pj : Int) ∧ Hid (vj.ownBlock ≠ some X) ∧ Hid (HeapAt wr H H K vj ms (pj : Nat)) ∧ Hid (HeapOk ltL ms) ∧ Hid (DInv L s k out2 ms (u : Int) j) ∧ Hid (wr.ownsRow w.heap.size 57 labC.sz (.slice (some ⟨w.heap.size, 0, none⟩) k k) k (labC.all out2)) ∧ Hid (Few k out2 ms pj) ∧ Hid (Box2 wr X ⟨(u : Int), xl, xe⟩) ∧ Hid (Below w.heap.size w wr)) (fun i _ => ln - (intOf i).toNat)
            case atStart => exact ⟨0, pu, _, v5, by omega, rfl, by rw [HPL.out]; have := HREM.out; omega, by rw [HPL.out]; omega, by have := HREM.out; omega, hfx', HVX, HH8, HOKP, HV0, HO8, HFW0, HXB8, HB8⟩
            case round =>
              obtain ⟨j, pj, ms, vj, hjn, rfl, hjg, hmp, hpj, hxp, HVJ, HHj, HOKj, HIj, HOj, HFj, HXj, HBj⟩ := hrel
              have j0 : (0 : Int) ≤ (j : Int) := by omega
              by_cases hjl : j < ln
              · have hjl' : (j : Int) < (ln : Int) := by omega
                have hrow := (HG.out.stays HBj.out).rows (u : Int)
                rw [HGV.out, HLN.out] at hrow
                have hS0 := SAt.own hrow (by decide)
                obtain ⟨bb, oo, hA, _⟩ := hS0.at_ hjl
                subst hA
                obtain ⟨e0, e1, e2⟩ := edge_cells hS0 hjl
                have hym : ge (L (u : Int)) j ∈ L (u : Int) := ge_mem (by rw [HLN.out]; exact hjl)
                obtain ⟨y, hy⟩ : ∃ y, ge (L (u : Int)) j = y := ⟨_, rfl⟩
                obtain ⟨ys, yd, yw⟩ := y
                rw [hy] at hym e0 e1 e2
                have hyd := HGR.out.dst _ _ hym
                have hyw := HGR.out.wt _ _ hym
                simp only [] at hyd hyw e0 e1 e2
                obtain ⟨d, rfl⟩ : ∃ d : Nat, yd = (d : Int) := ⟨yd.toNat, by omega⟩
                have hd : d < k := by omega
                have d0 : (0 : Int) ≤ (d : Int) := by omega
                have hd' : (d : Int) < (k : Int) := by omega
                obtain ⟨E, hE⟩ : ∃ E, E = wr.heap.size := ⟨_, rfl⟩
                obtain ⟨W2, hW2⟩ : ∃ W2, W2 = wr.alloc (.cells #[.int .i64 ys, .int .i64 (d : Int), .int .i64 yw] 47) := ⟨_, rfl⟩
                have hbW : Below wr.heap.size wr W2 := by rw [hW2]; exact al1 _ _
                have HEB : Hid (BoxE W2 E ⟨ys, (d : Int), yw⟩) := Lib.hid (by rw [hW2]; exact BoxE.new wr ⟨ys, (d : Int), yw⟩ _ _ hE)
                have HO2j := Lib.hid (ownsRow_stays HOj.out hbW)
                have HB2j := Lib.hid (bthen HBj.out hbW (Nat.le_refl _))
                have HH2j := Lib.hid (HHj.out.stays hbW)
                have HX2j := Lib.hid (HXj.out.stays hbW)
                have HY := Lib.hid hy
                clear hbW hym hrow hS0 hy
                go_upto_region 17 with fail
                rw [← hW2, ← hE]
                clear hW2 hE e0 e1 e2
                obtain ⟨⟨c0, c1, c2⟩, cf⟩ := lab_own_cells HO2j.out hd
                obtain ⟨a0, a1, a2⟩ := HEB.out
                obtain ⟨b0, b1, b2, _, _, _⟩ := HX2j.out
                simp only [] at a0 a1 a2 b0 b1 b2
                by_cases hds : (gl out2 d).edges < 0
                · have hw1 : IntKind.i64.wrap (xl + yw) = xl + yw := wrap64 (by omega) (by omega)
                  have hw2 : IntKind.i64.wrap (xe + 1) = xe + 1 := wrap64 (by omega) (by omega)
                  go_wp2_with fail
                  refine (push_any K ltL HK.out H H vj ms pj ⟨(d : Int), xl + yw, xe + 1⟩ _ HH2j.out ms.length rfl (by omega) (by omega)).mono ?_
                  rintro e w6 ⟨rfl, v6, hh6, hr6, ha6⟩
                  have HHp := Lib.hid hh6
                  have HLNp := Lib.hid (pushN_len ltL ms ⟨(d : Int), xl + yw, xe + 1⟩ (pj : Int))
                  have HOKp := Lib.hid (push_ok (lt := ltL) (f := ()) rfl ⟨(d : Int), xl + yw, xe + 1⟩ (pj : Int) HOKj.out)
                  have hpp := push_perm ltL ms ⟨(d : Int), xl + yw, xe + 1⟩ (pj : Int)
                  have HIp : Hid (DInv L s k out2 (pushN ltL ms ⟨(d : Int), xl + yw, xe + 1⟩ (pj : Int)) (u : Int) (j + 1)) := Lib.hid (HIj.out.push HGR.out ⟨u0, hu'⟩ (by rw [HLN.out]; exact hjl) (by unfold Seen; rw [HLB.out]; exact hxe) (by rw [HY.out, HLB.out]; exact hpp))
                  have HFp : Hid (Few k out2 (pushN ltL ms ⟨(d : Int), xl + yw, xe + 1⟩ (pj : Int)) (pj + 1)) := Lib.hid (by
                    refine ⟨fun z hz => ?_, fun v' h0 h1 h2 => by have := HFj.out.2 v' h0 h1 h2; omega⟩
                    rcases List.mem_append.1 (hpp.subset hz) with hz | hz
                    · have := HFj.out.1 z hz; omega
                    · rw [List.mem_singleton.1 hz]; show xe + 1 < ((pj + 1 : Nat) : Int); omega)
                  have HOp := Lib.hid (own_under HO2j.out HH2j.out HGH.out ha6)
                  have HXp := Lib.hid (HX2j.out.asd ha6 HXH.out (fun e => HVJ.out e.symm))
                  have HBp := Lib.hid (HB2j.out.trans ((HH2j.out.below (Nat.le_of_lt HH2j.out.lt) ha6).mono (Nat.le_of_lt HGH.out)))
                  have HVp : Hid (v6.ownBlock ≠ some X) := Lib.hid (by
                    rcases hr6 with h | h
                    · rw [h]; exact HVJ.out
                    · intro e; have h1 := h X e; have h2 := HX2j.out.lt; omega)
                  clear hh6 hpp ha6 hr6
                  go_wp2
                  go_roundw
                  case rel => exact ⟨j + 1, pj + 1, _, v6, by omega, by go_num, by rw [HLNp.out]; omega, by rw [HLNp.out]; omega, by omega, by omega, HVp, HHp, HOKp, HIp, HOp, HFp, HXp, HBp⟩
                  case measure => simp [intOf]; omega
                · have HI2 : Hid (DInv L s k out2 ms (u : Int) (j + 1)) := Lib.hid (HIj.out.pass u0 (by rw [HY.out]; show 0 ≤ (gl out2 d).edges; omega))
                  go_wp2
                  go_roundw
                  case rel => exact ⟨j + 1, pj, ms, vj, by omega, by go_num, by omega, hmp, by omega, hxp, HVJ, HH2j, HOKj, HI2, HO2j, HFj, HX2j, HB2j⟩
                  case measure => simp [intOf]; omega
              · obtain rfl : j = ln := by omega
                have hd0 : ¬ ((j : Int) < (j : Int)) := by omega
                have HI2 : Hid (DInv L s k out2 ms (-1) 0) := Lib.hid (HIj.out.done (by rw [HLN.out]; exact Nat.le_refl _))
                go_wp2
                go_roundg g2
                case measure => omega
                case rel => exact ⟨ms, vj, out2, pj, by omega, hmp, by omega, HHj, HOKj, HI2, HOj, HFj, HBj⟩
end Go.Proofs.Ytabhinmodnmllaa
