/-
  Path of the program: the walk. Printed by gen/sp10.py.
-/
import Derived.Test.YtabhinmodnmllaaSqH
import Derived.Test.YtabhinmodnmllaaSpI
import Derived.BigQuiet
namespace Go.Proofs.Ytabhinmodnmllaa
open Go.RowKit

theorem pe_no {cs : List Int} {a nx : Int} {y : Edge} (h : ¬ fitE cs a y = true) : pickE cs a nx y = nx := by
  unfold pickE
  rw [if_neg (fun h2 => h h2.1)]
theorem pe_keep {cs : List Int} {a nx : Int} {y : Edge} (h : ¬ nx < 0) (h2 : ¬ y.dst < nx) : pickE cs a nx y = nx := by
  unfold pickE
  rw [if_neg (fun h3 => by rcases h3.2 with h4 | h4; exact h h4; exact h2 h4)]
theorem pe_set {cs : List Int} {a nx : Int} {y : Edge} (h : fitE cs a y = true) (h2 : nx < 0 ∨ y.dst < nx) : pickE cs a nx y = y.dst := by
  unfold pickE
  rw [if_pos ⟨h, h2⟩]
/-- the program's test is the reference's -/
theorem fit_lab {l : List Edge} {n v : Nat} (hn : n ≤ 64) (hv : v < n) (hg : ∀ y ∈ l, GoodE (n : Int) y) (hm : l.length ≤ 500) {out : List Lab} (h : LabOk (fromE (turnL l)) (v : Int) n out) {t d : Nat} (ht : t < n) (hd : d < n) (hs : 0 ≤ (gl out t).edges) {s : Nat} {wt : Int} :
    fitE (costsOf l n v) (t : Int) ⟨(s : Int), (d : Int), wt⟩ = true ↔ 0 ≤ (gl out d).edges ∧ (gl out d).edges + 1 = (gl out t).edges ∧ (gl out d).len + wt = (gl out t).len := by
  rw [fit_iff]
  rcases lab_cost hn hv hg hm h hd with ⟨_, h1, h2, h3, _, h4⟩ | ⟨_, h1, h2, h3⟩
  · rcases lab_cost hn hv hg hm h ht with ⟨_, k1, k2, k3, _, k4⟩ | ⟨_, k1, k2, k3⟩
    · rw [h4, k4]
      omega
    · omega
  · omega
/-- every node of the path has its label -/
theorem path_seen {l : List Edge} {n a b : Nat} (hn : n ≤ 64) (ha : a < n) (hb : b < n) (hg : ∀ y ∈ l, GoodE (n : Int) y) (hm : l.length ≤ 500) {out : List Lab} (h : LabOk (fromE (turnL l)) (b : Int) n out) {c : Int} {E : Nat} (hbest : Best (fromE (turnL l)) (b : Int) (a : Int) c (E : Int)) {k t : Nat} (hk : k ≤ E) (ht : nodeP l (costsOf l n b) (a : Int) k = (t : Int)) (htn : t < n) : 0 ≤ (gl out t).edges ∧ (gl out t).edges < n ∧ 0 ≤ (gl out t).len ∧ (gl out t).len ≤ 68719476736 := by
  obtain ⟨_, c', h1⟩ := node_best hn hb hg ⟨by omega, by omega⟩ hbest k (by omega)
  rw [ht] at h1
  rcases lab_cost hn hb hg hm h htn with ⟨_, h2, h3, h4, h5, _⟩ | ⟨h2, _⟩
  · exact ⟨h2, h3, h4, h5⟩
  · exact absurd h1.1 (h2 _ _)

set_option maxRecDepth 100000 in
set_option maxHeartbeats 8000000 in
theorem path_any (A : Option Addr) (n a b : Int) (m c : Nat) (l : List Edge) (w : World) (hx : SAt edgeC w A m l) (hm : m ≤ 500 ∨ 4096 < m) : Calls Try.prog 15 #[.int .i64 n, .slice A m c, .int .i64 a, .int .i64 b] w fun e w' => PathR l n a b w e w' := by
  obtain ⟨i0, hi, hz0, hz1, hz2⟩ := info_parts int_info
  have HX := Lib.hid hx
  have HM := Lib.hid hx.1
  clear hx
  go_enter Try.func15, Try.ntmps15
  go_wp2_with fail
  have hb1 := al1 w (.cells #[.int .i64 a, .int .i64 b] 3)
  refine (check_any n A m c l _ 2 2 [a, b] _ (HX.out.stays hb1) (IntsAt.lit w _ [a, b]) (by omega)).mono ?_
  rintro e w1 ⟨rfl, hb2⟩
  have HX1 := Lib.hid ((HX.out.stays hb1).stays hb2)
  have HB1 := Lib.hid (bthen hb1 hb2 (Nat.le_refl _))
  obtain ⟨r, hr⟩ : ∃ r, checkN n l [a, b] = r := ⟨_, rfl⟩
  rw [hr]
  have HR := Lib.hid hr
  clear hb1 hb2 hr
  by_cases hr0 : r = 0
  · subst hr0
    have hg := checkN_good HR.out
    have hc := checkI_good hg.1
    obtain ⟨N, rfl⟩ : ∃ N : Nat, n = (N : Int) := ⟨n.toNat, by omega⟩
    have HGD := Lib.hid hc.2.2.2
    have hsa := hg.2 a List.mem_cons_self
    have hsb := hg.2 b (List.mem_cons_of_mem _ List.mem_cons_self)
    obtain ⟨a, rfl⟩ : ∃ S : Nat, a = (S : Int) := ⟨a.toNat, by omega⟩
    obtain ⟨b, rfl⟩ : ∃ S : Nat, b = (S : Int) := ⟨b.toNat, by omega⟩
    have hN : N ≤ 64 := by omega
    have ha : a < N := by omega
    have hb : b < N := by omega
    have ha0 : (0 : Int) ≤ (a : Int) := by omega
    have ha1 : (a : Int) < (N : Int) := by omega
    have hm5 : m ≤ 500 := by have h1 := hc.2.2.1; have h2 := HM.out; omega
    have HL5 : Hid (l.length ≤ 500) := Lib.hid (by rw [HM.out]; exact hm5)
    clear hg hc hsa hsb hm
    go_wp2_with fail
    refine (nbr_true A m c l _ HX1.out (by omega) (fun k hk => by have := (HGD.out _ (ge_mem (by rw [HM.out]; exact hk))).2.1; unfold I64; omega)).mono ?_
    rintro e w2 ⟨rfl, ⟨G0, hG0⟩, hb3⟩
    have HB2 := Lib.hid (bthen HB1.out hb3 (Nat.le_refl _))
    have HG0 := Lib.hid hG0
    have HX2 := Lib.hid (HX1.out.stays hb3)
    clear hb3 hG0 HX1
    go_wp2_with fail
    refine (labels_any N _ (b : Int) w2 _ _ G0 (fromE (turnL l)) HG0.out (good_graph (turn_good HGD.out)) ⟨by omega, by omega⟩ hN (by have := rem_le (turnL l) N; rw [turnL_len, HM.out] at this; omega)).mono ?_
    rintro e w3 ⟨v, out, rfl, ho, hok, hb4⟩
    obtain ⟨Ao, co, rfl, _⟩ := ownsRow_slice ho
    have HB3 := Lib.hid (bthen HB2.out hb4 (Nat.le_refl _))
    have HX3 := Lib.hid (HX2.out.stays hb4)
    have hos := SAt.own ho (by decide)
    obtain ⟨gb, go, hA, _⟩ := hos.at_ ha
    subst hA
    have HO3 := Lib.hid hos
    have HOK := Lib.hid hok
    clear ho hok hb4 hos HG0 HX2
    have HLC := Lib.hid (fun u hu => lab_cost hN hb HGD.out HL5.out HOK.out (u := u) hu)
    have HFL := Lib.hid (fun t d ht hd hs s wt => fit_lab hN hb HGD.out HL5.out HOK.out (t := t) (d := d) ht hd hs (s := s) (wt := wt))
    have HPF := Lib.hid (fun h => path_facts hN ha hb HGD.out h)
    have HPS := Lib.hid (fun c E hbest k t hk ht htn => path_seen hN ha hb HGD.out HL5.out HOK.out (c := c) (E := E) hbest (k := k) (t := t) hk ht htn)
    have HPL : Hid (pathL l N a b = pathP l (costsOf l N b) (a : Int) (gi (costsOf l N b) a % 128).toNat) := Lib.hid rfl
    have HPD : Hid (∀ e w', PathR l (N : Int) (a : Int) (b : Int) w e w' ↔ (
        (gi (costsOf l N b) a < 0 → e = .returned (.tuple #[.slice none 0 0, .int .i64 0, .int .i64 7])) ∧
        (¬ gi (costsOf l N b) a < 0 → ∃ A c, e = .returned (.tuple #[.slice A (pathL l N a b).length c, .int .i64 (gi (costsOf l N b) a / 128), .int .i64 0]) ∧ IntsAt w' A (pathL l N a b).length (pathL l N a b)) ∧ Below w.heap.size w w')) := Lib.hid (fun e w' => by
      unfold PathR
      simp only [Int.toNat_natCast]
      exact ⟨fun h => ⟨h.2.1 HR.out, h.2.2.1 HR.out, h.2.2.2⟩, fun h => ⟨fun h2 => absurd HR.out h2, fun _ => h.1, fun _ => h.2.1, h.2.2⟩⟩)
    obtain ⟨cs, hcs⟩ : ∃ cs, cs = costsOf l N b := ⟨_, rfl⟩
    rw [← hcs] at HLC HFL HPF HPS HPL HPD
    clear hcs
    obtain ⟨x0, x1, x2⟩ := lab_cells HO3.out ha
    have hla := HLC.out a ha
    obtain ⟨ea, hea⟩ : ∃ ea, ea = (gl out a).edges := ⟨_, rfl⟩
    rw [← hea] at x2 hla
    by_cases hz : ea < 0
    · have hca : gi cs a < 0 := by omega
      have HCA := Lib.hid hca
      clear hla hca hea
      go_wp2
      go_ret3
      refine (HPD.out _ _).2 ⟨fun _ => rfl, fun h => by have := HCA.out; omega, HB3.out⟩
    · have HCA : Hid (¬ gi cs a < 0 ∧ gi cs a / 128 = (gl out a).len) := Lib.hid (by omega)
      have hpf := HPF.out HCA.out.1
      obtain ⟨E, hE1, hE2, ⟨cst, hbest, _⟩, hE4⟩ := hpf
      have HE4 := Lib.hid hE4
      have HSE := Lib.hid (fun k t hk ht htn => HPS.out cst E hbest k t hk ht htn)
      rw [hE2] at HPL
      clear hE4 hbest HPF HPS hla hea
      go_wp2_with fail
      refine (nbr_false A m c l _ HX3.out (by omega) (fun k hk => by have := (HGD.out _ (ge_mem (by rw [HM.out]; exact hk))).1; unfold I64; omega)).mono ?_
      rintro e w4 ⟨rfl, ⟨G, hG⟩, hb5⟩
      have HB4 := Lib.hid (bthen HB3.out hb5 (Nat.le_refl _))
      have HG := Lib.hid hG
      have HO4 := Lib.hid (HO3.out.stays hb5)
      obtain ⟨base, hbase⟩ : ∃ base, base = w3.heap.size := ⟨_, rfl⟩
      rw [← hbase] at HG ⊢
      clear hb5 hG HO3 x0 x1 x2 hbase
      have HOa := Lib.hid (own_lit intC w4 w4.heap.size (Nat.le_refl _) [(a : Int)] 1 #[.int .i64 (a : Int)] rfl rfl (by unfold maxLen; omega) 3)
      have HBa := Lib.hid (al1 w4 (.cells #[.int .i64 (a : Int)] 3))
      have HOa' : Hid ((w4.alloc (.cells #[.int .i64 (a : Int)] 3)).ownsRow w4.heap.size 3 intC.sz (.slice (some ⟨w4.heap.size, 0, none⟩) 1 1) 1 (intC.all (pathP l cs (a : Int) 0))) := Lib.hid HOa.out
      clear HOa
      go_wp2
      go_loopw [14, 15] (fun s i wb => ∃ k t : Nat, k ≤ E ∧ i = .int .i64 t ∧ t < N ∧ Hid (nodeP l cs (a : Int) k = (t : Int) ∧ (t = b ↔ k = E)) ∧ Hid (wb.ownsRow w4.heap.size 3 intC.sz s (k + 1) (intC.all (pathP l cs (a : Int) k))) ∧ Hid (Below w4.heap.size w4 wb)) (fun s _ _ => N + 1 - slen s)
      case atStart =>
        obtain ⟨t, h1, h2, h3⟩ := HE4.out 0 (by omega)
        have h4 : t = a := by have : (a : Int) = (t : Int) := h1; omega
        subst h4
        exact ⟨0, t, by omega, rfl, by omega, Lib.hid ⟨h1, h3⟩, HOa', HBa⟩
      case round =>
        clear HOa' HBa
        obtain ⟨k, t, hkE, rfl, htN, HK, HO, HB⟩ := hrel
        obtain ⟨A1, c1, rfl, _⟩ := ownsRow_slice HO.out
        have t0 : (0 : Int) ≤ (t : Int) := by omega
        have t1 : (t : Int) < (N : Int) := by omega
        by_cases hke : k = E
        · subst hke
          obtain rfl : t = b := HK.out.2.2 rfl
          have HLP := Lib.hid (pathP_len l cs (a : Int) k)
          obtain ⟨X, hX⟩ : ∃ X, X = pathP l cs (a : Int) k := ⟨_, rfl⟩
          rw [← hX] at HO HLP HPL
          obtain ⟨x0, x1, x2⟩ := lab_cells (HO4.out.stays HB.out) ha
          have HCV : Hid (gi cs a / 128 = (gl out a).len) := Lib.hid HCA.out.2
          obtain ⟨la, hla⟩ : ∃ la, la = (gl out a).len := ⟨_, rfl⟩
          rw [← hla] at x1 HCV
          clear hX hla x0 x2
          go_wp2
          go_quiet (fail)
          go_wp2
          go_ret3
          refine (HPD.out _ _).2 ⟨fun h => by have := HCA.out.1; omega, fun _ => ⟨A1, c1, ?_, ?_⟩, bdrewN (bthen HB4.out HB.out (Nat.le_refl _)) _⟩
          · rw [HPL.out, HLP.out, HCV.out]; rfl
          · rw [HPL.out, HLP.out]
            have := HO.out
            rw [int_all] at this
            exact (IntsAt.own this).1
        · have htb : ¬ t = b := fun e => hke (HK.out.2.1 e)
          have htb1 : ¬ (t : Int) = (b : Int) := by omega
          have htb2 : ((t : Int) != (b : Int)) = true := by simp; omega
          have hk3 : k < N := by omega
          have hlt := HSE.out k t hkE HK.out.1 htN
          have HFT := Lib.hid (fun d hd s wt => HFL.out t d htN hd hlt.1 s wt)
          obtain ⟨Ag, cg, hgv, _⟩ := ownsRow_slice (HG.out.rows (t : Int))
          have HGV := Lib.hid hgv
          have hl0 := (HG.out.stays HB.out).map.look (i := (t : Int)) (by unfold I64; omega)
          rw [hgv] at hl0
          obtain ⟨ln, hln⟩ : ∃ ln, (fromE l (t : Int)).length = ln := ⟨_, rfl⟩
          rw [hln] at hl0
          have HLN := Lib.hid hln
          have hlnn : ln ≤ 500 := by rw [← hln]; have h1 := from_len l (t : Int); have h2 := HL5.out; omega
          clear hgv hln
          go_wp2
          clear hl0
          go_loopw [16, 53] (fun x i wb => ∃ (p : Nat) (nx : Int), p ≤ ln ∧ i = .int .i64 p ∧ x = .int .i64 nx ∧ Hid (pickTo cs (t : Int) (fromE l (t : Int)) p = nx) ∧ Hid (wb.ownsRow w4.heap.size 3 intC.sz (.slice A1 (k + 1) c1) (k + 1) (intC.all (pathP l cs (a : Int) k))) ∧ Hid (Below w4.heap.size w4 wb)) (fun _ i _ => ln - (intOf i).toNat)
          case atStart => exact ⟨0, -1, by omega, rfl, rfl, Lib.hid rfl, HO, HB⟩
          case round =>
            clear HO HB
            obtain ⟨p, nx, hpm, rfl, rfl, HN, HO, HB⟩ := hrel
            have p0 : (0 : Int) ≤ (p : Int) := by omega
            by_cases hlp : p < ln
            · have hlp' : (p : Int) < (ln : Int) := by omega
              have hrow := (HG.out.stays HB.out).rows (t : Int)
              rw [HGV.out, HLN.out] at hrow
              have hS0 := SAt.own hrow (by decide)
              obtain ⟨bb, oo, hA, _⟩ := hS0.at_ hlp
              subst hA
              obtain ⟨e0, e1, e2⟩ := edge_cells hS0 hlp
              have hpl : p < (fromE l (t : Int)).length := by rw [HLN.out]; exact hlp
              obtain ⟨hyl, hys⟩ := from_mem.1 (ge_mem hpl)
              obtain ⟨s, d, hy, hs1, hd1, hw0, hw1⟩ := good_nat (HGD.out _ hyl)
              have HSP := Lib.hid (pickTo_step hpl cs (t : Int))
              obtain ⟨wt, hwt⟩ : ∃ wt, wt = (ge (fromE l (t : Int)) p).wt := ⟨_, rfl⟩
              rw [← hwt] at hy hw0 hw1
              rw [hy, HN.out] at HSP
              rw [hy] at e0 e1 e2
              obtain ⟨X, hX⟩ : ∃ X, X = wr.heap.size := ⟨_, rfl⟩
              obtain ⟨W, hW⟩ : ∃ W, W = wr.alloc (.cells #[.int .i64 (s : Int), .int .i64 (d : Int), .int .i64 wt] 47) := ⟨_, rfl⟩
              have hbW : Below wr.heap.size wr W := by rw [hW]; exact al1 _ _
              have HXB : Hid (BoxE W X ⟨(s : Int), (d : Int), wt⟩) := Lib.hid (by rw [hW]; exact BoxE.new wr ⟨(s : Int), (d : Int), wt⟩ _ _ hX)
              have HO5 := Lib.hid (ownsRow_stays HO.out hbW)
              have HB5 := Lib.hid (bthen HB.out hbW (Nat.le_refl _))
              clear hbW hy hwt HO HB HN hrow hS0 hyl hys
              go_upto_region 15 with fail
              rw [← hW, ← hX]
              clear hW hX e0 e1 e2
              obtain ⟨b0, b1, b2⟩ := HXB.out
              obtain ⟨x0, x1, x2⟩ := lab_cells (HO4.out.stays HB5.out) hd1
              have d0 : (0 : Int) ≤ (d : Int) := by omega
              have d1 : (d : Int) < (N : Int) := by omega
              obtain ⟨Y, hY⟩ : ∃ Y, Y = W.heap.size := ⟨_, rfl⟩
              obtain ⟨W2, hW2⟩ : ∃ W2, W2 = W.alloc (.cells #[.int .i64 (gl out d).node, .int .i64 (gl out d).len, .int .i64 (gl out d).edges] 57) := ⟨_, rfl⟩
              have hbW2 : Below W.heap.size W W2 := by rw [hW2]; exact al1 _ _
              have HYB : Hid (Box2 W2 Y (gl out d)) := Lib.hid (by rw [hW2]; exact Box2.new W (gl out d) _ _ hY)
              have HXB2 := Lib.hid (HXB.out.stays hbW2)
              have HO6 := Lib.hid (ownsRow_stays HO5.out hbW2)
              have HB6 := Lib.hid (bthen HB5.out hbW2 (Nat.le_refl _))
              clear hbW2 HXB HO5 HB5
              go_upto_region 16 with fail
              rw [← hW2, ← hY]
              clear hW2 hY x0 x1 x2 b0 b1 b2
              obtain ⟨b0, b1, b2⟩ := HXB2.out
              obtain ⟨y0, y1, y2, _, _, _⟩ := HYB.out
              obtain ⟨z0, z1, z2⟩ := lab_cells (HO4.out.stays HB6.out) htN
              have hfit := HFT.out d hd1 s wt
              have hld := HLC.out d hd1
              have H1 := fun h => Lib.hid (pe_no (cs := cs) (a := (t : Int)) (nx := nx) (y := ⟨(s : Int), (d : Int), wt⟩) h)
              have H4 := fun h h2 => Lib.hid (pe_keep (cs := cs) (a := (t : Int)) (nx := nx) (y := ⟨(s : Int), (d : Int), wt⟩) h h2)
              have H5 := fun h h2 => Lib.hid (pe_set (cs := cs) (a := (t : Int)) (nx := nx) (y := ⟨(s : Int), (d : Int), wt⟩) h h2)
              rw [hfit] at H1 H5
              obtain ⟨ed, hed⟩ : ∃ ed, ed = (gl out d).edges := ⟨_, rfl⟩
              obtain ⟨ld, hld2⟩ : ∃ ld, ld = (gl out d).len := ⟨_, rfl⟩
              obtain ⟨et, het⟩ : ∃ et, et = (gl out t).edges := ⟨_, rfl⟩
              obtain ⟨lt, hlt2⟩ : ∃ lt, lt = (gl out t).len := ⟨_, rfl⟩
              rw [← hed] at y2 hld H1 H5
              rw [← hld2] at y1 hld H1 H5
              rw [← het] at z2 H1 H5
              rw [← hlt2] at z1 H1 H5
              have hb1 : -1 ≤ ed ∧ ed < 64 := by omega
              have hb2 : -1 ≤ ld ∧ ld ≤ 68719476736 := by omega
              clear hed hld2 het hlt2 hfit hld
              have hW1 : IntKind.i64.wrap (ed + 1) = ed + 1 := wrapB (by omega) (by omega)
              have hW2 : IntKind.i64.wrap (ld + wt) = ld + wt := wrapB (by omega) (by omega)
              by_cases hcd : 0 ≤ ed
              · by_cases hse : ed + 1 = et
                · subst hse
                  by_cases hsm : ld + wt = lt
                  · subst hsm
                    by_cases hn0 : nx < 0
                    · have HR2 := H5 ⟨hcd, rfl, rfl⟩ (.inl hn0)
                      clear H1 H4 H5
                      go_quiet (fail)
                      go_wp2
                      go_roundw
                      case rel => exact ⟨p + 1, (d : Int), by omega, by go_num, rfl, Lib.hid (HSP.out.trans HR2.out), HO6, Lib.hid (bdrewN HB6.out _)⟩
                      case measure => simp [intOf]; omega
                    have hn0' : 0 ≤ nx := by omega
                    by_cases hn1 : (d : Int) < nx
                    · have HR2 := H5 ⟨hcd, rfl, rfl⟩ (.inr hn1)
                      clear H1 H4 H5
                      go_quiet (fail)
                      go_wp2
                      go_roundw
                      case rel => exact ⟨p + 1, (d : Int), by omega, by go_num, rfl, Lib.hid (HSP.out.trans HR2.out), HO6, Lib.hid (bdrewN HB6.out _)⟩
                      case measure => simp [intOf]; omega
                    · have HR2 := H4 hn0 hn1
                      have hn1' : nx ≤ (d : Int) := by omega
                      clear H1 H4 H5
                      go_quiet (fail)
                      go_wp2
                      go_roundw
                      case rel => exact ⟨p + 1, nx, by omega, by go_num, rfl, Lib.hid (HSP.out.trans HR2.out), HO6, Lib.hid (bdrewN HB6.out _)⟩
                      case measure => simp [intOf]; omega
                  · have HR2 := H1 (fun h => hsm h.2.2)
                    have hsm2 : ((ld + wt) == lt) = false := by simpa using hsm
                    clear H1 H4 H5
                    go_quiet (fail)
                    go_wp2
                    go_roundw
                    case rel => exact ⟨p + 1, nx, by omega, by go_num, rfl, Lib.hid (HSP.out.trans HR2.out), HO6, Lib.hid (bdrewN HB6.out _)⟩
                    case measure => simp [intOf]; omega
                · have HR2 := H1 (fun h => hse h.2.1)
                  have hse2 : ((ed + 1) == et) = false := by simpa using hse
                  clear H1 H4 H5
                  go_quiet (fail)
                  go_wp2
                  go_roundw
                  case rel => exact ⟨p + 1, nx, by omega, by go_num, rfl, Lib.hid (HSP.out.trans HR2.out), HO6, Lib.hid (bdrewN HB6.out _)⟩
                  case measure => simp [intOf]; omega
              · have HR2 := H1 (fun h => hcd h.1)
                clear H1 H4 H5
                go_quiet (fail)
                go_wp2
                go_roundw
                case rel => exact ⟨p + 1, nx, by omega, by go_num, rfl, Lib.hid (HSP.out.trans HR2.out), HO6, Lib.hid (bdrewN HB6.out _)⟩
                case measure => simp [intOf]; omega
            · obtain rfl : p = ln := by omega
              have hdp : ¬ ((p : Int) < (p : Int)) := by omega
              have HNX : Hid (nodeP l cs (a : Int) (k + 1) = nx) := Lib.hid (by rw [nodeP, HK.out.1, ← HN.out, nextP, HLN.out])
              obtain ⟨t2, h1, h2, h3⟩ := HE4.out (k + 1) (by omega)
              have h4 : nx = (t2 : Int) := HNX.out.symm.trans h1
              subst h4
              have HK2 := Lib.hid (And.intro h1 h3)
              clear h1 h3
              go_wp2_with (at_builtin; refine wpList_append_own _ rfl _ _ 25 rfl w4.heap.size 3 i0 (.int .i64 0) intC.sz 8 Try.underlying25 hi hz0 hz1 hz2 rfl (by decide) _ _ _ rfl (HO.out.alloc _) ⟨wr.heap.size, 0, none⟩ 1 1 [.int .i64 (t2 : Int)] rfl rfl (cell_new1 _ _ _) (by intro u hu; simp at hu; subst hu; rfl) (by unfold maxLen; omega) (by omega) (balloc HB.out _ (Nat.le_refl _)).size ?_; intro v8 w8 hown8 hg8 _; have HO8 : Hid (w8.ownsRow w4.heap.size 3 intC.sz v8 (k + 1 + 1) (intC.all (pathP l cs (a : Int) (k + 1)))) := Lib.hid (by rw [pathP, HNX.out, edgeC_app]; exact hown8); have HB8 := Lib.hid (below_app HB.out HB.out.size (Nat.le_refl _) HO.out hg8); clear hown8 hg8)
              obtain ⟨A8, c8, rfl, _⟩ := ownsRow_slice HO8.out
              go_roundw
              case rel => exact ⟨k + 1, t2, by omega, rfl, h2, HK2, HO8, HB8⟩
              case measure => simp [slen]; omega
  · go_wp2
    go_ret3
    exact ⟨fun _ => by rw [HR.out]; rfl, fun h => absurd (HR.out.symm.trans h) hr0, fun h => absurd (HR.out.symm.trans h) hr0, HB1.out⟩
end Go.Proofs.Ytabhinmodnmllaa
