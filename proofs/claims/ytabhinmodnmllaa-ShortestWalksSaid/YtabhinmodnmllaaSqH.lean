/-
  Path of the reference: the walk. Printed by gen/sp9.py.
-/
import Derived.Test.YtabhinmodnmllaaSqG
import Derived.Test.YtabhinmodnmllaaSqF
import Derived.BigQuiet
namespace Go.Proofs.Ytabhinmodnmllaa
open Go.RowKit

/-- the length of a slice value -/
def slen : Value → Nat
  | .slice _ n _ => n
  | _ => 0
theorem edgeC_app (xs : List Int) (x : Int) : intC.all (xs ++ [x]) = intC.all xs ++ [Value.int .i64 x] := by
  rw [intC.all_app, intC.all_one]
  rfl
theorem pr_src {cs : List Int} {nx : Int} {s d t : Nat} {wt : Int} (h : ¬ s = t) : pickR cs (t : Int) nx ⟨(s : Int), (d : Int), wt⟩ = nx := by
  unfold pickR
  rw [if_neg (by simp; omega)]
theorem pr_cd {cs : List Int} {nx : Int} {s d t : Nat} {wt : Int} (h : gi cs d < 0) : pickR cs (t : Int) nx ⟨(s : Int), (d : Int), wt⟩ = nx := by
  unfold pickR pickE fitE
  split
  · rw [if_neg]
    rintro ⟨h1, _⟩
    have h2 := (of_decide_eq_true h1).1
    rw [show Int.toNat (Edge.dst ⟨(s : Int), (d : Int), wt⟩) = d from Int.toNat_natCast d] at h2
    omega
  · rfl
theorem fit_iff {cs : List Int} {s d t : Nat} {wt : Int} : fitE cs (t : Int) ⟨(s : Int), (d : Int), wt⟩ = true ↔ 0 ≤ gi cs d ∧ gi cs d + wt * 128 + 1 = gi cs t := by
  unfold fitE overE
  rw [decide_eq_true_iff, Int.toNat_natCast]
  exact Iff.rfl
theorem pr_sum {cs : List Int} {nx : Int} {s d t : Nat} {wt : Int} (h : ¬ gi cs d + wt * 128 + 1 = gi cs t) : pickR cs (t : Int) nx ⟨(s : Int), (d : Int), wt⟩ = nx := by
  unfold pickR pickE
  split
  · rw [if_neg]
    rintro ⟨h1, _⟩
    exact h (fit_iff.1 h1).2
  · rfl
theorem pr_no {cs : List Int} {nx : Int} {s d t : Nat} {wt : Int} (h : ¬ nx < 0) (h2 : ¬ (d : Int) < nx) : pickR cs (t : Int) nx ⟨(s : Int), (d : Int), wt⟩ = nx := by
  unfold pickR pickE
  split
  · rw [if_neg]
    rintro ⟨_, h3⟩
    replace h3 : nx < 0 ∨ (d : Int) < nx := h3
    omega
  · rfl
theorem pr_set {cs : List Int} {nx : Int} {d t : Nat} {wt : Int} (h : ¬ gi cs d < 0) (h1 : gi cs d + wt * 128 + 1 = gi cs t) (h2 : nx < 0 ∨ (d : Int) < nx) : pickR cs (t : Int) nx ⟨(t : Int), (d : Int), wt⟩ = (d : Int) := by
  unfold pickR pickE
  rw [if_pos rfl, if_pos ⟨fit_iff.2 ⟨by omega, h1⟩, h2⟩]
/-- the path of the reference -/
def pathL (l : List Edge) (n a b : Nat) : List Int := pathP l (costsOf l n b) (a : Int) (gi (costsOf l n b) a % 128).toNat
/-- what Path leaves, in both packages -/
def PathR (l : List Edge) (n a b : Int) (w : World) (e : Ending) (w' : World) : Prop :=
  (checkN n l [a, b] ≠ 0 → e = .returned (.tuple #[.slice none 0 0, .int .i64 0, .int .i64 (checkN n l [a, b])])) ∧
  (checkN n l [a, b] = 0 → gi (costsOf l n.toNat b.toNat) a.toNat < 0 → e = .returned (.tuple #[.slice none 0 0, .int .i64 0, .int .i64 7])) ∧
  (checkN n l [a, b] = 0 → ¬ gi (costsOf l n.toNat b.toNat) a.toNat < 0 → ∃ A c, e = .returned (.tuple #[.slice A (pathL l n.toNat a.toNat b.toNat).length c, .int .i64 (gi (costsOf l n.toNat b.toNat) a.toNat / 128), .int .i64 0]) ∧ IntsAt w' A (pathL l n.toNat a.toNat b.toNat).length (pathL l n.toNat a.toNat b.toNat)) ∧
  Below w.heap.size w w'
theorem check_two {n a b : Int} {l : List Edge} (h : checkI n l = 0) : checkN n l [a, b] = if (a < 0 ∨ n ≤ a) ∨ (b < 0 ∨ n ≤ b) then 9 else 0 := by
  unfold checkN
  rw [if_neg (by omega)]
  simp [badN]
theorem best_ex {l : List Edge} {n b a : Nat} (hgr : Graph (fromE (turnL l)) n) (hs : (0 : Int) ≤ (b : Int) ∧ (b : Int) < (n : Int)) (hn : n ≤ 64) (hg : ∀ y ∈ l, GoodE (n : Int) y) (hb : b < n) (ha : a < n) (hc : ¬ gi (costsOf l n b) a < 0) : ∃ c e, Best (fromE (turnL l)) (b : Int) (a : Int) c e := by
  obtain ⟨c, e, hw, _⟩ := (rounds_ok hb hg n).1.2 a ha (by unfold costsOf at hc; omega)
  exact hw.best_ex hgr
theorem path_facts {l : List Edge} {n a b : Nat} (hn : n ≤ 64) (ha : a < n) (hb : b < n) (hg : ∀ y ∈ l, GoodE (n : Int) y) (hc : ¬ gi (costsOf l n b) a < 0) :
    ∃ E : Nat, E < n ∧ (gi (costsOf l n b) a % 128).toNat = E ∧ (∃ c, Best (fromE (turnL l)) (b : Int) (a : Int) c (E : Int) ∧ gi (costsOf l n b) a / 128 = c) ∧ (∀ k, k ≤ E → ∃ t : Nat, nodeP l (costsOf l n b) (a : Int) k = (t : Int) ∧ t < n ∧ (t = b ↔ k = E)) := by
  have hgr : Graph (fromE (turnL l)) n := good_graph (turn_good hg)
  have hs : (0 : Int) ≤ (b : Int) ∧ (b : Int) < (n : Int) := ⟨by omega, by omega⟩
  obtain ⟨c, e, hbest⟩ : ∃ c e, Best (fromE (turnL l)) (b : Int) (a : Int) c e := best_ex hgr hs hn hg hb ha hc
  have h1 := best_short hgr hs hbest
  have h2 := hbest.1.edges
  have h3 := costs_best hn hb hg ha hbest hgr
  obtain ⟨E, rfl⟩ : ∃ E : Nat, e = (E : Int) := ⟨e.toNat, by omega⟩
  refine ⟨E, by omega, by rw [h3]; omega, ⟨c, hbest, by rw [h3]; omega⟩, fun k hk => ?_⟩
  obtain ⟨h4, c', h5⟩ := node_best hn hb hg ⟨by omega, by omega⟩ hbest k (by omega)
  refine ⟨(nodeP l (costsOf l n b) (a : Int) k).toNat, by omega, by omega, ?_⟩
  have := best_end hgr h5
  omega

set_option maxRecDepth 100000 in
set_option maxHeartbeats 8000000 in
theorem rpath_any (A : Option Addr) (n a b : Int) (m c : Nat) (l : List Edge) (w : World) (hx : SAt edgeC w A m l) (hm : m ≤ 500 ∨ 4096 < m) : Calls Try.prog 16 #[.int .i64 n, .slice A m c, .int .i64 a, .int .i64 b] w fun e w' => PathR l n a b w e w' := by
  obtain ⟨i0, hi, hz0, hz1, hz2⟩ := info_parts int_info
  have HX := Lib.hid hx
  have HM := Lib.hid hx.1
  clear hx
  obtain ⟨r, hr⟩ : ∃ r, checkI n l = r := ⟨_, rfl⟩
  go_enter Try.func16, Try.ntmps16
  go_wp2_with fail
  refine (rcheck_any n A m c l w HX.out).mono ?_
  rintro e w0 ⟨rfl, rfl⟩
  rw [hr]
  by_cases hr0 : r = 0
  · subst hr0
    have H1 := Lib.hid (check_two (a := a) (b := b) hr)
    have hc := checkI_good hr
    clear hr
    by_cases h1 : a < 0
    · have HR : Hid (checkN n l [a, b] = 9) := Lib.hid (by rw [H1.out, if_pos (.inl (.inl h1))])
      clear H1 hc
      go_wp2
      go_ret3
      exact ⟨fun _ => by rw [HR.out]; rfl, fun h => by have := HR.out; omega, fun h => by have := HR.out; omega, Below.refl _ _⟩
    by_cases h2 : n ≤ a
    · have HR : Hid (checkN n l [a, b] = 9) := Lib.hid (by rw [H1.out, if_pos (.inl (.inr h2))])
      clear H1 hc
      go_wp2
      go_ret3
      exact ⟨fun _ => by rw [HR.out]; rfl, fun h => by have := HR.out; omega, fun h => by have := HR.out; omega, Below.refl _ _⟩
    by_cases h3 : b < 0
    · have HR : Hid (checkN n l [a, b] = 9) := Lib.hid (by rw [H1.out, if_pos (.inr (.inl h3))])
      clear H1 hc
      go_wp2
      go_ret3
      exact ⟨fun _ => by rw [HR.out]; rfl, fun h => by have := HR.out; omega, fun h => by have := HR.out; omega, Below.refl _ _⟩
    by_cases h4 : n ≤ b
    · have HR : Hid (checkN n l [a, b] = 9) := Lib.hid (by rw [H1.out, if_pos (.inr (.inr h4))])
      clear H1 hc
      go_wp2
      go_ret3
      exact ⟨fun _ => by rw [HR.out]; rfl, fun h => by have := HR.out; omega, fun h => by have := HR.out; omega, Below.refl _ _⟩
    have HR : Hid (checkN n l [a, b] = 0) := Lib.hid (by rw [H1.out, if_neg (by omega)])
    clear H1
    obtain ⟨N, rfl⟩ : ∃ N : Nat, n = (N : Int) := ⟨n.toNat, by omega⟩
    obtain ⟨a, rfl⟩ : ∃ S : Nat, a = (S : Int) := ⟨a.toNat, by omega⟩
    obtain ⟨b, rfl⟩ : ∃ S : Nat, b = (S : Int) := ⟨b.toNat, by omega⟩
    have HGD := Lib.hid hc.2.2.2
    have hN : N ≤ 64 := by omega
    have ha : a < N := by omega
    have hb : b < N := by omega
    have hm5 : m ≤ 500 := by have h1 := hc.2.2.1; have h2 := HM.out; omega
    have ha0 : (0 : Int) ≤ (a : Int) := by omega
    have ha1 : (a : Int) < (N : Int) := by omega
    clear hc hm
    go_wp2_with fail
    refine (costs_any A N m c b l w HX.out HGD.out hN hm5 hb).mono ?_
    rintro e w3 ⟨v3, rfl, ho3, hb3⟩
    rw [costs_len] at ho3
    obtain ⟨A3, c3, rfl, _⟩ := ownsRow_slice ho3
    obtain ⟨g, hg1, hg2⟩ : ∃ g, A3 = some ⟨g, 0, none⟩ ∧ w.heap.size ≤ g := by
      have hO := ho3
      rcases hO.2 with ⟨_, h0⟩ | ⟨g, cap, cur, h1, _⟩
      · omega
      · injection h1 with h1
        subst h1
        exact ⟨g, rfl, (own_lt hO).2⟩
    subst hg1
    have HLC := Lib.hid (costs_len l N b)
    have HSM : Hid (∀ u : Nat, -1 ≤ gi (costsOf l N b) u ∧ gi (costsOf l N b) u ≤ 4500000000000000) := Lib.hid (fun u => by
      have h1 := rounds_small hb HGD.out (by rw [HM.out]; exact hm5) N u
      unfold costsOf
      omega)
    have HPF := Lib.hid (fun h => path_facts hN ha hb HGD.out h)
    have HPL : Hid (pathL l N a b = pathP l (costsOf l N b) (a : Int) (gi (costsOf l N b) a % 128).toNat) := Lib.hid rfl
    have HPD : Hid (∀ e w', PathR l (N : Int) (a : Int) (b : Int) w e w' ↔ (
        (gi (costsOf l N b) a < 0 → e = .returned (.tuple #[.slice none 0 0, .int .i64 0, .int .i64 7])) ∧
        (¬ gi (costsOf l N b) a < 0 → ∃ A c, e = .returned (.tuple #[.slice A (pathL l N a b).length c, .int .i64 (gi (costsOf l N b) a / 128), .int .i64 0]) ∧ IntsAt w' A (pathL l N a b).length (pathL l N a b)) ∧ Below w.heap.size w w')) := Lib.hid (fun e w' => by
      unfold PathR
      simp only [Int.toNat_natCast]
      exact ⟨fun h => ⟨h.2.1 HR.out, h.2.2.1 HR.out, h.2.2.2⟩, fun h => ⟨fun h2 => absurd HR.out h2, fun _ => h.1, fun _ => h.2.1, h.2.2⟩⟩)
    obtain ⟨cs, hcs⟩ : ∃ cs, cs = costsOf l N b := ⟨_, rfl⟩
    rw [← hcs] at ho3 HLC HSM HPF HPL HPD
    have HO3 := Lib.hid ho3
    have HB3 := Lib.hid hb3
    clear ho3 hb3 hcs
    obtain ⟨q0, q1⟩ := int_own HO3.out ha
    have HQ := Lib.hid q0
    obtain ⟨ca, hca⟩ : ∃ ca, ca = gi cs a := ⟨_, rfl⟩
    rw [← hca] at q0 HPF HPL HPD
    have HCA := Lib.hid hca
    clear hca
    by_cases hz : ca < 0
    · go_wp2
      go_ret3
      refine (HPD.out _ _).2 ⟨fun _ => rfl, fun h => absurd hz (by omega), HB3.out⟩
    · have hpf := HPF.out hz
      obtain ⟨E, hE1, hE2, ⟨cst, _, hE3⟩, hE4⟩ := hpf
      have HE4 := Lib.hid hE4
      have HE3 := Lib.hid hE3
      rw [hE2] at HPL
      have hw2 := al1 w3 (.cells #[.int .i64 (a : Int)] 3)
      have HOa := Lib.hid (own_lit intC w3 w3.heap.size (Nat.le_refl _) [(a : Int)] 1 #[.int .i64 (a : Int)] rfl rfl (by unfold maxLen; omega) 3)
      have HBa := Lib.hid hw2
      have HCS : Hid (SAt intC w3 (some ⟨g, 0, none⟩) N cs) := Lib.hid (SAt.own HO3.out (by decide))
      obtain ⟨P0, hP0⟩ : ∃ P0, P0 = pathP l cs (a : Int) 0 := ⟨_, rfl⟩
      have HOa' : Hid ((w3.alloc (.cells #[.int .i64 (a : Int)] 3)).ownsRow w3.heap.size 3 intC.sz (.slice (some ⟨w3.heap.size, 0, none⟩) 1 1) 1 (intC.all (pathP l cs (a : Int) 0))) := Lib.hid HOa.out
      clear hE4 hE3 hw2 HOa HPF HO3
      go_wp2
      clear q0 q1
      go_loopw [13, 14] (fun s i wb => ∃ k t : Nat, k ≤ E ∧ i = .int .i64 t ∧ t < N ∧ Hid (nodeP l cs (a : Int) k = (t : Int) ∧ (t = b ↔ k = E)) ∧ Hid (wb.ownsRow w3.heap.size 3 intC.sz s (k + 1) (intC.all (pathP l cs (a : Int) k))) ∧ Hid (Below w3.heap.size w3 wb)) (fun s _ _ => N + 1 - slen s)
      case atStart =>
        obtain ⟨t, h1, h2, h3⟩ := HE4.out 0 (by omega)
        have h4 : t = a := by have : (a : Int) = (t : Int) := h1; omega
        subst h4
        exact ⟨0, t, by omega, rfl, by omega, Lib.hid ⟨h1, h3⟩, HOa', HBa⟩
      case round =>
        clear HOa' HBa
        obtain ⟨k, t, hkE, rfl, htN, HK, HO, HB⟩ := hrel
        obtain ⟨A1, c1, rfl, _⟩ := ownsRow_slice HO.out
        have t0 : (0 : Int) ≤ (t : Int) := by omega
        have t1 : (t : Int) < (N : Int) := by omega
        by_cases hke : k = E
        · subst hke
          obtain rfl : t = b := HK.out.2.2 rfl
          have HLP := Lib.hid (pathP_len l cs (a : Int) k)
          obtain ⟨X, hX⟩ : ∃ X, X = pathP l cs (a : Int) k := ⟨_, rfl⟩
          rw [← hX] at HO HLP HPL
          have q2 : wr.cell? ⟨g, a, none⟩ = some (.int .i64 ca) := by have := (HCS.out.stays HB.out).cells ha 0 _ rfl; simpa [intC, Codec.g, gi, HCA.out] using this
          clear hX
          have hz2 : 0 ≤ ca := by omega
          have hca2 : ca ≤ 4500000000000000 := by rw [HCA.out]; exact (HSM.out a).2
          have HDV : Hid (RowKit.wrap64 (ca.tdiv 128) = ca / 128) := Lib.hid (by rw [Int.tdiv_eq_ediv_of_nonneg hz2]; unfold RowKit.wrap64; omega)
          clear hca2
          go_wp2
          go_quiet (fail)
          go_wp2
          go_ret3
          refine (HPD.out _ _).2 ⟨fun h => absurd h (by omega), fun _ => ⟨A1, c1, ?_, ?_⟩, bdrewN (bthen HB3.out HB.out (Nat.le_refl _)) _⟩
          · rw [HPL.out, HLP.out, ← HDV.out]; rfl
          · rw [HPL.out, HLP.out]
            have := HO.out
            rw [int_all] at this
            exact (IntsAt.own this).1
        · have htb : ¬ t = b := fun e => hke (HK.out.2.1 e)
          have htb1 : ¬ (t : Int) = (b : Int) := by omega
          have htb2 : ((t : Int) != (b : Int)) = true := by simp; omega
          have hk1 : (k : Int) + 1 ≤ (N : Int) := by omega
          have hk2 : k + 1 ≤ N := by omega
          have hk3 : k < N := by omega
          have hk4 : (k : Int) < (N : Int) := by omega
          go_wp2
          go_loopw [15, 16] (fun x i wb => ∃ (p : Nat) (nx : Int), p ≤ m ∧ i = .int .i64 p ∧ x = .int .i64 nx ∧ Hid (pickRTo cs (t : Int) l p = nx) ∧ Hid (wb.ownsRow w3.heap.size 3 intC.sz (.slice A1 (k + 1) c1) (k + 1) (intC.all (pathP l cs (a : Int) k))) ∧ Hid (Below w3.heap.size w3 wb)) (fun _ i _ => m - (intOf i).toNat)
          case atStart => exact ⟨0, -1, by omega, rfl, rfl, Lib.hid rfl, HO, HB⟩
          case round =>
            clear HO HB
            obtain ⟨p, nx, hpm, rfl, rfl, HN, HO, HB⟩ := hrel
            have p0 : (0 : Int) ≤ (p : Int) := by omega
            by_cases hlp : p < m
            · have hlp' : (p : Int) < (m : Int) := by omega
              obtain ⟨ab, o, hA, _⟩ := HX.out.at_ hlp
              subst hA
              have HB1 := Lib.hid (bthen HB3.out HB.out (Nat.le_refl _))
              obtain ⟨e0, e1, e2⟩ := edge_cells (HX.out.stays HB1.out) hlp
              have hpl : p < l.length := by rw [HM.out]; exact hlp
              obtain ⟨s, d, hy, hs1, hd1, hw0, hw1⟩ := good_nat (HGD.out _ (ge_mem hpl))
              have HSP := Lib.hid (pickRTo_step hpl cs (t : Int))
              obtain ⟨wt, hwt⟩ : ∃ wt, wt = (ge l p).wt := ⟨_, rfl⟩
              rw [← hwt] at hy hw0 hw1
              rw [hy, HN.out] at HSP
              rw [hy] at e0 e1 e2
              obtain ⟨X, hX⟩ : ∃ X, X = wr.heap.size := ⟨_, rfl⟩
              obtain ⟨W, hW⟩ : ∃ W, W = wr.alloc (.cells #[.int .i64 (s : Int), .int .i64 (d : Int), .int .i64 wt] 46) := ⟨_, rfl⟩
              have hbW : Below wr.heap.size wr W := by rw [hW]; exact al1 _ _
              have HXB : Hid (BoxE W X ⟨(s : Int), (d : Int), wt⟩) := Lib.hid (by rw [hW]; exact BoxE.new wr ⟨(s : Int), (d : Int), wt⟩ _ _ hX)
              have HO3 := Lib.hid (ownsRow_stays HO.out hbW)
              have HB3' := Lib.hid (bthen HB.out hbW (Nat.le_refl _))
              clear hbW hy hwt HO HB HN HB1
              go_upto_region 17 with fail
              rw [← hW, ← hX]
              clear hW hX e0 e1 e2
              obtain ⟨b0, b1, b2⟩ := HXB.out
              have HCW := Lib.hid (HCS.out.stays HB3'.out)
              have u0 : W.cell? ⟨g, d, none⟩ = some (.int .i64 (gi cs d)) := by have := HCW.out.cells hd1 0 _ rfl; simpa [intC, Codec.g, gi] using this
              have q0 : W.cell? ⟨g, t, none⟩ = some (.int .i64 (gi cs t)) := by have := HCW.out.cells htN 0 _ rfl; simpa [intC, Codec.g, gi] using this
              have s0 : (0 : Int) ≤ (s : Int) := by omega
              have d0 : (0 : Int) ≤ (d : Int) := by omega
              have d1 : (d : Int) < (N : Int) := by omega
              have hsd := HSM.out d
              have H1 := fun h => Lib.hid (pr_src (cs := cs) (nx := nx) (s := s) (d := d) (t := t) (wt := wt) h)
              have H2 := fun h => Lib.hid (pr_cd (cs := cs) (nx := nx) (s := s) (d := d) (t := t) (wt := wt) h)
              have H3 := fun h => Lib.hid (pr_sum (cs := cs) (nx := nx) (s := s) (d := d) (t := t) (wt := wt) h)
              have H4 := fun h h2 => Lib.hid (pr_no (cs := cs) (nx := nx) (s := s) (d := d) (t := t) (wt := wt) h h2)
              have H5 := fun h h1 h2 => Lib.hid (pr_set (cs := cs) (nx := nx) (d := d) (t := t) (wt := wt) h h1 h2)
              obtain ⟨cd, hcd⟩ : ∃ cd, cd = gi cs d := ⟨_, rfl⟩
              obtain ⟨ct, hct⟩ : ∃ ct, ct = gi cs t := ⟨_, rfl⟩
              rw [← hcd] at u0 hsd H2 H3 H5
              rw [← hct] at q0 H3 H5
              clear hcd hct
              have hW1 : IntKind.i64.wrap (wt * 128) = wt * 128 := wrapB (by omega) (by omega)
              have hW2 : IntKind.i64.wrap (cd + wt * 128) = cd + wt * 128 := wrapB (by omega) (by omega)
              have hW3 : IntKind.i64.wrap (cd + wt * 128 + 1) = cd + wt * 128 + 1 := wrapB (by omega) (by omega)
              by_cases hst : s = t
              · subst hst
                by_cases hcd : cd < 0
                · have HR2 := H2 hcd
                  have hcd' : ¬ 0 ≤ cd := by omega
                  clear H1 H2 H3 H4 H5
                  go_quiet (fail)
                  go_wp2
                  go_roundw
                  case rel => exact ⟨p + 1, nx, by omega, by go_num, rfl, Lib.hid (HSP.out.trans HR2.out), HO3, Lib.hid (bdrewN HB3'.out _)⟩
                  case measure => simp [intOf]; omega
                have hcd' : 0 ≤ cd := by omega
                by_cases hsm : cd + wt * 128 + 1 = ct
                · subst hsm
                  by_cases hn0 : nx < 0
                  · have HR2 := H5 hcd rfl (.inl hn0)
                    clear H1 H2 H3 H4 H5
                    go_quiet (fail)
                    go_wp2
                    go_roundw
                    case rel => exact ⟨p + 1, (d : Int), by omega, by go_num, rfl, Lib.hid (HSP.out.trans HR2.out), HO3, Lib.hid (bdrewN HB3'.out _)⟩
                    case measure => simp [intOf]; omega
                  have hn0' : 0 ≤ nx := by omega
                  by_cases hn1 : (d : Int) < nx
                  · have HR2 := H5 hcd rfl (.inr hn1)
                    clear H1 H2 H3 H4 H5
                    go_quiet (fail)
                    go_wp2
                    go_roundw
                    case rel => exact ⟨p + 1, (d : Int), by omega, by go_num, rfl, Lib.hid (HSP.out.trans HR2.out), HO3, Lib.hid (bdrewN HB3'.out _)⟩
                    case measure => simp [intOf]; omega
                  · have HR2 := H4 hn0 hn1
                    have hn1' : nx ≤ (d : Int) := by omega
                    clear H1 H2 H3 H4 H5
                    go_quiet (fail)
                    go_wp2
                    go_roundw
                    case rel => exact ⟨p + 1, nx, by omega, by go_num, rfl, Lib.hid (HSP.out.trans HR2.out), HO3, Lib.hid (bdrewN HB3'.out _)⟩
                    case measure => simp [intOf]; omega
                · have HR2 := H3 hsm
                  have hsm2 : ((cd + wt * 128 + 1) == ct) = false := by simpa using hsm
                  clear H1 H2 H3 H4 H5
                  go_quiet (fail)
                  go_wp2
                  go_roundw
                  case rel => exact ⟨p + 1, nx, by omega, by go_num, rfl, Lib.hid (HSP.out.trans HR2.out), HO3, Lib.hid (bdrewN HB3'.out _)⟩
                  case measure => simp [intOf]; omega
              · have HR2 := H1 hst
                have hst1 : ¬ (s : Int) = (t : Int) := by omega
                have hst2 : ((s : Int) == (t : Int)) = false := by simpa using hst1
                clear H1 H2 H3 H4 H5
                go_quiet (fail)
                go_wp2
                go_roundw
                case rel => exact ⟨p + 1, nx, by omega, by go_num, rfl, Lib.hid (HSP.out.trans HR2.out), HO3, Lib.hid (bdrewN HB3'.out _)⟩
                case measure => simp [intOf]; omega
            · obtain rfl : p = m := by omega
              have hdp : ¬ ((p : Int) < (p : Int)) := by omega
              have HNX : Hid (nodeP l cs (a : Int) (k + 1) = nx) := Lib.hid (by rw [nodeP, HK.out.1, ← HN.out, ← pickR_all, HM.out])
              obtain ⟨t2, h1, h2, h3⟩ := HE4.out (k + 1) (by omega)
              have h4 : nx = (t2 : Int) := HNX.out.symm.trans h1
              subst h4
              have HK2 := Lib.hid (And.intro h1 h3)
              clear h1 h3
              go_wp2_with (at_builtin; refine wpList_append_own _ rfl _ _ 25 rfl w3.heap.size 3 i0 (.int .i64 0) intC.sz 8 Try.underlying25 hi hz0 hz1 hz2 rfl (by decide) _ _ _ rfl (HO.out.alloc _) ⟨wr.heap.size, 0, none⟩ 1 1 [.int .i64 (t2 : Int)] rfl rfl (cell_new1 _ _ _) (by intro u hu; simp at hu; subst hu; rfl) (by unfold maxLen; omega) (by omega) (balloc HB.out _ (Nat.le_refl _)).size ?_; intro v8 w8 hown8 hg8 _; have HO8 : Hid (w8.ownsRow w3.heap.size 3 intC.sz v8 (k + 1 + 1) (intC.all (pathP l cs (a : Int) (k + 1)))) := Lib.hid (by rw [pathP, HNX.out, edgeC_app]; exact hown8); have HB8 := Lib.hid (below_app HB.out HB.out.size (Nat.le_refl _) HO.out hg8); clear hown8 hg8)
              obtain ⟨A8, c8, rfl, _⟩ := ownsRow_slice HO8.out
              go_roundw
              case rel => exact ⟨k + 1, t2, by omega, rfl, h2, HK2, HO8, HB8⟩
              case measure => simp [slen]; omega
  · have HR := Lib.hid (check_first (ns := [a, b]) hr hr0)
    clear hr
    go_wp2
    go_ret3
    exact ⟨fun _ => by rw [HR.out]; rfl, fun h => absurd (HR.out.symm.trans h) hr0, fun h => absurd (HR.out.symm.trans h) hr0, Below.refl _ _⟩
end Go.Proofs.Ytabhinmodnmllaa
