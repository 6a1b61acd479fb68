/-
  costs of the reference: the walk. Printed by gen/sp7.py.
-/
import Derived.Test.YtabhinmodnmllaaSqE
import Derived.Test.YtabhinmodnmllaaSpH
import Derived.Test.YtabhinmodnmllaaSpU
import Derived.BigQuiet
namespace Go.Proofs.Ytabhinmodnmllaa
open Go.RowKit

theorem cell_new1 (w : World) (v : Value) (t : TypeId) : ∀ j u, [v][j]? = some u → (w.alloc (.cells #[v] t)).cell? ((⟨w.heap.size, 0, none⟩ : Addr).add j) = some u := by
  intro j u hu
  rw [Addr.add_lit, Nat.zero_add, World.cell?_alloc_at _ _ _ _ rfl, ← hu]
  simp
theorem rep_succ (k : Nat) : intC.all (List.replicate k (-1)) ++ [Value.int .i64 (-1)] = intC.all (List.replicate (k + 1) (-1)) := by
  rw [int_all, int_all, List.replicate_succ', List.map_append]
  rfl
theorem wrapB {a : Int} (h1 : -9223372036854775808 ≤ a) (h2 : a ≤ 9223372036854775807) : IntKind.i64.wrap a = a := by
  simp [IntKind.wrap, IntKind.signed, IntKind.bits]
  omega
theorem int_own {w : World} {base e g n c k : Nat} {xs : List Int} (h : w.ownsRow base e intC.sz (.slice (some ⟨g, 0, none⟩) n c) n (intC.all xs)) (hk : k < n) :
    w.cell? ⟨g, k, none⟩ = some (.int .i64 (gi xs k)) ∧ w.frozen? ⟨g, k, none⟩ = false := by
  refine ⟨?_, h.frozenAt _⟩
  have := (SAt.own h (by decide)).cells hk 0 _ rfl
  simpa [intC, Codec.g, gi] using this
theorem int_put {w : World} {base e g n c k : Nat} {xs : List Int} (h : w.ownsRow base e intC.sz (.slice (some ⟨g, 0, none⟩) n c) n (intC.all xs)) (hk : k < xs.length) (x : Int) :
    (w.setCell ⟨g, k, none⟩ (.int .i64 x)).ownsRow base e intC.sz (.slice (some ⟨g, 0, none⟩) n c) n (intC.all (xs.set k x)) := by
  have := own_store (j := 0) h hk (by decide) x (.int .i64 x) rfl
  simpa [intC] using this

theorem relax_skip {cs : List Int} {s d : Nat} {wt : Int} (h : gi cs d < 0) : relaxE cs ⟨(s : Int), (d : Int), wt⟩ = cs := by
  unfold relaxE
  rw [if_pos (by simpa using h)]
theorem relax_put {cs : List Int} {s d : Nat} {wt : Int} (h : ¬ gi cs d < 0) (h2 : gi cs s < 0 ∨ gi cs d + wt * 128 + 1 < gi cs s) : relaxE cs ⟨(s : Int), (d : Int), wt⟩ = cs.set s (gi cs d + wt * 128 + 1) := by
  unfold relaxE overE
  rw [if_neg (by simpa using h), if_pos (by simpa using h2)]
  rfl
theorem relax_no {cs : List Int} {s d : Nat} {wt : Int} (h : ¬ gi cs d < 0) (h2 : ¬ gi cs s < 0) (h3 : ¬ gi cs d + wt * 128 + 1 < gi cs s) : relaxE cs ⟨(s : Int), (d : Int), wt⟩ = cs := by
  unfold relaxE overE
  rw [if_neg (by simpa using h), if_neg (by simp; omega)]
theorem good_nat {n : Nat} {y : Edge} (h : GoodE (n : Int) y) : ∃ s d : Nat, y = ⟨(s : Int), (d : Int), y.wt⟩ ∧ s < n ∧ d < n ∧ 0 ≤ y.wt ∧ y.wt ≤ 1073741824 := by
  obtain ⟨⟨a0, a1⟩, ⟨b0, b1⟩, w0, w1⟩ := h
  refine ⟨y.src.toNat, y.dst.toNat, ?_, by omega, by omega, w0, w1⟩
  rw [Int.toNat_of_nonneg a0, Int.toNat_of_nonneg b0]

set_option maxRecDepth 100000 in
set_option maxHeartbeats 4000000 in
theorem costs_any (A : Option Addr) (n m c v : Nat) (l : List Edge) (w : World) (hx : SAt edgeC w A m l) (hg : ∀ y ∈ l, GoodE (n : Int) y) (hn : n ≤ 64) (hm : m ≤ 500) (hv : v < n) :
    Calls Try.prog 27 #[.int .i64 n, .slice A m c, .int .i64 v] w fun e w' => MadeRow intC w 3 (costsOf l n v) e w' := by
  obtain ⟨i0, hi, hz0, hz1, hz2⟩ := info_parts int_info
  have HX := Lib.hid hx
  have HG := Lib.hid hg
  have HM := Lib.hid hx.1
  clear hx hg
  go_enter Try.func27, Try.ntmps27
  go_wp2
  go_loopw [7, 8] (fun s i wr => ∃ k : Nat, k ≤ n ∧ i = .int .i64 k ∧ Hid (wr.ownsRow w.heap.size 3 intC.sz s k (intC.all (List.replicate k (-1)))) ∧ Hid (Below w.heap.size w wr)) (fun _ i _ => n - (intOf i).toNat)
  case atStart => exact ⟨0, by omega, rfl, Lib.hid (World.ownsRow_nil _ _ _ _), Lib.hid (Below.refl _ w)⟩
  case round =>
    obtain ⟨k, hkn, rfl, HO, HB⟩ := hrel
    have k0 : (0 : Int) ≤ (k : Int) := by omega
    obtain ⟨A1, c1, rfl, _⟩ := ownsRow_slice HO.out
    by_cases hlt : k < n
    · have hlt' : (k : Int) < (n : Int) := by omega
      go_wp2_with (at_builtin; refine wpList_append_own _ rfl _ _ 25 rfl w.heap.size 3 i0 (.int .i64 0) intC.sz 8 Try.underlying25 hi hz0 hz1 hz2 rfl (by decide) _ _ _ rfl (HO.out.alloc _) ⟨wr.heap.size, 0, none⟩ 1 1 [.int .i64 (-1)] rfl rfl (cell_new1 _ _ _) (by intro u hu; simp at hu; subst hu; rfl) (by unfold maxLen; omega) (by omega) (balloc HB.out _ (Nat.le_refl _)).size ?_; intro v8 w8 hown8 hg8 _; have HO8 : Hid (w8.ownsRow w.heap.size 3 intC.sz v8 (k + 1) (intC.all (List.replicate (k + 1) (-1)))) := Lib.hid (by rw [← rep_succ]; exact hown8); have HB8 := Lib.hid (below_app HB.out HB.out.size (Nat.le_refl _) HO.out hg8); clear hown8 hg8)
      go_roundw
      case rel => exact ⟨k + 1, by omega, by go_num, HO8, HB8⟩
      case measure => simp [intOf]; omega
    · obtain rfl : k = n := by omega
      have hd0 : ¬ ((k : Int) < (k : Int)) := by omega
      obtain ⟨g, hg1, hg2⟩ : ∃ g, A1 = some ⟨g, 0, none⟩ ∧ w.heap.size ≤ g := by
        have hO := HO.out
        rcases hO.2 with ⟨_, h0⟩ | ⟨g, cap, cur, h1, _⟩
        · omega
        · injection h1 with h1
          subst h1
          exact ⟨g, rfl, (own_lt hO).2⟩
      subst hg1
      have hv0 : (0 : Int) ≤ (v : Int) := by omega
      have hv1 : (v : Int) < (k : Int) := by omega
      obtain ⟨q0, q1⟩ := int_own HO.out hv
      have HOa : Hid ((wr.setCell ⟨g, v, none⟩ (.int .i64 0)).ownsRow w.heap.size 3 intC.sz (.slice (some ⟨g, 0, none⟩) k c1) k (intC.all (cost0 k v))) := Lib.hid (int_put HO.out (by rw [List.length_replicate]; exact hv) 0)
      have HBa := Lib.hid (HB.out.setCell (p := ⟨g, v, none⟩) hg2 (.int .i64 0))
      go_upto_region 7 with fail
      obtain ⟨Wa, hWa⟩ : ∃ Wa, Wa = wr.setCell ⟨g, v, none⟩ (.int .i64 0) := ⟨_, rfl⟩
      rw [← hWa] at HOa HBa ⊢
      clear HO HB q0 q1 hWa
      go_wp2
      go_loopw [9] (fun i wb => ∃ r : Nat, r ≤ k ∧ i = .int .i64 r ∧ Hid (wb.ownsRow w.heap.size 3 intC.sz (.slice (some ⟨g, 0, none⟩) k c1) k (intC.all (roundsTo l (cost0 k v) r))) ∧ Hid (Below w.heap.size w wb)) (fun i _ => k - (intOf i).toNat)
      case atStart => exact ⟨0, by omega, rfl, HOa, HBa⟩
      case round =>
        clear HOa HBa
        obtain ⟨r, hrk, rfl, HO, HB⟩ := hrel
        have r0 : (0 : Int) ≤ (r : Int) := by omega
        by_cases hlr : r < k
        · have hlr' : (r : Int) < (k : Int) := by omega
          go_wp2
          go_loopw [10] (fun i wb => ∃ p : Nat, p ≤ m ∧ i = .int .i64 p ∧ Hid (wb.ownsRow w.heap.size 3 intC.sz (.slice (some ⟨g, 0, none⟩) k c1) k (intC.all (relaxTo l (roundsTo l (cost0 k v) r) p))) ∧ Hid (Below w.heap.size w wb)) (fun i _ => m - (intOf i).toNat)
          case atStart => exact ⟨0, by omega, rfl, HO, HB⟩
          case round =>
            clear HO HB
            obtain ⟨p, hpm, rfl, HO, HB⟩ := hrel
            have p0 : (0 : Int) ≤ (p : Int) := by omega
            by_cases hlp : p < m
            · have hlp' : (p : Int) < (m : Int) := by omega
              obtain ⟨b, o, hA, _⟩ := HX.out.at_ hlp
              subst hA
              obtain ⟨e0, e1, e2⟩ := edge_cells (HX.out.stays HB.out) hlp
              have hpl : p < l.length := by rw [HM.out]; exact hlp
              obtain ⟨s, d, hy, hs1, hd1, hw0, hw1⟩ := good_nat (HG.out _ (ge_mem hpl))
              have HSP := Lib.hid (relaxTo_step hpl (roundsTo l (cost0 k v) r))
              obtain ⟨cs, hcs⟩ : ∃ cs, cs = relaxTo l (roundsTo l (cost0 k v) r) p := ⟨_, rfl⟩
              have HLN : Hid (cs.length = k) := Lib.hid (by rw [hcs, relaxTo_len _ _ _ (by omega), roundsTo_len, cost0_len])
              have HSM : Hid (∀ u : Nat, -1 ≤ gi cs u ∧ gi cs u ≤ 4500000000000000) := Lib.hid (fun u => by
                have hm5 : l.length ≤ 500 := by rw [HM.out]; exact hm
                have h1 := relaxTo_small HG.out (by rw [roundsTo_len, cost0_len]) (rounds_small hv HG.out hm5 r) p (by omega) u
                rw [← hcs] at h1
                omega)
              rw [← hcs] at HO HSP
              clear hcs
              obtain ⟨wt, hwt⟩ : ∃ wt, wt = (ge l p).wt := ⟨_, rfl⟩
              rw [← hwt] at hy hw0 hw1
              rw [hy] at HSP e0 e1 e2
              obtain ⟨X, hX⟩ : ∃ X, X = wr.heap.size := ⟨_, rfl⟩
              obtain ⟨W, hW⟩ : ∃ W, W = wr.alloc (.cells #[.int .i64 (s : Int), .int .i64 (d : Int), .int .i64 wt] 46) := ⟨_, rfl⟩
              have hbW : Below wr.heap.size wr W := by rw [hW]; exact al1 _ _
              have HXB : Hid (BoxE W X ⟨(s : Int), (d : Int), wt⟩) := Lib.hid (by rw [hW]; exact BoxE.new wr ⟨(s : Int), (d : Int), wt⟩ _ _ hX)
              have HO3 := Lib.hid (ownsRow_stays HO.out hbW)
              have HB3 := Lib.hid (bthen HB.out hbW (Nat.le_refl _))
              clear hbW hy hwt HO HB
              go_upto_region 14 with fail
              rw [← hW, ← hX]
              clear hW hX e0 e1 e2
              obtain ⟨b0, b1, b2⟩ := HXB.out
              obtain ⟨q0, q1⟩ := int_own HO3.out hs1
              obtain ⟨u0, u1⟩ := int_own HO3.out hd1
              have s0 : (0 : Int) ≤ (s : Int) := by omega
              have s1 : (s : Int) < (k : Int) := by omega
              have d0 : (0 : Int) ≤ (d : Int) := by omega
              have d1 : (d : Int) < (k : Int) := by omega
              have hsd := HSM.out d
              have hss := HSM.out s
              have HSK := fun h => Lib.hid (relax_skip (cs := cs) (s := s) (d := d) (wt := wt) h)
              have HPT := fun h1 h2 => Lib.hid (relax_put (cs := cs) (s := s) (d := d) (wt := wt) h1 h2)
              have HNO := fun h1 h2 h3 => Lib.hid (relax_no (cs := cs) (s := s) (d := d) (wt := wt) h1 h2 h3)
              have HPUT := fun x => Lib.hid (int_put HO3.out (by rw [HLN.out]; exact hs1) x)
              obtain ⟨cd, hcd⟩ : ∃ cd, cd = gi cs d := ⟨_, rfl⟩
              obtain ⟨ca, hca⟩ : ∃ ca, ca = gi cs s := ⟨_, rfl⟩
              rw [← hcd] at u0 hsd HSK HPT HNO
              rw [← hca] at q0 hss HPT HNO
              clear hcd hca
              by_cases hz : cd < 0
              · have HR := HSK hz
                clear HSK HPT HNO HPUT
                go_wp2
                go_roundw
                case rel => exact ⟨p + 1, by omega, by go_num, Lib.hid (by rw [HSP.out, HR.out]; exact HO3.out), HB3⟩
                case measure => simp [intOf]; omega
              · have hW1 : IntKind.i64.wrap (wt * 128) = wt * 128 := wrapB (by omega) (by omega)
                have hW2 : IntKind.i64.wrap (cd + wt * 128) = cd + wt * 128 := wrapB (by omega) (by omega)
                have hW3 : IntKind.i64.wrap (cd + wt * 128 + 1) = cd + wt * 128 + 1 := wrapB (by omega) (by omega)
                go_wp2
                go_quiet (fail)
                by_cases hc0 : ca < 0
                · have HR := HPT hz (.inl hc0)
                  clear HSK HPT HNO
                  go_wp2
                  go_roundw
                  case rel => exact ⟨p + 1, by omega, by go_num, Lib.hid (by rw [HSP.out, HR.out]; exact (HPUT _).out), Lib.hid ((bdrewN HB3.out _).setCell (p := ⟨g, s, none⟩) hg2 _)⟩
                  case measure => simp [intOf]; omega
                · by_cases hc1 : cd + wt * 128 + 1 < ca
                  · have HR := HPT hz (.inr hc1)
                    clear HSK HPT HNO
                    go_wp2
                    go_roundw
                    case rel => exact ⟨p + 1, by omega, by go_num, Lib.hid (by rw [HSP.out, HR.out]; exact (HPUT _).out), Lib.hid ((bdrewN HB3.out _).setCell (p := ⟨g, s, none⟩) hg2 _)⟩
                    case measure => simp [intOf]; omega
                  · have HR := HNO hz (by omega) (by omega)
                    clear HSK HPT HNO
                    go_wp2
                    go_roundw
                    case rel => exact ⟨p + 1, by omega, by go_num, Lib.hid (by rw [HSP.out, HR.out]; exact HO3.out), Lib.hid (bdrewN HB3.out _)⟩
                    case measure => simp [intOf]; omega
            · obtain rfl : p = m := by omega
              have hdp : ¬ ((p : Int) < (p : Int)) := by omega
              have HEQ : Hid (roundsTo l (cost0 k v) (r + 1) = relaxTo l (roundsTo l (cost0 k v) r) p) := Lib.hid (by rw [roundsTo, HM.out])
              go_wp2
              go_roundw
              case rel => exact ⟨r + 1, by omega, by go_num, Lib.hid (by rw [HEQ.out]; exact HO.out), HB⟩
              case measure => simp [intOf]; omega
        · obtain rfl : r = k := by omega
          have hdr : ¬ ((r : Int) < (r : Int)) := by omega
          go_wp2
          go_ret
          exact ⟨_, rfl, by rw [costs_len]; exact HO.out, HB.out⟩
end Go.Proofs.Ytabhinmodnmllaa
