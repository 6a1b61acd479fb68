/-
  Edges; check, Check, to, turned. Printed by gen/sp1.py.
-/
import Derived.Test.YtabhinmodnmllaaSpE
import Derived.Test.YtabhinmodnmllaaCopy
namespace Go.Proofs.Ytabhinmodnmllaa
open Go.RowKit

/-- an edge -/
structure Edge where
  /-- from -/
  src : Int
  /-- to -/
  dst : Int
  /-- the weight -/
  wt : Int
/-- its cells -/
abbrev ea (x : Edge) : Array Value := #[.int .i64 x.src, .int .i64 x.dst, .int .i64 x.wt]
/-- how an edge lies in memory -/
def edgeC : Codec Edge where
  cs x := [.int .i64 x.src, .int .i64 x.dst, .int .i64 x.wt]
  sz := 3
  d := ⟨0, 0, 0⟩
  len _ := rfl
  one x u hu := by
    simp at hu
    rcases hu with rfl | rfl | rfl <;> rfl
/-- edge k -/
def ge (xs : List Edge) (k : Nat) : Edge := edgeC.g xs k
theorem edge_cells {w : World} {b o n k : Nat} {xs : List Edge} (h : SAt edgeC w (some ⟨b, o, none⟩) n xs) (hk : k < n) :
    w.cell? ⟨b, o + k * 3, none⟩ = some (.int .i64 (ge xs k).src) ∧ w.cell? ⟨b, o + k * 3 + 1, none⟩ = some (.int .i64 (ge xs k).dst) ∧ w.cell? ⟨b, o + k * 3 + 2, none⟩ = some (.int .i64 (ge xs k).wt) := by
  have hc := h.cells hk
  exact ⟨hc 0 _ rfl, hc 1 _ rfl, hc 2 _ rfl⟩
/-- there is no such node -/
def badN (n i : Int) : Bool := decide (i < 0 ∨ n ≤ i)
theorem badN_yes {n i : Int} (h : badN n i = true) : i < 0 ∨ n ≤ i := of_decide_eq_true h
theorem badN_no {n i : Int} (h : badN n i = false) : 0 ≤ i ∧ i < n := by
  have := of_decide_eq_false h
  omega
/-- the error of an edge -/
def eE (n : Int) (e : Edge) : Int := if badN n e.src = true ∨ badN n e.dst = true then 9 else if e.wt < 0 ∨ 1073741824 < e.wt then 2 else 0
/-- the first error of the first k edges -/
def errTo (n : Int) (l : List Edge) : Nat → Int
  | 0 => 0
  | k + 1 => if errTo n l k ≠ 0 then errTo n l k else eE n (ge l k)
theorem errTo_step {n : Int} {l : List Edge} {k : Nat} (h : errTo n l k = 0) : errTo n l (k + 1) = eE n (ge l k) := by
  rw [errTo, if_neg (by omega)]
theorem errTo_keep {n : Int} {l : List Edge} {k m : Nat} (h : errTo n l k ≠ 0) (hm : k ≤ m) : errTo n l m = errTo n l k := by
  induction m with
  | zero => obtain rfl : k = 0 := by omega
            rfl
  | succ m ih =>
    by_cases e : k = m + 1
    · rw [e]
    · have := ih (by omega)
      rw [errTo, if_pos (by rw [this]; exact h), this]
/-- the error of a graph -/
def checkI (n : Int) (l : List Edge) : Int := if n < 0 ∨ 64 < n then 2 else if 4096 < l.length then 5 else errTo n l l.length
theorem check_n {n : Int} {l : List Edge} (h : n < 0 ∨ 64 < n) : checkI n l = 2 := if_pos h
theorem check_long {n : Int} {l : List Edge} {m : Nat} (hm : l.length = m) (h : ¬ (n < 0 ∨ 64 < n)) (h2 : (4096 : Int) < (m : Int)) : checkI n l = 5 := by
  rw [checkI, if_neg h, if_pos (by omega)]
theorem check_at {n : Int} {l : List Edge} {m k : Nat} (hm : l.length = m) (h : ¬ (n < 0 ∨ 64 < n)) (h2 : m ≤ 4096) (hk : k < m) (h0 : errTo n l k = 0) {c : Int} (hc : eE n (ge l k) = c) (hc0 : c ≠ 0) : checkI n l = c := by
  have e := errTo_step h0
  rw [checkI, if_neg h, if_neg (by omega), errTo_keep (k := k + 1) (by rw [e, hc]; exact hc0) (by omega), e, hc]
theorem check_all {n : Int} {l : List Edge} {m : Nat} (hm : l.length = m) (h : ¬ (n < 0 ∨ 64 < n)) (h2 : m ≤ 4096) (h0 : errTo n l m = 0) : checkI n l = 0 := by
  rw [checkI, if_neg h, if_neg (by omega), hm, h0]
theorem eE_src {n : Int} {e : Edge} (h : badN n e.src = true) : eE n e = 9 := if_pos (.inl h)
theorem eE_dst {n : Int} {e : Edge} (h : badN n e.dst = true) : eE n e = 9 := if_pos (.inr h)
theorem eE_wt {n : Int} {e : Edge} (h1 : badN n e.src = false) (h2 : badN n e.dst = false) (h : e.wt < 0 ∨ 1073741824 < e.wt) : eE n e = 2 := by
  rw [eE, if_neg (by rw [h1, h2]; simp), if_pos h]
theorem eE_ok {n : Int} {e : Edge} (h1 : badN n e.src = false) (h2 : badN n e.dst = false) (h : ¬ (e.wt < 0 ∨ 1073741824 < e.wt)) : eE n e = 0 := by
  rw [eE, if_neg (by rw [h1, h2]; simp), if_neg h]

set_option maxHeartbeats 400000 in
theorem missing_at (n i : Int) (r : Bool) (hr : badN n i = r) (B : Nat) (w : World) (hb : w.cell? ⟨B, 0, none⟩ = some (.int .i64 n)) : Calls Try.prog 30 #[.int .i64 i, .pointer (some ⟨B, 0, none⟩)] w fun e w' => e = .returned (.bool r) ∧ w = w' := by
  by_cases h1 : i < 0
  · have HR : Hid (r = true) := Lib.hid (by rw [← hr]; exact decide_eq_true (.inl h1))
    clear hr
    go_enter Try.func30, Try.ntmps30
    go_wp2
    go_ret
    exact ⟨ret_bool HR.out.symm, rfl⟩
  · have HR : Hid (r = decide (n ≤ i)) := Lib.hid (by rw [← hr, badN, decide_eq_decide]; omega)
    clear hr
    go_enter Try.func30, Try.ntmps30
    go_wp2
    go_ret
    exact ⟨ret_bool HR.out.symm, rfl⟩
/-- the error with the nodes that must exist -/
def checkN (n : Int) (l : List Edge) (ns : List Int) : Int := if checkI n l ≠ 0 then checkI n l else if ns.any (badN n) = true then 9 else 0
theorem checkN_err {n : Int} {l : List Edge} {ns : List Int} {c : Int} (h : checkI n l = c) (hc : c ≠ 0) : checkN n l ns = c := by
  rw [checkN, if_pos (by rw [h]; exact hc), h]
theorem any_at {n : Int} {ns : List Int} {k : Nat} (hk : k < ns.length) (h : badN n (gi ns k) = true) : ns.any (badN n) = true := List.any_eq_true.2 ⟨gi ns k, by rw [gi_eq hk]; exact List.getElem_mem hk, h⟩
theorem any_none {n : Int} {ns : List Int} {m : Nat} (hm : ns.length = m) (h : ∀ k, k < m → badN n (gi ns k) = false) : ns.any (badN n) = false := by
  rw [List.any_eq_false]
  intro x hx
  obtain ⟨k, hk, e⟩ := List.getElem_of_mem hx
  have := h k (by omega)
  rw [gi_eq hk, e] at this
  rw [this]
  exact Bool.noConfusion

set_option maxRecDepth 100000 in
set_option maxHeartbeats 2000000 in
theorem check_any (n : Int) (A : Option Addr) (m c : Nat) (l : List Edge) (N : Option Addr) (d e : Nat) (ns : List Int) (w : World) (hx : SAt edgeC w A m l) (hy : IntsAt w N d ns) (hd : d ≤ 1000) :
    Calls Try.prog 23 #[.int .i64 n, .slice A m c, .slice N d e] w fun e w' => e = .returned (.int .i64 (checkN n l ns)) ∧ Below w.heap.size w w' := by
  have HX := Lib.hid hx
  have HY := Lib.hid hy
  have HL := Lib.hid hx.1
  have HM := Lib.hid hy.1
  clear hx hy
  have hbx0 := al1 w (.cells #[.int .i64 n] 3)
  have HB0 := Lib.hid hbx0
  clear hbx0
  by_cases h1 : n < 0
  · have HF := Lib.hid (checkN_err (ns := ns) (check_n (l := l) (.inl h1)) (by omega))
    go_enter Try.func23, Try.ntmps23
    go_wp2
    go_ret
    exact ⟨ret_int HF.out.symm, HB0.out⟩
  by_cases h2 : 64 < n
  · have HF := Lib.hid (checkN_err (ns := ns) (check_n (l := l) (.inr h2)) (by omega))
    go_enter Try.func23, Try.ntmps23
    go_wp2
    go_ret
    exact ⟨ret_int HF.out.symm, HB0.out⟩
  have hnn : ¬ (n < 0 ∨ 64 < n) := by omega
  by_cases h3 : (4096 : Int) < (m : Int)
  · have HF := Lib.hid (checkN_err (ns := ns) (check_long HL.out hnn h3) (by omega))
    go_enter Try.func23, Try.ntmps23
    go_wp2
    go_ret
    exact ⟨ret_int HF.out.symm, HB0.out⟩
  have hm : m ≤ 4096 := by omega
  have hmf : ∀ (fn : Fn) (first cap : Array Value) (w : World), (Instr.makeFunc fn first cap).run Try.prog w = .ok (.func fn first cap) w := fun _ _ _ _ => rfl
  obtain ⟨W, hW⟩ : ∃ W, W = w.alloc (.cells #[.int .i64 n] 3) := ⟨_, rfl⟩
  obtain ⟨B, hB⟩ : ∃ B, B = w.heap.size := ⟨_, rfl⟩
  have HN : Hid (W.cell? ⟨B, 0, none⟩ = some (.int .i64 n)) := Lib.hid (by rw [hW, hB, World.cell?_alloc_at _ _ _ _ rfl]; rfl)
  have HBW : Hid (Below w.heap.size w W) := Lib.hid (by rw [hW]; exact al1 _ _)
  have hent : ∀ args w, (callFunc 30 args).run Try.prog w = .ok (.enter 30 args) w := enters_of Try.func30 (by kernel_rfl) rfl
  have hc1 := HN.out
  go_enter Try.func23, Try.ntmps23
  go_upto_region 1 with fail
  rw [← hW, ← hB]
  clear hW hB
  go_wp2
  go_loopw [24] (fun i wr => ∃ k : Nat, k ≤ m ∧ i = .int .i64 k ∧ Hid (errTo n l k = 0) ∧ Hid (Below W.heap.size W wr)) (fun i _ => m - (intOf i).toNat)
  case atStart => exact ⟨0, by omega, rfl, Lib.hid rfl, Lib.hid (Below.refl _ _)⟩
  case round =>
    obtain ⟨k, hkm, rfl, HE, HB⟩ := hrel
    have k0 : (0 : Int) ≤ (k : Int) := by omega
    by_cases hlt : k < m
    · have hlt' : (k : Int) < (m : Int) := by omega
      obtain ⟨b, o, hA, _⟩ := HX.out.at_ hlt
      subst hA
      obtain ⟨c0, c1, c2⟩ := edge_cells (HX.out.stays (bthen HBW.out HB.out (Nat.le_refl _))) hlt
      have HBR := Lib.hid (balloc HB.out (.cells (ea (ge l k)) 47) (Nat.le_refl _))
      have HBX := Lib.hid (bthen HBW.out HBR.out (Nat.le_refl _))
      have HNR := Lib.hid ((HBR.out.cell (p := ⟨B, 0, none⟩) (cell?_block_lt HN.out)).trans HN.out)
      cases hs : badN n (ge l k).src
      · have HS := Lib.hid hs
        cases hdd : badN n (ge l k).dst
        · have HD := Lib.hid hdd
          by_cases hw1 : (ge l k).wt < 0
          · have HF := Lib.hid (checkN_err (ns := ns) (check_at HL.out hnn hm hlt HE.out (eE_wt hs hdd (.inl hw1)) (by omega)) (by omega))
            clear hs hdd
            go_wp2_with fail
            refine (missing_at n _ _ HS.out B _ HNR.out).mono ?_
            rintro e w' ⟨rfl, rfl⟩
            go_wp2_with fail
            refine (missing_at n _ _ HD.out B _ HNR.out).mono ?_
            rintro e w' ⟨rfl, rfl⟩
            go_wp2
            go_ret
            exact ⟨ret_int HF.out.symm, HBX.out⟩
          · by_cases hw2 : 1073741824 < (ge l k).wt
            · have HF := Lib.hid (checkN_err (ns := ns) (check_at HL.out hnn hm hlt HE.out (eE_wt hs hdd (.inr hw2)) (by omega)) (by omega))
              clear hs hdd
              go_wp2_with fail
              refine (missing_at n _ _ HS.out B _ HNR.out).mono ?_
              rintro e w' ⟨rfl, rfl⟩
              go_wp2_with fail
              refine (missing_at n _ _ HD.out B _ HNR.out).mono ?_
              rintro e w' ⟨rfl, rfl⟩
              go_wp2
              go_ret
              exact ⟨ret_int HF.out.symm, HBX.out⟩
            · have HE2 := Lib.hid ((errTo_step HE.out).trans (eE_ok hs hdd (by omega)))
              clear hs hdd
              go_wp2_with fail
              refine (missing_at n _ _ HS.out B _ HNR.out).mono ?_
              rintro e w' ⟨rfl, rfl⟩
              go_wp2_with fail
              refine (missing_at n _ _ HD.out B _ HNR.out).mono ?_
              rintro e w' ⟨rfl, rfl⟩
              go_wp2
              go_roundw
              case rel => exact ⟨k + 1, by omega, by go_num, HE2, HBR⟩
              case measure => simp [intOf]; omega
        · have HD := Lib.hid hdd
          have HF := Lib.hid (checkN_err (ns := ns) (check_at HL.out hnn hm hlt HE.out (eE_dst hdd) (by omega)) (by omega))
          clear hs hdd
          go_wp2_with fail
          refine (missing_at n _ _ HS.out B _ HNR.out).mono ?_
          rintro e w' ⟨rfl, rfl⟩
          go_wp2_with fail
          refine (missing_at n _ _ HD.out B _ HNR.out).mono ?_
          rintro e w' ⟨rfl, rfl⟩
          go_wp2
          go_ret
          exact ⟨ret_int HF.out.symm, HBX.out⟩
      · have HS := Lib.hid hs
        have HF := Lib.hid (checkN_err (ns := ns) (check_at HL.out hnn hm hlt HE.out (eE_src hs) (by omega)) (by omega))
        clear hs
        go_wp2_with fail
        refine (missing_at n _ _ HS.out B _ HNR.out).mono ?_
        rintro e w' ⟨rfl, rfl⟩
        go_wp2
        go_ret
        exact ⟨ret_int HF.out.symm, HBX.out⟩
    · obtain rfl : k = m := by omega
      have hd0 : ¬ ((k : Int) < (k : Int)) := by omega
      have HC := Lib.hid (check_all HL.out hnn hm HE.out)
      have HBX := Lib.hid (bthen HBW.out HB.out (Nat.le_refl _))
      have HNR := Lib.hid ((HB.out.cell (p := ⟨B, 0, none⟩) (cell?_block_lt HN.out)).trans HN.out)
      go_wp2
      go_loopw [49] (fun i wr2 => ∃ j : Nat, j ≤ d ∧ i = .int .i64 j ∧ Hid (∀ q, q < j → badN n (gi ns q) = false) ∧ wr2 = wr) (fun i _ => d - (intOf i).toNat)
      case atStart => exact ⟨0, by omega, rfl, Lib.hid (fun q hq => absurd hq (by omega)), rfl⟩
      case round =>
        obtain ⟨j, hjd, rfl, HQ, rfl⟩ := hrel
        have j0 : (0 : Int) ≤ (j : Int) := by omega
        by_cases hlt : j < d
        · have hlt' : (j : Int) < (d : Int) := by omega
          obtain ⟨ad, hA, hq0⟩ := (HY.out.below HY.out.under HBX.out).2 j hlt
          subst hA
          cases hs : badN n (gi ns j)
          · have HS := Lib.hid hs
            have HQ2 : Hid (∀ q, q < j + 1 → badN n (gi ns q) = false) := Lib.hid (fun q hq => by
              by_cases e : q = j
              · rw [e]; exact HS.out
              · exact HQ.out q (by omega))
            clear hs
            go_wp2_with fail
            refine (missing_at n _ _ HS.out B _ HNR.out).mono ?_
            rintro e w' ⟨rfl, rfl⟩
            go_wp2
            go_roundw
            case rel => exact ⟨j + 1, by omega, by go_num, HQ2, by first | rfl | trivial⟩
            case measure => simp [intOf]; omega
          · have HS := Lib.hid hs
            have HF : Hid (checkN n l ns = 9) := Lib.hid (by rw [checkN, if_neg (by rw [HC.out]; omega), if_pos (any_at (by rw [HM.out]; exact hlt) hs)])
            clear hs
            go_wp2_with fail
            refine (missing_at n _ _ HS.out B _ HNR.out).mono ?_
            rintro e w' ⟨rfl, rfl⟩
            go_wp2
            go_ret
            exact ⟨ret_int HF.out.symm, HBX.out⟩
        · obtain rfl : j = d := by omega
          have hd1 : ¬ ((j : Int) < (j : Int)) := by omega
          have HF : Hid (checkN n l ns = 0) := Lib.hid (by rw [checkN, if_neg (by rw [HC.out]; omega), if_neg (by rw [any_none HM.out HQ.out]; exact Bool.noConfusion)])
          go_wp2
          go_ret
          exact ⟨ret_int HF.out.symm, HBX.out⟩
end Go.Proofs.Ytabhinmodnmllaa
