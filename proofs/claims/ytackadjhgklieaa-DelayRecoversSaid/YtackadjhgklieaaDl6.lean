/-
  Lateness: both.
-/
import Derived.Test.YtackadjhgklieaaDl5
namespace Go.Proofs.Ytackadjhgklieaa
open Go.RowKit

/-- the error of Lateness -/
def latE (xs ys : List Call) : Int := if xs.length = ys.length then if firstN (fun k => decide ((gc xs k).stop ≠ (gc ys k).stop)) xs.length < xs.length then 1 else if ordB xs && ordB ys then 0 else 10 else 1
def latTo (xs ys : List Call) (k : Nat) : List Int := (List.range k).map fun i => (gc ys i).arr - (gc xs i).arr
def latL (xs ys : List Call) : List Int := if latE xs ys = 0 then latTo xs ys xs.length else []
theorem lat_len (xs ys : List Call) (k : Nat) : (latTo xs ys k).length = k := by simp [latTo]
theorem lat_succ (xs ys : List Call) (k : Nat) : latTo xs ys (k + 1) = latTo xs ys k ++ [(gc ys k).arr - (gc xs k).arr] := by simp [latTo, List.range_succ]
theorem lat_diff {xs ys : List Call} (h : xs.length ≠ ys.length) : latE xs ys = 1 ∧ latL xs ys = [] := by
  have : latE xs ys = 1 := if_neg h
  exact ⟨this, by unfold latL; rw [this]; rfl⟩
theorem lat_stop {xs ys : List Call} {n k : Nat} (hl : xs.length = n) (hl2 : ys.length = n) (hk : k < n) (h : (gc xs k).stop ≠ (gc ys k).stop) : latE xs ys = 1 ∧ latL xs ys = [] := by
  have hf := firstN_le_of (p := fun k => decide ((gc xs k).stop ≠ (gc ys k).stop)) (n := xs.length) (k := k) (by omega) (by simp [h])
  have : latE xs ys = 1 := by unfold latE; rw [if_pos (by omega), if_pos (by omega)]
  exact ⟨this, by unfold latL; rw [this]; rfl⟩
theorem lat_ord {xs ys : List Call} {n : Nat} (hl : xs.length = n) (hl2 : ys.length = n) (h : ∀ k, k < n → (gc xs k).stop = (gc ys k).stop) (h2 : (ordB xs && ordB ys) = false) : latE xs ys = 10 ∧ latL xs ys = [] := by
  have hf := firstN_none (p := fun k => decide ((gc xs k).stop ≠ (gc ys k).stop)) (n := xs.length) (fun j hj => by simp [h j (by omega)])
  have : latE xs ys = 10 := by unfold latE; rw [if_pos (by omega), hf, if_neg (by omega), h2]; rfl
  exact ⟨this, by unfold latL; rw [this]; rfl⟩
theorem lat_ok {xs ys : List Call} {n : Nat} (hl : xs.length = n) (hl2 : ys.length = n) (h : ∀ k, k < n → (gc xs k).stop = (gc ys k).stop) (h2 : ordB xs = true) (h3 : ordB ys = true) : latE xs ys = 0 ∧ latL xs ys = latTo xs ys n := by
  have hf := firstN_none (p := fun k => decide ((gc xs k).stop ≠ (gc ys k).stop)) (n := xs.length) (fun j hj => by simp [h j (by omega)])
  have : latE xs ys = 0 := by unfold latE; rw [if_pos (by omega), hf, if_neg (by omega), h2, h3]; rfl
  exact ⟨this, by unfold latL; rw [this, if_pos rfl, hl]⟩
/-- what Lateness leaves -/
def LatRet (xs ys : List Call) (w : World) (e : Ending) (w' : World) : Prop :=
  ∃ (A : Option Addr) (c : Nat), e = .returned (.tuple #[.slice A (latL xs ys).length c, .int .i64 (latE xs ys)]) ∧ IntsAt w' A (latL xs ys).length (latL xs ys) ∧ Below w.heap.size w w' ∧ (0 < (latL xs ys).length → ∃ g, A = some ⟨g, 0, none⟩)
theorem LatRet.err {xs ys : List Call} {f : Int} {w w' : World} (h : latE xs ys = f ∧ latL xs ys = []) (hb : Below w.heap.size w w') : LatRet xs ys w (.returned (.tuple #[.slice none 0 0, .int .i64 f])) w' := by
  refine ⟨none, 0, by rw [h.1, h.2]; rfl, ?_, hb, fun hp => ?_⟩
  · rw [h.2]
    exact IntsAt.nil _ _
  · rw [h.2] at hp
    exact absurd hp (by simp)
theorem LatRet.ok {xs ys : List Call} {n : Nat} {base : Nat} {v : Value} {w w' : World} (h : latE xs ys = 0 ∧ latL xs ys = latTo xs ys n) (ho : w'.ownsRow base 3 1 v n ((latTo xs ys n).map (Value.int .i64))) (hb : Below w.heap.size w w') : LatRet xs ys w (.returned (.tuple #[v, .int .i64 0])) w' := by
  obtain ⟨A, c, rfl, hc⟩ := ownsRow_slice ho
  exact ⟨A, c, by rw [h.1, h.2, lat_len], by rw [h.2, lat_len]; exact (IntsAt.own ho).1, hb, fun hp => by
    rw [h.2, lat_len] at hp
    obtain ⟨g, cap, hv, _, _⟩ := ho.form hp
    exact ⟨g, by injection hv⟩⟩
theorem int_info : (Try.prog.info? 3).map (fun i => (i.zero, i.size, i.bytes)) = some (some (.int .i64 0), 1, 8) := by kernel_rfl
theorem own_ne {w : World} {base e size n p : Nat} {v : Value} {xs : List Value} (h : w.ownsRow base e size v n xs) (hp : p < base ∨ w.heap.size ≤ p) : some p ≠ v.ownBlock := fun e => by
  have := h.lt _ e.symm
  omega
/-- the arrivals that a round loads -/
def Two (u : World) (p q : Addr) (a b : Int) : Prop := u.cell? p = some (.int .i64 a) ∧ u.cell? q = some (.int .i64 b)
theorem Two.stays {w w' : World} {p q : Addr} {a b : Int} (h : Two w p q a b) (hb : Below w.heap.size w w') : Two w' p q a b :=
  ⟨(hb.cell (cell?_block_lt h.1)).trans h.1, (hb.cell (cell?_block_lt h.2)).trans h.2⟩
theorem Two.app {w w' : World} {p q : Addr} {a b : Int} {row : Option Nat} (h : Two w p q a b) (hg : w.grownBy w' row) (h1 : some p.block ≠ row) (h2 : some q.block ≠ row) : Two w' p q a b := ⟨hg.cell h.1 h1, hg.cell h.2 h2⟩

set_option maxHeartbeats 2000000 in
theorem rlat_any (A B : Option Addr) (n m c d : Nat) (xs ys : List Call) (w : World) (hx : SAt callC w A n xs) (hy : SAt callC w B m ys) (hn : n ≤ 1000) (hm : m ≤ 1000) :
    Calls Try.prog 15 #[.slice A n c, .slice B m d] w fun e w' => LatRet xs ys w e w' := by
  obtain ⟨i0, hi, hz0, hz1, hz2⟩ := info_parts int_info
  have HX := Lib.hid hx
  have HY := Lib.hid hy
  have HL := Lib.hid hx.1
  have HM := Lib.hid hy.1
  have r := Below.refl w.heap.size w
  clear hx hy
  by_cases hl : n = m
  · subst hl
    go_enter Try.func15, Try.ntmps15
    go_wp2
    go_loopw [6] (fun i wr => ∃ k : Nat, k ≤ n ∧ i = .int .i64 k ∧ Hid (∀ j, j < k → (gc xs j).stop = (gc ys j).stop) ∧ Hid (Below w.heap.size w wr)) (fun i _ => n - (intOf i).toNat)
    case atStart => exact ⟨0, by omega, rfl, Lib.hid (fun j hj => absurd hj (by omega)), Lib.hid r⟩
    case round =>
      obtain ⟨k, hk, rfl, HA, HB⟩ := hrel
      by_cases hlt : k < n
      · have k0 : (0 : Int) ≤ (k : Int) := by omega
        have kn : (k : Int) < (n : Int) := by omega
        obtain ⟨b, o, hA, _⟩ := HX.out.at_ hlt
        subst hA
        obtain ⟨b', o', hA, _⟩ := HY.out.at_ hlt
        subst hA
        obtain ⟨c0, c1, c2, c3, c4⟩ := call_cells (HX.out.stays HB.out) hlt
        obtain ⟨d0, d1, d2, d3, d4⟩ := call_cells (HY.out.stays HB.out) hlt
        have hbq := cell?_block_lt d0
        by_cases he : (gc xs k).stop = (gc ys k).stop
        · have he' : ((gc xs k).stop != (gc ys k).stop) = false := by simp [he]
          have HF : Hid (∀ j, j < k + 1 → (gc xs j).stop = (gc ys j).stop) := Lib.hid fun j hj => by
            by_cases e : j = k
            · subst e; exact he
            · exact HA.out j (by omega)
          have HBX := Lib.hid (HB.out)
          clear he
          go_wp2
          go_quiet (fail)
          go_wp2
          go_roundw
          case rel => exact ⟨k + 1, by omega, by go_num, HF, Lib.hid (bdrewN HBX.out _)⟩
          case measure => simp [intOf]; omega
        · have he' : ((gc xs k).stop != (gc ys k).stop) = true := by simp [he]
          have HF := Lib.hid (lat_stop HL.out HM.out hlt he)
          have HBX := Lib.hid (HB.out)
          clear he
          go_wp2
          go_quiet (fail)
          go_wp2
          go_ret2
          exact LatRet.err HF.out (bdrewN HBX.out _)
      · obtain rfl : k = n := by omega
        have hd : ¬ ((k : Int) < (k : Int)) := by omega
        cases ho : ordB xs
        · have HF := Lib.hid (lat_ord HL.out HM.out HA.out (by rw [ho]; rfl))
          go_wp2_with fail
          refine (rordered_any _ _ _ xs _ (HX.out.stays HB.out) hn).mono ?_
          rintro e w1 ⟨rfl, q1, hw1⟩; have HB1 : Hid (Below w.heap.size w w1) := Lib.hid (by rw [hw1]; exact bdrewN HB.out q1); clear hw1
          go_wp2
          go_ret2
          exact LatRet.err HF.out HB1.out
        · cases ho2 : ordB ys
          · have HF := Lib.hid (lat_ord HL.out HM.out HA.out (by rw [ho, ho2]; rfl))
            go_wp2_with fail
            refine (rordered_any _ _ _ xs _ (HX.out.stays HB.out) hn).mono ?_
            rintro e w1 ⟨rfl, q1, hw1⟩; have HB1 : Hid (Below w.heap.size w w1) := Lib.hid (by rw [hw1]; exact bdrewN HB.out q1); clear hw1
            go_wp2_with fail
            refine (rordered_any _ _ _ ys _ (HY.out.stays HB1.out) hn).mono ?_
            rintro e w2 ⟨rfl, q2, hw2⟩; have HB2 : Hid (Below w.heap.size w w2) := Lib.hid (by rw [hw2]; exact bdrewN HB1.out q2); clear hw2
            go_wp2
            go_ret2
            exact LatRet.err HF.out HB2.out
          · have HF := Lib.hid (lat_ok HL.out HM.out HA.out ho ho2)
            have HKX := Lib.hid (ord_ok' HL.out ho)
            have HKY := Lib.hid (ord_ok' HM.out ho2)
            go_wp2_with fail
            refine (rordered_any _ _ _ xs _ (HX.out.stays HB.out) hn).mono ?_
            rintro e w1 ⟨rfl, q1, hw1⟩; have HB1 : Hid (Below w.heap.size w w1) := Lib.hid (by rw [hw1]; exact bdrewN HB.out q1); clear hw1
            go_wp2_with fail
            refine (rordered_any _ _ _ ys _ (HY.out.stays HB1.out) hn).mono ?_
            rintro e w2 ⟨rfl, q2, hw2⟩; have HB2 : Hid (Below w.heap.size w w2) := Lib.hid (by rw [hw2]; exact bdrewN HB1.out q2); clear hw2
            go_wp2
            obtain ⟨n, hnk⟩ : ∃ n, n = k := ⟨_, rfl⟩
            subst hnk
            go_loopw [7, 8] (fun v i wx => ∃ k : Nat, k ≤ n ∧ i = .int .i64 k ∧ Hid (wx.ownsRow w.heap.size 3 1 v k ((latTo xs ys k).map (Value.int .i64))) ∧ Hid (Below w.heap.size w wx)) (fun _ i _ => n - (intOf i).toNat)
            case atStart => exact ⟨0, by omega, rfl, Lib.hid (World.ownsRow_nil _ _ _ _), HB2⟩
            case round =>
              obtain ⟨k, hk, rfl, HW, HB3⟩ := hrel
              by_cases hlt : k < n
              · have k0 : (0 : Int) ≤ (k : Int) := by omega
                have kn : (k : Int) < (n : Int) := by omega
                have hkx := ok_bounds HKX.out hlt
                have hky := ok_bounds HKY.out hlt
                have hws : IntKind.i64.wrap ((gc ys k).arr - (gc xs k).arr) = (gc ys k).arr - (gc xs k).arr := wrap64 (by omega) (by omega)
                have HLS := Lib.hid (lat_succ xs ys k)
                obtain ⟨b, o, hA, _⟩ := HX.out.at_ hlt
                subst hA
                obtain ⟨b', o', hA, _⟩ := HY.out.at_ hlt
                subst hA
                obtain ⟨c0, c1, c2, c3, c4⟩ := call_cells (HX.out.stays HB3.out) hlt
                obtain ⟨d0, d1, d2, d3, d4⟩ := call_cells (HY.out.stays HB3.out) hlt
                have hT : Two wr.drew ⟨b, o + k * 5 + 1, none⟩ ⟨b', o' + k * 5 + 1, none⟩ (gc xs k).arr (gc ys k).arr := ⟨c1, d1⟩
                have HW0 := Lib.hid HW.out
                have HB0 := Lib.hid HB3.out
                go_wp2
                obtain ⟨W0, hW0⟩ : ∃ W0, W0 = wr := ⟨_, rfl⟩
                rw [← hW0] at hT HW0 HB0
                subst hW0
                skip
                have hp1 := own_ne HW.out (p := b) (.inl (cell?_block_lt (call_cells HX.out hlt).1))
                have hp2 := own_ne HW.out (p := b') (.inl (cell?_block_lt (call_cells HY.out hlt).1))
                go_region_held3 (fun u => u.cell? ⟨b, o + k * 5 + 1, none⟩ = some (.int .i64 (gc xs k).arr) ∧ u.cell? ⟨b', o' + k * 5 + 1, none⟩ = some (.int .i64 (gc ys k).arr)) ((first | exact hT | exact hT.stays (balloc (Below.refl _ _) _ (Nat.le_refl _)))) ((first | (refine step_append_own rfl (.tmp 45) (.tmp 57) 31 rfl w.heap.size 3 i0 (.int .i64 0) 1 8 Try.underlying31 hi hz0 hz1 hz2 rfl (by decide) _ k ((latTo xs ys k).map (Value.int .i64)) (by simp [Act.eval]) (show (World.alloc W0.drew _).ownsRow _ _ _ _ _ _ from (HW0.out.alloc _)) ⟨W0.heap.size, 0, none⟩ 1 1 [.int .i64 ((gc ys k).arr - (gc xs k).arr)] (by simp [Act.eval]) rfl (cell_one_new _ _ _) (by intro u hu; simp at hu; subst hu; rfl) (by unfold maxLen; omega) (by omega) (by have := HB0.out.size; simp; omega) ?_; intro v' w5 hown' hgrow _; have hT := (hT.stays (balloc (Below.refl _ _) _ (Nat.le_refl _))).app hgrow hp1 hp2)))
                have HB5 := Lib.hid (below_app (HB0.out.drew) HB0.out.size (Nat.le_refl _) HW0.out hgrow)
                have HW5 : Hid (w5.ownsRow w.heap.size 3 1 v' (k + 1) ((latTo xs ys (k + 1)).map (Value.int .i64))) := Lib.hid (by rw [HLS.out, List.map_append]; exact hown')
                clear hown' hgrow hT hp1 hp2 hws c0 c1 c2 c3 c4 d0 d1 d2 d3 d4
                go_wp2
                go_roundw
                case rel => exact ⟨k + 1, by omega, by go_num, HW5, HB5⟩
                case measure => simp [intOf]; omega
              · obtain rfl : k = n := by omega
                have hd : ¬ ((k : Int) < (k : Int)) := by omega
                go_wp2
                go_ret2
                exact LatRet.ok HF.out HW.out HB3.out
  · have hne : ((n : Int) != (m : Int)) = true := by rw [bne_iff_ne]; omega
    have HF := Lib.hid (lat_diff (xs := xs) (ys := ys) (by rw [HL.out, HM.out]; exact hl))
    go_enter Try.func15, Try.ntmps15
    go_wp2
    go_ret2
    exact LatRet.err HF.out r

set_option maxHeartbeats 2000000 in
theorem lat_any (A B : Option Addr) (n m c d : Nat) (xs ys : List Call) (w : World) (hx : SAt callC w A n xs) (hy : SAt callC w B m ys) (hn : n ≤ 1000) (hm : m ≤ 1000) :
    Calls Try.prog 14 #[.slice A n c, .slice B m d] w fun e w' => LatRet xs ys w e w' := by
  obtain ⟨i0, hi, hz0, hz1, hz2⟩ := info_parts int_info
  have HX := Lib.hid hx
  have HY := Lib.hid hy
  have HL := Lib.hid hx.1
  have HM := Lib.hid hy.1
  have r := Below.refl w.heap.size w
  clear hx hy
  by_cases hl : n = m
  · subst hl
    go_enter Try.func14, Try.ntmps14
    go_wp2
    go_loopw [18] (fun i wr => ∃ k : Nat, k ≤ n ∧ i = .int .i64 k ∧ Hid (∀ j, j < k → (gc xs j).stop = (gc ys j).stop) ∧ Hid (Below w.heap.size w wr)) (fun i _ => n - (intOf i).toNat)
    case atStart => exact ⟨0, by omega, rfl, Lib.hid (fun j hj => absurd hj (by omega)), Lib.hid r⟩
    case round =>
      obtain ⟨k, hk, rfl, HA, HB⟩ := hrel
      by_cases hlt : k < n
      · have k0 : (0 : Int) ≤ (k : Int) := by omega
        have kn : (k : Int) < (n : Int) := by omega
        obtain ⟨b, o, hA, _⟩ := HX.out.at_ hlt
        subst hA
        obtain ⟨b', o', hA, _⟩ := HY.out.at_ hlt
        subst hA
        obtain ⟨c0, c1, c2, c3, c4⟩ := call_cells (HX.out.stays HB.out) hlt
        obtain ⟨d0, d1, d2, d3, d4⟩ := call_cells (HY.out.stays HB.out) hlt
        have hbq := cell?_block_lt d0
        by_cases he : (gc xs k).stop = (gc ys k).stop
        · have he' : ((gc xs k).stop != (gc ys k).stop) = false := by simp [he]
          have HF : Hid (∀ j, j < k + 1 → (gc xs j).stop = (gc ys j).stop) := Lib.hid fun j hj => by
            by_cases e : j = k
            · subst e; exact he
            · exact HA.out j (by omega)
          have HBX := Lib.hid (balloc HB.out (.cells #[.int .i64 (gc xs k).stop, .int .i64 (gc xs k).arr, .int .i64 (gc xs k).dep, .bool (gc xs k).board, .bool (gc xs k).alight] 41) (Nat.le_refl _))
          clear he
          go_wp2
          go_quiet (fail)
          go_wp2
          go_roundw
          case rel => exact ⟨k + 1, by omega, by go_num, HF, Lib.hid (bdrewN HBX.out _)⟩
          case measure => simp [intOf]; omega
        · have he' : ((gc xs k).stop != (gc ys k).stop) = true := by simp [he]
          have HF := Lib.hid (lat_stop HL.out HM.out hlt he)
          have HBX := Lib.hid (balloc HB.out (.cells #[.int .i64 (gc xs k).stop, .int .i64 (gc xs k).arr, .int .i64 (gc xs k).dep, .bool (gc xs k).board, .bool (gc xs k).alight] 41) (Nat.le_refl _))
          clear he
          go_wp2
          go_quiet (fail)
          go_wp2
          go_ret2
          exact LatRet.err HF.out (bdrewN HBX.out _)
      · obtain rfl : k = n := by omega
        have hd : ¬ ((k : Int) < (k : Int)) := by omega
        cases ho : ordB xs
        · have HF := Lib.hid (lat_ord HL.out HM.out HA.out (by rw [ho]; rfl))
          go_wp2_with fail
          refine (ordered_any _ _ _ xs _ (HX.out.stays HB.out) hn).mono ?_
          rintro e w1 ⟨rfl, hb1⟩; have HB1 := Lib.hid (bthen HB.out hb1 (Nat.le_refl _)); clear hb1
          go_wp2
          go_ret2
          exact LatRet.err HF.out HB1.out
        · cases ho2 : ordB ys
          · have HF := Lib.hid (lat_ord HL.out HM.out HA.out (by rw [ho, ho2]; rfl))
            go_wp2_with fail
            refine (ordered_any _ _ _ xs _ (HX.out.stays HB.out) hn).mono ?_
            rintro e w1 ⟨rfl, hb1⟩; have HB1 := Lib.hid (bthen HB.out hb1 (Nat.le_refl _)); clear hb1
            go_wp2_with fail
            refine (ordered_any _ _ _ ys _ (HY.out.stays HB1.out) hn).mono ?_
            rintro e w2 ⟨rfl, hb2⟩; have HB2 := Lib.hid (bthen HB1.out hb2 (Nat.le_refl _)); clear hb2
            go_wp2
            go_ret2
            exact LatRet.err HF.out HB2.out
          · have HF := Lib.hid (lat_ok HL.out HM.out HA.out ho ho2)
            have HKX := Lib.hid (ord_ok' HL.out ho)
            have HKY := Lib.hid (ord_ok' HM.out ho2)
            go_wp2_with fail
            refine (ordered_any _ _ _ xs _ (HX.out.stays HB.out) hn).mono ?_
            rintro e w1 ⟨rfl, hb1⟩; have HB1 := Lib.hid (bthen HB.out hb1 (Nat.le_refl _)); clear hb1
            go_wp2_with fail
            refine (ordered_any _ _ _ ys _ (HY.out.stays HB1.out) hn).mono ?_
            rintro e w2 ⟨rfl, hb2⟩; have HB2 := Lib.hid (bthen HB1.out hb2 (Nat.le_refl _)); clear hb2
            go_wp2
            obtain ⟨n, hnk⟩ : ∃ n, n = k := ⟨_, rfl⟩
            subst hnk
            go_loopw [8, 42] (fun v i wx => ∃ k : Nat, k ≤ n ∧ i = .int .i64 k ∧ Hid (wx.ownsRow w.heap.size 3 1 v k ((latTo xs ys k).map (Value.int .i64))) ∧ Hid (Below w.heap.size w wx)) (fun _ i _ => n - (intOf i).toNat)
            case atStart => exact ⟨0, by omega, rfl, Lib.hid (World.ownsRow_nil _ _ _ _), HB2⟩
            case round =>
              obtain ⟨k, hk, rfl, HW, HB3⟩ := hrel
              by_cases hlt : k < n
              · have k0 : (0 : Int) ≤ (k : Int) := by omega
                have kn : (k : Int) < (n : Int) := by omega
                have hkx := ok_bounds HKX.out hlt
                have hky := ok_bounds HKY.out hlt
                have hws : IntKind.i64.wrap ((gc ys k).arr - (gc xs k).arr) = (gc ys k).arr - (gc xs k).arr := wrap64 (by omega) (by omega)
                have HLS := Lib.hid (lat_succ xs ys k)
                obtain ⟨b, o, hA, _⟩ := HX.out.at_ hlt
                subst hA
                obtain ⟨b', o', hA, _⟩ := HY.out.at_ hlt
                subst hA
                obtain ⟨c0, c1, c2, c3, c4⟩ := call_cells (HX.out.stays HB3.out) hlt
                obtain ⟨d0, d1, d2, d3, d4⟩ := call_cells (HY.out.stays HB3.out) hlt
                have hT : Two (wr.alloc (.cells #[.int .i64 (gc xs k).stop, .int .i64 (gc xs k).arr, .int .i64 (gc xs k).dep, .bool (gc xs k).board, .bool (gc xs k).alight] 41)).drew ⟨wr.heap.size, 1, none⟩ ⟨b', o' + k * 5 + 1, none⟩ (gc xs k).arr (gc ys k).arr := by
                  refine ⟨?_, (balloc (Below.refl _ wr) _ (Nat.le_refl _)).cell (cell?_block_lt d1) |>.trans d1⟩
                  exact (Box5.new wr (gc xs k) _ _ rfl).2.1
                have HW0 := Lib.hid (HW.out.alloc (.cells #[.int .i64 (gc xs k).stop, .int .i64 (gc xs k).arr, .int .i64 (gc xs k).dep, .bool (gc xs k).board, .bool (gc xs k).alight] 41))
                have HB0 := Lib.hid (balloc HB3.out (.cells #[.int .i64 (gc xs k).stop, .int .i64 (gc xs k).arr, .int .i64 (gc xs k).dep, .bool (gc xs k).board, .bool (gc xs k).alight] 41) (Nat.le_refl _))
                go_wp2
                obtain ⟨W0, hW0⟩ : ∃ W0, W0 = (wr.alloc (.cells #[.int .i64 (gc xs k).stop, .int .i64 (gc xs k).arr, .int .i64 (gc xs k).dep, .bool (gc xs k).board, .bool (gc xs k).alight] 41)) := ⟨_, rfl⟩
                rw [← hW0] at hT HW0 HB0
                rw [← hW0]
                clear hW0
                have hp1 := own_ne HW.out (p := wr.heap.size) (.inr (Nat.le_refl _))
                have hp2 := own_ne HW.out (p := b') (.inl (cell?_block_lt (call_cells HY.out hlt).1))
                go_region_held3 (fun u => u.cell? ⟨wr.heap.size, 1, none⟩ = some (.int .i64 (gc xs k).arr) ∧ u.cell? ⟨b', o' + k * 5 + 1, none⟩ = some (.int .i64 (gc ys k).arr)) ((first | exact hT | exact hT.stays (balloc (Below.refl _ _) _ (Nat.le_refl _)))) ((first | (refine step_append_own rfl (.tmp 47) (.tmp 56) 31 rfl w.heap.size 3 i0 (.int .i64 0) 1 8 Try.underlying31 hi hz0 hz1 hz2 rfl (by decide) _ k ((latTo xs ys k).map (Value.int .i64)) (by simp [Act.eval]) (show (World.alloc W0.drew _).ownsRow _ _ _ _ _ _ from (HW0.out.alloc _)) ⟨W0.heap.size, 0, none⟩ 1 1 [.int .i64 ((gc ys k).arr - (gc xs k).arr)] (by simp [Act.eval]) rfl (cell_one_new _ _ _) (by intro u hu; simp at hu; subst hu; rfl) (by unfold maxLen; omega) (by omega) (by have := HB0.out.size; simp; omega) ?_; intro v' w5 hown' hgrow _; have hT := (hT.stays (balloc (Below.refl _ _) _ (Nat.le_refl _))).app hgrow hp1 hp2)))
                have HB5 := Lib.hid (below_app (HB0.out.drew) HB0.out.size (Nat.le_refl _) HW0.out hgrow)
                have HW5 : Hid (w5.ownsRow w.heap.size 3 1 v' (k + 1) ((latTo xs ys (k + 1)).map (Value.int .i64))) := Lib.hid (by rw [HLS.out, List.map_append]; exact hown')
                clear hown' hgrow hT hp1 hp2 hws c0 c1 c2 c3 c4 d0 d1 d2 d3 d4
                go_wp2
                go_roundw
                case rel => exact ⟨k + 1, by omega, by go_num, HW5, HB5⟩
                case measure => simp [intOf]; omega
              · obtain rfl : k = n := by omega
                have hd : ¬ ((k : Int) < (k : Int)) := by omega
                go_wp2
                go_ret2
                exact LatRet.ok HF.out HW.out HB3.out
  · have hne : ((n : Int) != (m : Int)) = true := by rw [bne_iff_ne]; omega
    have HF := Lib.hid (lat_diff (xs := xs) (ys := ys) (by rw [HL.out, HM.out]; exact hl))
    go_enter Try.func14, Try.ntmps14
    go_wp2
    go_ret2
    exact LatRet.err HF.out r
end Go.Proofs.Ytackadjhgklieaa
