/-
  The examples of the chapter on delays.
-/
import Derived.Test.YtackadjhgklieaaDl6
import Derived.Test.YtackadjhgklieaaLex
namespace Go.Proofs.Ytackadjhgklieaa
open Go.RowKit

def exC : List Call := [⟨0, 0, 10, false, false⟩, ⟨1, 100, 400, false, false⟩, ⟨2, 500, 520, false, false⟩, ⟨3, 600, 600, false, false⟩]
def exP : List Call := [⟨0, 0, 10, false, false⟩, ⟨1, 400, 430, false, false⟩, ⟨2, 530, 550, false, false⟩, ⟨3, 630, 630, false, false⟩]
def exQ : List Call := [⟨0, 0, 10, false, false⟩, ⟨1, 100, 400, false, false⟩, ⟨2, 505, 525, false, false⟩, ⟨3, 605, 605, false, false⟩]
def exR : List Call := [⟨0, 0, 10, false, false⟩, ⟨1, 10, 400, false, false⟩, ⟨2, 500, 520, false, false⟩, ⟨3, 600, 600, false, false⟩]
theorem exP_eq : propE exC 1 300 = 0 ∧ propL exC 1 300 = exP := ⟨by kernel_rfl, by kernel_rfl⟩
theorem exQ_eq : propE exC 2 5 = 0 ∧ propL exC 2 5 = exQ := ⟨by kernel_rfl, by kernel_rfl⟩
theorem exR_eq : propE exC 1 (-200) = 0 ∧ propL exC 1 (-200) = exR := ⟨by kernel_rfl, by kernel_rfl⟩
theorem exS_eq : propE exC 4 1 = 1 ∧ propL exC 4 1 = [] := ⟨by kernel_rfl, by kernel_rfl⟩
theorem exT_eq : propE exC 3 43201 = 2 ∧ propL exC 3 43201 = [] := ⟨by kernel_rfl, by kernel_rfl⟩
theorem exRec1 : recI exC 1 240 = 1 ∧ recB exC 1 240 = true := ⟨by kernel_rfl, by kernel_rfl⟩
theorem exRec2 : recI exC 1 300 = 0 ∧ recB exC 1 300 = false := ⟨by kernel_rfl, by kernel_rfl⟩
theorem exSl1 : slackI exC 1 = 270 ∧ slackB exC 1 = true := ⟨by kernel_rfl, by kernel_rfl⟩
theorem exSl2 : slackI exC 2 = 0 ∧ slackB exC 2 = true := ⟨by kernel_rfl, by kernel_rfl⟩
theorem exLat : latE exC exP = 0 ∧ latL exC exP = [0, 300, 30, 30] := ⟨by kernel_rfl, by kernel_rfl⟩

theorem example_fn (w : World) : Calls Try.prog 20 #[] w fun e w' => e = .returned (.slice (some ⟨w.heap.size, 0, none⟩) 4 4) ∧ w' = w.alloc (.cells #[.int .i64 0, .int .i64 0, .int .i64 10, .bool false, .bool false, .int .i64 1, .int .i64 100, .int .i64 400, .bool false, .bool false, .int .i64 2, .int .i64 500, .int .i64 520, .bool false, .bool false, .int .i64 3, .int .i64 600, .int .i64 600, .bool false, .bool false] 41) := by
  go_enter Try.func20, Try.ntmps20
  go_wp2
  go_ret
  exact ⟨rfl, rfl⟩
theorem ex_at (w : World) : SAt callC (w.alloc (.cells #[.int .i64 0, .int .i64 0, .int .i64 10, .bool false, .bool false, .int .i64 1, .int .i64 100, .int .i64 400, .bool false, .bool false, .int .i64 2, .int .i64 500, .int .i64 520, .bool false, .bool false, .int .i64 3, .int .i64 600, .int .i64 600, .bool false, .bool false] 41)) (some ⟨w.heap.size, 0, none⟩) 4 exC := SAt.own (own_lit callC w 0 (by omega) exC 4 #[.int .i64 0, .int .i64 0, .int .i64 10, .bool false, .bool false, .int .i64 1, .int .i64 100, .int .i64 400, .bool false, .bool false, .int .i64 2, .int .i64 500, .int .i64 520, .bool false, .bool false, .int .i64 3, .int .i64 600, .int .i64 600, .bool false, .bool false] rfl rfl (by unfold maxLen; omega) _) (by decide)
theorem ex_prop {at_ s f : Int} {L : List Call} (h : propE exC at_ s = f ∧ propL exC at_ s = L) (A : Option Addr) (c : Nat) (w : World) (hx : SAt callC w A 4 exC) :
    Calls Try.prog 11 #[.slice A 4 c, .int .i64 at_, .int .i64 s] w fun e w' => ∃ v, e = .returned (.tuple #[v, .int .i64 f]) ∧ w'.ownsRow w.heap.size 41 callC.sz v L.length (callC.all L) ∧ Below w.heap.size w w' := by
  have := prop_any A 4 c exC at_ s w hx (by omega)
  unfold PropRet at this
  rw [h.1, h.2] at this
  exact this
theorem ex_rec {at_ s i : Int} {b : Bool} (h : recI exC at_ s = i ∧ recB exC at_ s = b) (A : Option Addr) (c : Nat) (w : World) (hx : SAt callC w A 4 exC) (hc : 4 ≤ c) :
    Calls Try.prog 18 #[.slice A 4 c, .int .i64 at_, .int .i64 s] w fun e w' => e = .returned (.tuple #[.int .i64 i, .bool b]) ∧ Below w.heap.size w w' := by
  have := rec_any A 4 c exC at_ s w hx (by omega) hc
  rw [h.1, h.2] at this
  exact this
theorem ex_slack {at_ i : Int} {b : Bool} (h : slackI exC at_ = i ∧ slackB exC at_ = b) (A : Option Addr) (c : Nat) (w : World) (hx : SAt callC w A 4 exC) :
    Calls Try.prog 16 #[.slice A 4 c, .int .i64 at_] w fun e w' => e = .returned (.tuple #[.int .i64 i, .bool b]) ∧ Below w.heap.size w w' := by
  have := slack_any A 4 c exC at_ w hx (by omega)
  rw [h.1, h.2] at this
  exact this
theorem ex_lat (A B : Option Addr) (c d : Nat) (w : World) (hx : SAt callC w A 4 exC) (hy : SAt callC w B 4 exP) :
    Calls Try.prog 14 #[.slice A 4 c, .slice B 4 d] w fun e w' => ∃ (g c' : Nat), e = .returned (.tuple #[.slice (some ⟨g, 0, none⟩) 4 c', .int .i64 0]) ∧ IntsAt w' (some ⟨g, 0, none⟩) 4 [0, 300, 30, 30] ∧ Below w.heap.size w w' := by
  refine (lat_any A B 4 4 c d exC exP w hx hy (by omega) (by omega)).mono ?_
  rintro e w' ⟨A', c', rfl, hi, hb, hg⟩
  rw [exLat.2] at hi hg
  obtain ⟨g, rfl⟩ := hg (by decide)
  exact ⟨g, c', by rw [exLat.1, exLat.2]; rfl, hi, hb⟩
theorem own_form {w : World} {base e size n : Nat} {v : Value} {xs : List Value} (h : w.ownsRow base e size v n xs) (hn : 0 < n) : ∃ g c, v = .slice (some ⟨g, 0, none⟩) n c := by
  obtain ⟨g, cap, hv, _, _⟩ := h.form hn
  exact ⟨g, cap, hv⟩

set_option maxRecDepth 100000 in
set_option maxHeartbeats 8000000 in
theorem example_any (w : World) : Calls Try.prog 10 #[] w fun e w' => e = .returned (.bool true) ∧ Below w.heap.size w w' := by
  have r := Nat.le_refl w.heap.size
  obtain ⟨B, hB⟩ : ∃ B, B = w.heap.size := ⟨_, rfl⟩
  have HBE := Lib.hid hB
  go_enter Try.func10, Try.ntmps10
  go_wp2_with fail
  refine (example_fn _).mono ?_
  rintro e w1 ⟨rfl, hw1⟩
  have HL : Hid (SAt callC w1 (some ⟨B, 0, none⟩) 4 exC) := Lib.hid (by rw [hw1, hB]; exact ex_at w)
  have HB : Hid (Below w.heap.size w w1) := Lib.hid (by rw [hw1]; exact balloc (Below.refl _ w) _ r)
  rw [← hB]
  clear hw1 hB
  go_wp2_with fail
  refine (ex_prop exP_eq _ _ _ HL.out).mono ?_
  rintro e w2 ⟨v, rfl, hr, hb⟩
  have HL := Lib.hid (HL.out.stays hb)
  have HB := Lib.hid (bthen HB.out hb r)
  clear hb
  obtain ⟨gP, cP, rfl⟩ := own_form hr (by decide)
  have OP := Lib.hid hr
  clear hr
  go_wp2_with fail
  refine (ex_prop exQ_eq _ _ _ HL.out).mono ?_
  rintro e w3 ⟨v, rfl, hr, hb⟩
  have HL := Lib.hid (HL.out.stays hb)
  have OP := Lib.hid (ownsRow_stays OP.out hb)
  have HB := Lib.hid (bthen HB.out hb r)
  clear hb
  obtain ⟨gQ, cQ, rfl⟩ := own_form hr (by decide)
  have OQ := Lib.hid hr
  clear hr
  go_wp2_with fail
  refine (ex_prop exR_eq _ _ _ HL.out).mono ?_
  rintro e w4 ⟨v, rfl, hr, hb⟩
  have HL := Lib.hid (HL.out.stays hb)
  have OP := Lib.hid (ownsRow_stays OP.out hb)
  have OQ := Lib.hid (ownsRow_stays OQ.out hb)
  have HB := Lib.hid (bthen HB.out hb r)
  clear hb
  obtain ⟨gR, cR, rfl⟩ := own_form hr (by decide)
  have OR := Lib.hid hr
  clear hr
  simp only [show exP.length = 4 from rfl, show exQ.length = 4 from rfl, show exR.length = 4 from rfl] at OP OQ OR ⊢
  go_wp2_with fail
  refine (ex_rec exRec1 _ _ _ HL.out (by omega)).mono ?_
  rintro e w5 ⟨rfl, hb⟩
  have HL := Lib.hid (HL.out.stays hb)
  have OP := Lib.hid (ownsRow_stays OP.out hb)
  have OQ := Lib.hid (ownsRow_stays OQ.out hb)
  have OR := Lib.hid (ownsRow_stays OR.out hb)
  have HB := Lib.hid (bthen HB.out hb r)
  have HBx := hb
  clear hb
  go_wp2_with fail
  refine (ex_rec exRec2 _ _ _ HL.out (by omega)).mono ?_
  rintro e w6 ⟨rfl, hb⟩
  have HL := Lib.hid (HL.out.stays hb)
  have OP := Lib.hid (ownsRow_stays OP.out hb)
  have OQ := Lib.hid (ownsRow_stays OQ.out hb)
  have OR := Lib.hid (ownsRow_stays OR.out hb)
  have HB := Lib.hid (bthen HB.out hb r)
  have HBx := hb
  clear hb
  go_wp2_with fail
  refine (ex_slack exSl1 _ _ _ HL.out).mono ?_
  rintro e w7 ⟨rfl, hb⟩
  have HL := Lib.hid (HL.out.stays hb)
  have OP := Lib.hid (ownsRow_stays OP.out hb)
  have OQ := Lib.hid (ownsRow_stays OQ.out hb)
  have OR := Lib.hid (ownsRow_stays OR.out hb)
  have HB := Lib.hid (bthen HB.out hb r)
  have HBx := hb
  clear hb
  go_wp2_with fail
  refine (ex_slack exSl2 _ _ _ HL.out).mono ?_
  rintro e w8 ⟨rfl, hb⟩
  have HL := Lib.hid (HL.out.stays hb)
  have OP := Lib.hid (ownsRow_stays OP.out hb)
  have OQ := Lib.hid (ownsRow_stays OQ.out hb)
  have OR := Lib.hid (ownsRow_stays OR.out hb)
  have HB := Lib.hid (bthen HB.out hb r)
  have HBx := hb
  clear hb
  go_wp2_with fail
  refine (ex_lat _ _ _ _ _ HL.out (SAt.own OP.out (by decide))).mono ?_
  rintro e w9 ⟨gD, cD, rfl, hD, hb⟩
  have HL := Lib.hid (HL.out.stays hb)
  have OP := Lib.hid (ownsRow_stays OP.out hb)
  have OQ := Lib.hid (ownsRow_stays OQ.out hb)
  have OR := Lib.hid (ownsRow_stays OR.out hb)
  have HB := Lib.hid (bthen HB.out hb r)
  have HBx := hb
  clear hb
  have HD := Lib.hid hD
  clear hD
  go_wp2_with fail
  refine (ex_prop exS_eq _ _ _ HL.out).mono ?_
  rintro e w10 ⟨v, rfl, hr, hb⟩
  have HL := Lib.hid (HL.out.stays hb)
  have OP := Lib.hid (ownsRow_stays OP.out hb)
  have OQ := Lib.hid (ownsRow_stays OQ.out hb)
  have OR := Lib.hid (ownsRow_stays OR.out hb)
  have HB := Lib.hid (bthen HB.out hb r)
  have HBx := hb
  clear hb
  clear hr
  have HD := Lib.hid (HD.out.stays (show Below w9.heap.size w9 w10 from HBx))
  go_wp2_with fail
  refine (ex_prop exT_eq _ _ _ HL.out).mono ?_
  rintro e w11 ⟨v, rfl, hr, hb⟩
  have HL := Lib.hid (HL.out.stays hb)
  have OP := Lib.hid (ownsRow_stays OP.out hb)
  have OQ := Lib.hid (ownsRow_stays OQ.out hb)
  have OR := Lib.hid (ownsRow_stays OR.out hb)
  have HB := Lib.hid (bthen HB.out hb r)
  have HBx := hb
  clear hb
  clear hr
  have HD := Lib.hid (HD.out.stays (show Below w10.heap.size w10 w11 from HBx))
  have zC0 : w11.cell? ⟨B, 0, none⟩ = some (.int .i64 0) := HL.out.cells (k := 0) (by omega) 0 _ rfl
  have zC1 : w11.cell? ⟨B, 1, none⟩ = some (.int .i64 0) := HL.out.cells (k := 0) (by omega) 1 _ rfl
  have zC2 : w11.cell? ⟨B, 2, none⟩ = some (.int .i64 10) := HL.out.cells (k := 0) (by omega) 2 _ rfl
  have zC3 : w11.cell? ⟨B, 3, none⟩ = some (.bool false) := HL.out.cells (k := 0) (by omega) 3 _ rfl
  have zC4 : w11.cell? ⟨B, 4, none⟩ = some (.bool false) := HL.out.cells (k := 0) (by omega) 4 _ rfl
  have zP0 : w11.cell? ⟨gP, 0, none⟩ = some (.int .i64 0) := OP.out.cellAt 0 (by decide)
  have zP1 : w11.cell? ⟨gP, 1, none⟩ = some (.int .i64 0) := OP.out.cellAt 1 (by decide)
  have zP2 : w11.cell? ⟨gP, 2, none⟩ = some (.int .i64 10) := OP.out.cellAt 2 (by decide)
  have zP3 : w11.cell? ⟨gP, 3, none⟩ = some (.bool false) := OP.out.cellAt 3 (by decide)
  have zP4 : w11.cell? ⟨gP, 4, none⟩ = some (.bool false) := OP.out.cellAt 4 (by decide)
  have zP6 : w11.cell? ⟨gP, 6, none⟩ = some (.int .i64 400) := OP.out.cellAt 6 (by decide)
  have zP7 : w11.cell? ⟨gP, 7, none⟩ = some (.int .i64 430) := OP.out.cellAt 7 (by decide)
  have zP11 : w11.cell? ⟨gP, 11, none⟩ = some (.int .i64 530) := OP.out.cellAt 11 (by decide)
  have zP12 : w11.cell? ⟨gP, 12, none⟩ = some (.int .i64 550) := OP.out.cellAt 12 (by decide)
  have zP16 : w11.cell? ⟨gP, 16, none⟩ = some (.int .i64 630) := OP.out.cellAt 16 (by decide)
  have zP17 : w11.cell? ⟨gP, 17, none⟩ = some (.int .i64 630) := OP.out.cellAt 17 (by decide)
  have zQ11 : w11.cell? ⟨gQ, 11, none⟩ = some (.int .i64 505) := OQ.out.cellAt 11 (by decide)
  have zQ12 : w11.cell? ⟨gQ, 12, none⟩ = some (.int .i64 525) := OQ.out.cellAt 12 (by decide)
  have zQ16 : w11.cell? ⟨gQ, 16, none⟩ = some (.int .i64 605) := OQ.out.cellAt 16 (by decide)
  have zR6 : w11.cell? ⟨gR, 6, none⟩ = some (.int .i64 10) := OR.out.cellAt 6 (by decide)
  have zR7 : w11.cell? ⟨gR, 7, none⟩ = some (.int .i64 400) := OR.out.cellAt 7 (by decide)
  have zD0 : w11.cell? ⟨gD, 0, none⟩ = some (.int .i64 0) := HD.out.at_ 0 (by omega)
  have zD1 : w11.cell? ⟨gD, 1, none⟩ = some (.int .i64 300) := HD.out.at_ 1 (by omega)
  have zD3 : w11.cell? ⟨gD, 3, none⟩ = some (.int .i64 30) := HD.out.at_ 3 (by omega)
  have heq := eql_call ⟨0, 0, 10, false, false⟩ ⟨0, 0, 10, false, false⟩
  rw [show eqC ⟨0, 0, 10, false, false⟩ ⟨0, 0, 10, false, false⟩ = true by rfl] at heq
  clear HBx
  go_wp2
  refine wp_region_quiet_long 90 0 (by kernel_rfl) (by kernel_rfl) (by kernel_rfl) ?_
  dsimp only [List.append]
  iterate 30 (go_big_quiet_step (fail))
  as_aux_lemma =>
    iterate 30 (go_big_quiet_step (fail))
    as_aux_lemma =>
      iterate 30 (go_big_quiet_step (fail))
      as_aux_lemma =>
        iterate 30 (go_big_quiet_step (fail))
        as_aux_lemma =>
          repeat (go_big_quiet_step (fail))
          refine wpQuiet_nil ?_
          intro _ hw'
          obtain ⟨nq, hw''⟩ := hw'
          subst hw''
          go_wp2
          go_ret
          exact ⟨rfl, bdrewN HB.out _⟩
end Go.Proofs.Ytackadjhgklieaa
