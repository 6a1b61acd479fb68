/-
  Calendars, exceptions and services, as they come in.
-/
import Derived.Test.YtjmjejpfilejdaaCalC
import Derived.OpenShut
import Derived.Lib.SmallJoins
namespace Go.Proofs.Ytjmjejpfilejdaa
open Go.ChangeShapes Go.WideShapes Go.RowKit
section
variable {H : Type} {enc : TypeId × Value → H} {w : World} {base : Nat} {spare : Nat → Bool} {held : Bool} {fuel : Nat} {cs : List Value} {x : DataW H × List MemPlace}
theorem list3 {l : List Value} (h : l.length = 3) : ∃ a b c, l = [a, b, c] := by
  match l, h with
  | [a, b, c], _ => exact ⟨a, b, c, rfl⟩
theorem list10 {l : List Value} (h : l.length = 10) : ∃ a b0 b1 b2 b3 b4 b5 b6 c d, l = [a, b0, b1, b2, b3, b4, b5, b6, c, d] := by
  match l, h with
  | [a, b0, b1, b2, b3, b4, b5, b6, c, d], _ => exact ⟨a, b0, b1, b2, b3, b4, b5, b6, c, d, rfl⟩
/-- seven bools -/
theorem week_of_trod {b0 b1 b2 b3 b4 b5 b6 : Value} (h : DataW.trod enc Try.prog w base spare held fuel 48 [b0, b1, b2, b3, b4, b5, b6] = some x) :
    ∃ f : Nat → Bool, b0 = .bool (f 0) ∧ b1 = .bool (f 1) ∧ b2 = .bool (f 2) ∧ b3 = .bool (f 3) ∧ b4 = .bool (f 4) ∧ b5 = .bool (f 5) ∧ b6 = .bool (f 6) := by
  obtain ⟨xs, m, _, _, _, hl, hf⟩ := DataW.trod_array Try.underlying48 h
  have c1 : Try.prog.cellsOf 4 = 1 := by kernel_rfl
  rw [c1] at hf
  have g : ∀ (i : Nat) (b : Value), i < 7 → (([b0, b1, b2, b3, b4, b5, b6] : List Value).drop (i * 1)).take 1 = [b] → ∃ v, b = .bool v := fun i b hi hb => by
    have h1 := hf i hi
    rw [hb, List.getElem?_eq_getElem (by omega)] at h1
    obtain ⟨v, e, _⟩ := DataW.trod_bool Try.underlying4 h1
    injection e with e
    exact ⟨v, e⟩
  obtain ⟨v0, e0⟩ := g 0 b0 (by omega) rfl
  obtain ⟨v1, e1⟩ := g 1 b1 (by omega) rfl
  obtain ⟨v2, e2⟩ := g 2 b2 (by omega) rfl
  obtain ⟨v3, e3⟩ := g 3 b3 (by omega) rfl
  obtain ⟨v4, e4⟩ := g 4 b4 (by omega) rfl
  obtain ⟨v5, e5⟩ := g 5 b5 (by omega) rfl
  obtain ⟨v6, e6⟩ := g 6 b6 (by omega) rfl
  exact ⟨fun d => [v0, v1, v2, v3, v4, v5, v6].getD d false, e0, e1, e2, e3, e4, e5, e6⟩
theorem cal_of_trod (h : DataW.trod enc Try.prog w base spare held fuel 50 cs = some x) : ∃ a : Cal, cs = calC.cs a ∧ a.id.size ≤ 9223372036854775807 := by
  obtain ⟨ys, n, _, _, hlen, hyl, hf⟩ := DataW.trod_struct Try.underlying50 h
  have c0 : Try.prog.cellsOf 50 = 10 := by kernel_rfl
  have c1 : Try.prog.cellsOf 9 = 1 := by kernel_rfl
  have c2 : Try.prog.cellsOf 48 = 7 := by kernel_rfl
  have c3 : Try.prog.cellsOf 3 = 1 := by kernel_rfl
  rw [c0] at hlen
  obtain ⟨a, b0, b1, b2, b3, b4, b5, b6, c, d, rfl⟩ := list10 hlen
  have hyl : ys.length = 4 := hyl
  have h0 : DataW.trod enc Try.prog w base spare held n 9 ([a, b0, b1, b2, b3, b4, b5, b6, c, d].take (Try.prog.cellsOf 9)) = ys[0]? := hf 0 _ rfl
  have h1 : DataW.trod enc Try.prog w base spare held n 48 ([b0, b1, b2, b3, b4, b5, b6, c, d].take (Try.prog.cellsOf 48)) = ys[1]? := hf 1 _ rfl
  have h2 : DataW.trod enc Try.prog w base spare held n 3 ([c, d].take (Try.prog.cellsOf 3)) = ys[2]? := hf 2 _ rfl
  have h3 : DataW.trod enc Try.prog w base spare held n 3 ([d].take (Try.prog.cellsOf 3)) = ys[3]? := hf 3 _ rfl
  rw [c1, List.getElem?_eq_getElem (by omega)] at h0
  rw [c2, List.getElem?_eq_getElem (by omega)] at h1
  rw [c3, List.getElem?_eq_getElem (by omega)] at h2 h3
  have h0 : DataW.trod enc Try.prog w base spare held n 9 [a] = _ := h0
  have h1 : DataW.trod enc Try.prog w base spare held n 48 [b0, b1, b2, b3, b4, b5, b6] = _ := h1
  have h2 : DataW.trod enc Try.prog w base spare held n 3 [c] = _ := h2
  have h3 : DataW.trod enc Try.prog w base spare held n 3 [d] = _ := h3
  obtain ⟨s, q0, _, hs⟩ := DataW.trod_string Try.underlying9 h0
  obtain ⟨f, q1, q2, q3, q4, q5, q6, q7⟩ := week_of_trod h1
  obtain ⟨p, q8, _⟩ := DataW.trod_int Try.underlying3 h2
  obtain ⟨q, q9, _⟩ := DataW.trod_int Try.underlying3 h3
  injection q0 with q0
  injection q8 with q8
  injection q9 with q9
  subst q0 q1 q2 q3 q4 q5 q6 q7 q8 q9
  exact ⟨⟨s, f, p, q⟩, rfl, by unfold maxLen at hs; exact hs⟩
theorem exc_of_trod (h : DataW.trod enc Try.prog w base spare held fuel 53 cs = some x) : ∃ a : Exc, cs = excC.cs a ∧ I64 a.cal ∧ I64 a.day := by
  obtain ⟨hl, hf⟩ := fields_of_trod Try.underlying53 (by kernel_rfl) (by kernel_rfl) h
  obtain ⟨a, b, c, rfl⟩ := list3 hl
  obtain ⟨v0, y0, n0, e0, h0⟩ := hf 0 _ rfl
  obtain ⟨v1, y1, n1, e1, h1⟩ := hf 1 _ rfl
  obtain ⟨v2, y2, n2, e2, h2⟩ := hf 2 _ rfl
  obtain ⟨s, q0, _, w0⟩ := DataW.trod_int Try.underlying3 h0
  obtain ⟨z, q1, _, w1⟩ := DataW.trod_int Try.underlying3 h1
  obtain ⟨f, q2, _⟩ := DataW.trod_bool Try.underlying4 h2
  simp only [List.getElem?_cons_zero, List.getElem?_cons_succ, Option.some.injEq] at e0 e1 e2
  injection q0 with q0
  injection q1 with q1
  injection q2 with q2
  subst e0 e1 e2 q0 q1 q2
  exact ⟨⟨s, z, f⟩, rfl, wf_int w0, wf_int w1⟩
theorem cals_of_trod {A : Option Addr} {len cap : Nat} (h : DataW.trod enc Try.prog w base spare held fuel 22 [.slice A len cap] = some x) : (∃ xs, SAt calC w A len xs ∧ SizedC xs) ∧ len ≤ cap :=
  sat_of_trod (C := calC) (fun s => s.id.size ≤ 9223372036854775807) Try.underlying22 (by kernel_rfl) (by decide) (fun _ _ _ h => cal_of_trod h) h
theorem excs_of_trod {A : Option Addr} {len cap : Nat} (h : DataW.trod enc Try.prog w base spare held fuel 30 [.slice A len cap] = some x) : (∃ xs, SAt excC w A len xs ∧ SizedX xs) ∧ len ≤ cap :=
  sat_of_trod (C := excC) (fun s => I64 s.cal ∧ I64 s.day) Try.underlying30 (by kernel_rfl) (by decide) (fun _ _ _ h => exc_of_trod h) h
theorem slice_of_trod {P : Program} {s t : TypeId} {v : Value} (hs : P.underlying s = some (.slice t)) (h : DataW.trod enc P w base spare held fuel s [v] = some x) : ∃ A n c, v = .slice A n c := by
  rcases Go.Deep.open_slice hs h with ⟨hcs, _⟩ | ⟨a, l, c, m, n, D, Pl, hcs, _⟩
  · injection hcs with hcs
    exact ⟨_, _, _, hcs⟩
  · injection hcs with hcs
    exact ⟨_, _, _, hcs⟩
/-- a service by value -/
theorem service_of {r : Reach} {b0 : Nat} {v : Value} {d : DataW H} {p : List MemPlace} (hv : Value.okWide Try.prog w r b0 35 v) (h : DataW.Trod enc Try.prog w base spare held 35 v d p) :
    ∃ (A : Option Addr) (n c : Nat) (l : List Cal) (B : Option Addr) (m g : Nat) (y : List Exc), v = .agg #[.slice A n c, .slice B m g] ∧ SAt calC w A n l ∧ SizedC l ∧ SAt excC w B m y ∧ SizedX y := by
  obtain ⟨v0, v1, y0, y1, k, rfl, _, _, h0, h1⟩ := Go.Joins.open_agg2 Try.underlying35 (by kernel_rfl) (by kernel_rfl) hv h
  obtain ⟨A, n, c, rfl⟩ := slice_of_trod Try.underlying22 h0
  obtain ⟨B, m, g, rfl⟩ := slice_of_trod Try.underlying30 h1
  obtain ⟨⟨l, h2, h3⟩, _⟩ := cals_of_trod h0
  obtain ⟨⟨y, h4, h5⟩, _⟩ := excs_of_trod h1
  exact ⟨A, n, c, l, B, m, g, y, rfl, h2, h3, h4, h5⟩
/-- a span by value -/
theorem span_of {r : Reach} {b0 : Nat} {v : Value} {d : DataW H} {p : List MemPlace} (hv : Value.okWide Try.prog w r b0 41 v) (h : DataW.Trod enc Try.prog w base spare held 41 v d p) :
    ∃ a b : Int, v = .agg #[.int .i64 a, .int .i64 b] := by
  obtain ⟨v0, v1, y0, y1, k, rfl, _, _, h0, h1⟩ := Go.Joins.open_agg2 Try.underlying41 (by kernel_rfl) (by kernel_rfl) hv h
  obtain ⟨a, q0, _⟩ := DataW.trod_int Try.underlying3 h0
  obtain ⟨b, q1, _⟩ := DataW.trod_int Try.underlying3 h1
  injection q0 with q0
  injection q1 with q1
  subst q0 q1
  exact ⟨a, b, rfl⟩
/-- an exception by value -/
theorem exception_of {r : Reach} {b0 : Nat} {v : Value} {d : DataW H} {p : List MemPlace} (hv : Value.okWide Try.prog w r b0 53 v) (h : DataW.Trod enc Try.prog w base spare held 53 v d p) :
    ∃ e : Exc, v = .agg (excA e) ∧ I64 e.cal ∧ I64 e.day := by
  obtain ⟨v0, v1, v2, y0, y1, y2, k, rfl, _, _, h0, h1, h2⟩ := Go.Joins.open_agg3 Try.underlying53 (by kernel_rfl) (by kernel_rfl) hv h
  obtain ⟨a, q0, _, w0⟩ := DataW.trod_int Try.underlying3 h0
  obtain ⟨b, q1, _, w1⟩ := DataW.trod_int Try.underlying3 h1
  obtain ⟨f, q2, _⟩ := DataW.trod_bool Try.underlying4 h2
  injection q0 with q0
  injection q1 with q1
  injection q2 with q2
  subst q0 q1 q2
  exact ⟨⟨a, b, f⟩, rfl, wf_int w0, wf_int w1⟩
end
end Go.Proofs.Ytjmjejpfilejdaa
