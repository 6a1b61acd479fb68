/-
  The root of a node: plain, and the closure that climbs to it. By hand.
-/
import Derived.Test.YtabhinmodnmllaaSqK
namespace Go.Proofs.Ytabhinmodnmllaa
open Go.RowKit

/-- up to f steps towards the root -/
def rootF (ps : List Int) : Nat → Nat → Nat
  | 0, i => i
  | f + 1, i => if gi ps i = (i : Int) then i else rootF ps f (gi ps i).toNat
def rt (ps : List Int) (i : Nat) : Nat := rootF ps i i
/-- no node lies above its parent -/
def Forest (ps : List Int) (n : Nat) : Prop := ps.length = n ∧ ∀ i, i < n → 0 ≤ gi ps i ∧ gi ps i ≤ (i : Int)
theorem rootF_fuel {ps : List Int} {n : Nat} (h : Forest ps n) (i : Nat) : ∀ f f', i ≤ f → i ≤ f' → i < n → rootF ps f i = rootF ps f' i := by
  induction i using Nat.strongRecOn with
  | ind i ih =>
    intro f f' h1 h2 hi
    have hb := h.2 i hi
    cases f with
    | zero =>
      obtain rfl : i = 0 := by omega
      cases f' with
      | zero => rfl
      | succ f' =>
        rw [rootF, rootF, if_pos (by omega)]
    | succ f =>
      cases f' with
      | zero =>
        obtain rfl : i = 0 := by omega
        rw [rootF, rootF, if_pos (by omega)]
      | succ f' =>
        rw [rootF, rootF]
        by_cases e : gi ps i = (i : Int)
        · rw [if_pos e, if_pos e]
        · rw [if_neg e, if_neg e]
          exact ih _ (by omega) f f' (by omega) (by omega) (by omega)
theorem rt_root {ps : List Int} {i : Nat} (e : gi ps i = (i : Int)) : rt ps i = i := by
  unfold rt
  cases i with
  | zero => rfl
  | succ i => rw [rootF, if_pos e]
theorem rt_step {ps : List Int} {n i : Nat} (h : Forest ps n) (hi : i < n) (e : ¬ gi ps i = (i : Int)) : rt ps i = rt ps (gi ps i).toNat := by
  have hb := h.2 i hi
  unfold rt
  cases i with
  | zero => omega
  | succ i =>
    rw [rootF, if_neg e]
    exact rootF_fuel h _ _ _ (by omega) (Nat.le_refl _) (by omega)
theorem rt_fix {ps : List Int} {n : Nat} (h : Forest ps n) (i : Nat) : i < n → rt ps i ≤ i ∧ gi ps (rt ps i) = (rt ps i : Int) := by
  induction i using Nat.strongRecOn with
  | ind i ih =>
    intro hi
    have hb := h.2 i hi
    by_cases e : gi ps i = (i : Int)
    · rw [rt_root e]
      exact ⟨Nat.le_refl _, e⟩
    · rw [rt_step h hi e]
      have := ih (gi ps i).toNat (by omega) (by omega)
      exact ⟨by omega, this.2⟩
/-- two roots become one -/
theorem forest_set {ps : List Int} {n M m : Nat} (h : Forest ps n) (hM : M < n) (hm : m ≤ M) : Forest (ps.set M (m : Int)) n := by
  refine ⟨by rw [List.length_set]; exact h.1, fun i hi => ?_⟩
  rw [gi_put (by rw [h.1]; exact hM)]
  have := h.2 i hi
  split <;> omega
theorem rt_set {ps : List Int} {n M m : Nat} (h : Forest ps n) (hM : M < n) (hm : m ≤ M) (e1 : gi ps M = (M : Int)) (e2 : gi ps m = (m : Int)) (i : Nat) : i < n → rt (ps.set M (m : Int)) i = if rt ps i = M then m else rt ps i := by
  have hf := forest_set h hM hm
  have hat : ∀ j, gi (ps.set M (m : Int)) j = if j = M then (m : Int) else gi ps j := fun j => gi_put (by rw [h.1]; exact hM) _
  induction i using Nat.strongRecOn with
  | ind i ih =>
    intro hi
    have hb := h.2 i hi
    by_cases e : i = M
    · subst e
      rw [rt_root e1, if_pos rfl]
      by_cases e3 : m = i
      · subst e3
        exact rt_root (by rw [hat, if_pos rfl])
      · rw [rt_step hf hi (by rw [hat, if_pos rfl]; omega), hat, if_pos rfl, Int.toNat_natCast]
        exact rt_root (by rw [hat, if_neg e3]; exact e2)
    · by_cases e3 : gi ps i = (i : Int)
      · rw [rt_root e3, if_neg e, rt_root (by rw [hat, if_neg e]; exact e3)]
      · rw [rt_step h hi e3, rt_step hf hi (by rw [hat, if_neg e]; exact e3), hat, if_neg e]
        exact ih _ (by omega) (by omega)
/-- the parents hold the roots -/
def Par (ps rs : List Int) (n : Nat) : Prop := Forest ps n ∧ ∀ i, i < n → gi rs i = (rt ps i : Int)
theorem Par.start (n : Nat) : Par (idL n) (idL n) n := by
  refine ⟨⟨idL_len n, fun i hi => by rw [idL_at hi]; omega⟩, fun i hi => ?_⟩
  rw [rt_root (idL_at hi), idL_at hi]
theorem Par.step {ps rs : List Int} {n s d : Nat} {wt : Int} (h : Par ps rs n) (hl : rs.length = n) (hs : s < n) (hd : d < n) : Par (ps.set (max (rt ps s) (rt ps d)) ((min (rt ps s) (rt ps d) : Nat) : Int)) (joinR rs ⟨(s : Int), (d : Int), wt⟩) n := by
  obtain ⟨hf, hr⟩ := h
  obtain ⟨s1, s2⟩ := rt_fix hf s hs
  obtain ⟨d1, d2⟩ := rt_fix hf d hd
  have hM : max (rt ps s) (rt ps d) < n := by omega
  have hm : min (rt ps s) (rt ps d) ≤ max (rt ps s) (rt ps d) := by omega
  refine ⟨forest_set hf hM hm, fun i hi => ?_⟩
  rw [rt_set hf hM hm (by rcases Nat.le_total (rt ps s) (rt ps d) with h | h; rw [Nat.max_eq_right h]; exact d2; rw [Nat.max_eq_left h]; exact s2) (by rcases Nat.le_total (rt ps s) (rt ps d) with h | h; rw [Nat.min_eq_left h]; exact s2; rw [Nat.min_eq_right h]; exact d2) i hi, joinR_at (by omega)]
  show (if gi rs i = max (gi rs (Int.toNat (s : Int))) (gi rs (Int.toNat (d : Int))) then min (gi rs (Int.toNat (s : Int))) (gi rs (Int.toNat (d : Int))) else gi rs i) = _
  rw [Int.toNat_natCast, Int.toNat_natCast, hr i hi, hr s hs, hr d hd]
  split <;> split <;> omega

set_option maxRecDepth 100000 in
set_option maxHeartbeats 1000000 in
theorem first_any (i n c : Nat) (g P : Nat) (ps : List Int) (w : World) (hf : Forest ps n) (hi : i < n) (hP : w.cell? ⟨P, 0, none⟩ = some (.slice (some ⟨g, 0, none⟩) n c)) (hx : SAt intC w (some ⟨g, 0, none⟩) n ps) :
    Calls Try.prog 29 #[.int .i64 i, .pointer (some ⟨P, 0, none⟩)] w fun e w' => e = .returned (.int .i64 (rt ps i)) ∧ w = w' := by
  have HX := Lib.hid hx
  have HF := Lib.hid hf
  clear hx hf
  go_enter Try.func29, Try.ntmps29
  go_wp2
  go_step3
  go_wp2
  go_step3
  go_wp2
  go_loopg [0] (i + 1) (fun g s wr => ∃ k : Nat, k < g ∧ k < n ∧ s = .int .i64 k ∧ Hid (rt ps k = rt ps i) ∧ wr = w)
  case atStart => exact ⟨i, by omega, hi, rfl, Lib.hid rfl, rfl⟩
  case round =>
    obtain ⟨k, hkg, hkn, rfl, HR, rfl⟩ := hrel
    have k0 : (0 : Int) ≤ (k : Int) := by omega
    have k1 : (k : Int) < (n : Int) := by omega
    have q0 : wr.cell? ⟨g, k, none⟩ = some (.int .i64 (gi ps k)) := by have := HX.out.cells hkn 0 _ rfl; simpa [intC, Codec.g, gi] using this
    have hb := HF.out.2 k hkn
    have HST := fun e => Lib.hid (rt_step HF.out hkn e)
    have HRT := fun e => Lib.hid (rt_root (ps := ps) (i := k) e)
    obtain ⟨f, hf⟩ : ∃ f : Nat, gi ps k = (f : Int) := ⟨(gi ps k).toNat, by omega⟩
    rw [hf] at q0 hb HST HRT
    clear hf
    by_cases e : f = k
    · subst e
      have HR2 := HRT rfl
      clear HST HRT
      go_wp2
      rw [Exit.noGoto_ret]
      go_ret
      exact ⟨ret_int (by have h1 := HR.out; have h2 := HR2.out; omega), rfl⟩
    · have e1 : ¬ (f : Int) = (k : Int) := by omega
      have e2 : ((f : Int) == (k : Int)) = false := by simpa using e1
      have HR2 := HST e1
      clear HST HRT
      go_wp2
      go_roundg k
      case measure => omega
      case rel => exact ⟨f, by omega, by omega, rfl, Lib.hid (by rw [← HR.out, HR2.out, Int.toNat_natCast]), rfl⟩
end Go.Proofs.Ytabhinmodnmllaa
