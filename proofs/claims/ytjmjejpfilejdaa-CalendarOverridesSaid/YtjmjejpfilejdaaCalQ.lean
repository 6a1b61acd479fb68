/-
  Ranges of active days, weeks, overrides: plain lists, no program in sight. A box of values.
-/
import Derived.Test.YtjmjejpfilejdaaCalP
namespace Go.Proofs.Ytjmjejpfilejdaa
open Go.RowKit

/-- block b holds the values -/
def BoxV (u : World) (b : Nat) (vs : List Value) : Prop := ∀ j v, vs[j]? = some v → u.cell? ⟨b, j, none⟩ = some v
theorem BoxV.new (w : World) (cs : Array Value) (t : TypeId) : BoxV (w.alloc (.cells cs t)) w.heap.size cs.toList := by
  intro j v h
  rw [World.cell?_alloc_at _ _ _ _ rfl, ← h]
  simp
theorem BoxV.stays {w w' : World} {b : Nat} {vs : List Value} (h : BoxV w b vs) (hb : Below w.heap.size w w') : BoxV w' b vs := fun j v hv => (hb.cell (cell?_block_lt (h j v hv))).trans (h j v hv)
theorem BoxV.drewN {w : World} {b : Nat} {vs : List Value} (h : BoxV w b vs) (m : Nat) : BoxV (w.drewN m) b vs := h

section
variable {l : List Cal} {x : List Exc} {i t : Int}
theorem act_pre (k : Nat) : ∀ m, k ≤ m → ∃ r, actTo l x i t m = actTo l x i t k ++ r := by
  intro m
  induction m with
  | zero => intro h; obtain rfl : k = 0 := by omega
            exact ⟨[], by simp⟩
  | succ m ih =>
    intro h
    by_cases e : k = m + 1
    · subst e; exact ⟨[], by simp⟩
    · obtain ⟨r, hr⟩ := ih (by omega)
      rw [act_step, hr]
      split
      · exact ⟨r ++ [t + (m : Int)], by rw [List.append_assoc]⟩
      · exact ⟨r, rfl⟩
theorem act_at {k m : Nat} (hk : k < m) (ha : actB l x i (t + (k : Int)) = true) : (actTo l x i t k).length < (actTo l x i t m).length ∧ gi (actTo l x i t m) (actTo l x i t k).length = t + (k : Int) := by
  obtain ⟨r, hr⟩ := act_pre (l := l) (x := x) (i := i) (t := t) (k + 1) m (by omega)
  rw [act_step, if_pos ha] at hr
  rw [hr]
  constructor
  · simp
  · simp [gi]
theorem act_none {m : Nat} (h : actTo l x i t m = []) : ∀ k, k < m → actB l x i (t + (k : Int)) = false := by
  intro k hk
  cases ha : actB l x i (t + (k : Int))
  · rfl
  · have := (act_at hk ha).1
    rw [h] at this
    simp at this
theorem act_head : ∀ m, actTo l x i t m ≠ [] → ∃ k, k < m ∧ actB l x i (t + (k : Int)) = true ∧ (∀ j, j < k → actB l x i (t + (j : Int)) = false) ∧ gi (actTo l x i t m) 0 = t + (k : Int) := by
  intro m
  induction m with
  | zero => intro h; exact absurd rfl h
  | succ m ih =>
    intro h
    by_cases h0 : actTo l x i t m = []
    · rw [act_step, h0] at h ⊢
      split at h
      · rename_i ha
        refine ⟨m, by omega, ha, fun j hj => act_none h0 j hj, ?_⟩
        rw [if_pos ha]
        rfl
      · exact absurd rfl h
    · obtain ⟨k, hk, ha, hb, hg⟩ := ih h0
      refine ⟨k, by omega, ha, hb, ?_⟩
      rw [← hg, act_step]
      split
      · unfold gi
        rw [List.getD_eq_getElem?_getD, List.getD_eq_getElem?_getD, List.getElem?_append_left (List.length_pos_iff.2 h0)]
      · rfl
theorem act_last : ∀ m, actTo l x i t m ≠ [] → ∃ k, k < m ∧ actB l x i (t + (k : Int)) = true ∧ (∀ j, k < j → j < m → actB l x i (t + (j : Int)) = false) ∧ gi (actTo l x i t m) ((actTo l x i t m).length - 1) = t + (k : Int) := by
  intro m
  induction m with
  | zero => intro h; exact absurd rfl h
  | succ m ih =>
    intro h
    cases ha : actB l x i (t + (m : Int))
    · have he : actTo l x i t (m + 1) = actTo l x i t m := by rw [act_step, ha]; rfl
      rw [he] at h ⊢
      obtain ⟨k, hk, h1, h2, h3⟩ := ih h
      refine ⟨k, by omega, h1, fun j hj hm => ?_, h3⟩
      by_cases e : j = m
      · subst e; exact ha
      · exact h2 j hj (by omega)
    · refine ⟨m, by omega, ha, fun j h1 h2 => absurd h1 (by omega), ?_⟩
      rw [act_step, if_pos ha]
      simp [gi]
end
/-- what a statement asks of a range -/
theorem range_empty {l : List Cal} {x : List Exc} {i t u : Int} (h0 : 0 ≤ t) (h1 : u ≤ 36524) (h2 : t ≤ u) (h : actTo l x i t (u + 1 - t).toNat = []) :
    (nextB l x i t = false ∨ u < nextI l x i t) ∧ (prevB l x i u = false ∨ prevI l x i u < t) := by
  have hlo : loI t = t := (lo_parts t).2.1 h0
  have hhi : hiI u = u := (hi_parts u).2.1 h1
  constructor
  · cases hb : nextB l x i t
    · exact Or.inl rfl
    · right
      unfold nextB at hb
      have hb := of_decide_eq_true hb
      have hit := firstN_hit (p := fun k => actB l x i (loI t + k)) hb
      unfold nextI
      rw [if_pos hb]
      have hit : actB l x i (loI t + nextN l x i t) = true := hit
      rw [hlo] at hit ⊢
      have hge : ¬ nextN l x i t < (u + 1 - t).toNat := fun hlt => by
        have := act_none h _ hlt
        rw [this] at hit
        cases hit
      omega
  · cases hb : prevB l x i u
    · exact Or.inl rfl
    · right
      unfold prevB at hb
      have hb := of_decide_eq_true hb
      have hit := firstN_hit (p := fun k => actB l x i (hiI u - k)) hb
      unfold prevI
      rw [if_pos hb]
      have hit : actB l x i (hiI u - prevN l x i u) = true := hit
      rw [hhi] at hit hb ⊢
      have hge : ¬ t ≤ u - (prevN l x i u : Int) := fun hlt => by
        have := act_none h (u - (prevN l x i u : Int) - t).toNat (by omega)
        rw [show t + ((u - (prevN l x i u : Int) - t).toNat : Int) = u - (prevN l x i u : Int) by omega, hit] at this
        cases this
      omega
theorem range_full {l : List Cal} {x : List Exc} {i t u : Int} (h0 : 0 ≤ t) (h1 : u ≤ 36524) (h : actTo l x i t (u + 1 - t).toNat ≠ []) :
    nextB l x i t = true ∧ nextI l x i t = gi (actTo l x i t (u + 1 - t).toNat) 0 ∧ prevB l x i u = true ∧ prevI l x i u = gi (actTo l x i t (u + 1 - t).toNat) ((actTo l x i t (u + 1 - t).toNat).length - 1) := by
  have hlo : t = loI t := ((lo_parts t).2.1 h0).symm
  have hhi : u = hiI u := ((hi_parts u).2.1 h1).symm
  obtain ⟨k, hk, ha, hb, hg⟩ := act_head _ h
  obtain ⟨m, hm, hc, hd, he⟩ := act_last _ h
  have n1 := next_at (d := t) hlo (v := t + (k : Int)) (by omega) ⟨by omega, fun e h3 h4 => by
    have := hb (e - t).toNat (by omega)
    rwa [show t + ((e - t).toNat : Int) = e by omega] at this⟩ ha
  have p1 := prev_at (d := u) hhi (v := t + (m : Int)) (by omega) ⟨by omega, fun e h3 h4 => by
    have := hd (e - t).toNat (by omega) (by omega)
    rwa [show t + ((e - t).toNat : Int) = e by omega] at this⟩ hc
  exact ⟨n1.2, by rw [n1.1, hg], p1.2, by rw [p1.1, he]⟩
theorem days_in {l : List Cal} {x : List Exc} {i t u : Int} (h0 : 0 ≤ t) (h1 : u ≤ 36524) : daysL l x i t u = actTo l x i t (u + 1 - t).toNat := by
  unfold daysL
  rw [(lo_parts t).2.1 h0, (hi_parts u).2.1 h1]
/-- weeks -/
theorem hit_nil (i d : Int) : NoHit [] i d 0 := NoHit.zero _ _ _
theorem week_out {l : List Cal} {d : Int} {n a : Nat} (hl : l.length = n) (ha : a < n) (hd : dayB d = true) (h : d < (gcal l a).frm ∨ (gcal l a).til < d) : actB l [] (a : Int) d = false := by
  unfold actB
  rw [reason_out (m := 0) hl ha hd rfl (hit_nil _ _) h]
  rfl
theorem week_same {l : List Cal} {d : Int} {n a : Nat} (hl : l.length = n) (ha : a < n) (h0 : 0 ≤ d) (h1 : d ≤ 36517) (h2 : ¬ d < (gcal l a).frm) (h3 : ¬ (gcal l a).til < d + 7) : actB l [] (a : Int) (d + 7) = actB l [] (a : Int) d := by
  unfold actB
  rw [reason_week (m := 0) hl ha (day_yes h0 (by omega)) rfl (hit_nil _ _) h2 (by omega) rfl, reason_week (m := 0) hl ha (day_yes (by omega) (by omega)) rfl (hit_nil _ _) (by omega) h3 rfl, wd_week]
/-- overrides -/
theorem gx_left {x ys : List Exc} {k : Nat} (h : k < x.length) : gx (x ++ ys) k = gx x k := excC.g_app_left h
theorem gx_last (x : List Exc) (e : Exc) : gx (x ++ [e]) x.length = e := by simp [gx, Codec.g]
theorem hit_left {x ys : List Exc} {i d : Int} {k : Nat} (h : k < x.length) : hitB (x ++ ys) i d k = hitB x i d k := by
  unfold hitB
  rw [gx_left h]
theorem over_hit {x : List Exc} {i d : Int} (e : Exc) (h : hitN x i d < x.length) : hitN (x ++ [e]) i d = hitN x i d ∧ gx (x ++ [e]) (hitN x i d) = gx x (hitN x i d) := by
  refine ⟨firstN_eq (by simp; omega) (by rw [hit_left h]; exact firstN_hit h) (fun j hj => ?_), gx_left h⟩
  rw [hit_left (by omega)]
  exact firstN_before hj
theorem over_no {x : List Exc} {i d : Int} (e : Exc) (h : ¬ hitN x i d < x.length) (he : e.cal ≠ i ∨ e.day ≠ d) : ¬ hitN (x ++ [e]) i d < (x ++ [e]).length := by
  have hn : hitN x i d = x.length := by have := firstN_le (hitB x i d) x.length; unfold hitN at h ⊢; omega
  have hk : hitN (x ++ [e]) i d = (x ++ [e]).length := firstN_none (fun j hj => by
    by_cases ej : j = x.length
    · subst ej
      rcases he with he | he
      · exact hit_cal (by rw [gx_last]; exact he)
      · exact hit_day (by rw [gx_last]; exact he)
    · have hj2 : j < x.length := by simp at hj; omega
      rw [hit_left hj2]
      exact firstN_before (p := hitB x i d) (n := x.length) (by unfold hitN at hn; omega))
  omega
theorem over_new {x : List Exc} {i d : Int} (e : Exc) (h : ¬ hitN x i d < x.length) (h1 : e.cal = i) (h2 : e.day = d) : hitN (x ++ [e]) i d = x.length := by
  have hn : hitN x i d = x.length := by have := firstN_le (hitB x i d) x.length; unfold hitN at h ⊢; omega
  refine firstN_eq (by simp) (hit_yes (by rw [gx_last]; exact h1) (by rw [gx_last]; exact h2)) (fun j hj => ?_)
  rw [hit_left hj]
  exact firstN_before (p := hitB x i d) (n := x.length) (by unfold hitN at hn; omega)
theorem over_same {l : List Cal} {x : List Exc} {i d : Int} (e : Exc) (h : e.cal ≠ i ∨ e.day ≠ d ∨ reasonI l x i d = 0 ∨ reasonI l x i d = 2 ∨ reasonI l x i d = 3) : reasonI l (x ++ [e]) i d = reasonI l x i d := by
  by_cases hk : i < 0 ∨ (l.length : Int) ≤ i ∨ dayB d = false
  · unfold reasonI
    rw [if_pos hk, if_pos hk]
  · unfold reasonI at h ⊢
    rw [if_neg hk] at h ⊢
    rw [if_neg hk]
    by_cases hh : hitN x i d < x.length
    · obtain ⟨e1, e2⟩ := over_hit e hh
      rw [if_pos hh, e1, if_pos (by simp; omega), e2]
    · rw [if_neg hh] at h ⊢
      have hne : e.cal ≠ i ∨ e.day ≠ d := by
        rcases h with h | h | h
        · exact Or.inl h
        · exact Or.inr h
        · exfalso
          revert h
          split
          · simp
          · split <;> simp
      rw [if_neg (over_no e hh hne)]
theorem over_add {l : List Cal} {x : List Exc} {i d : Int} (e : Exc) (h1 : e.cal = i) (h2 : e.day = d) (h3 : reasonI l x i d ≠ 0) (h4 : reasonI l x i d ≠ 2) (h5 : reasonI l x i d ≠ 3) : reasonI l (x ++ [e]) i d = if e.add = true then 2 else 3 := by
  unfold reasonI at h3 h4 h5 ⊢
  by_cases hk : i < 0 ∨ (l.length : Int) ≤ i ∨ dayB d = false
  · rw [if_pos hk] at h3
    exact absurd rfl h3
  · rw [if_neg hk] at h3 h4 h5 ⊢
    by_cases hh : hitN x i d < x.length
    · rw [if_pos hh] at h4 h5
      exfalso
      revert h4 h5
      split <;> simp
    · rw [over_new e hh h1 h2, if_pos (by simp), gx_last]
end Go.Proofs.Ytjmjejpfilejdaa
