/-
  The active days of a range, the next and the last active day: plain lists, no program in sight.
-/
import Derived.Test.YtjmjejpfilejdaaCal
namespace Go.Proofs.Ytjmjejpfilejdaa

/-- the first day of a search -/
def loI (d : Int) : Int := if d < 0 then 0 else d
theorem lo_parts (d : Int) : 0 ≤ loI d ∧ (0 ≤ d → loI d = d) ∧ (d < 0 → loI d = 0) := by
  unfold loI
  split <;> omega
/-- the last day of a search -/
def hiI (d : Int) : Int := if 36524 < d then 36524 else d
theorem hi_parts (d : Int) : hiI d ≤ 36524 ∧ (d ≤ 36524 → hiI d = d) ∧ (36524 < d → hiI d = 36524) := by
  unfold hiI
  split <;> omega
/-- no day from t on and before v is active -/
def NoActU (l : List Cal) (x : List Exc) (i t v : Int) : Prop := t ≤ v ∧ ∀ e, t ≤ e → e < v → actB l x i e = false
theorem NoActU.zero (l : List Cal) (x : List Exc) (i t : Int) : NoActU l x i t t := ⟨Int.le_refl _, fun _ _ _ => by omega⟩
theorem NoActU.step {l : List Cal} {x : List Exc} {i t v : Int} (h : NoActU l x i t v) (h2 : actB l x i v = false) : NoActU l x i t (v + 1) := ⟨by have := h.1; omega, fun e h3 h4 => by
  by_cases he : e = v
  · subst he; exact h2
  · exact h.2 e h3 (by omega)⟩
/-- no day up to t and behind v is active -/
def NoActD (l : List Cal) (x : List Exc) (i t v : Int) : Prop := v ≤ t ∧ ∀ e, e ≤ t → v < e → actB l x i e = false
theorem NoActD.zero (l : List Cal) (x : List Exc) (i t : Int) : NoActD l x i t t := ⟨Int.le_refl _, fun _ _ _ => by omega⟩
theorem NoActD.step {l : List Cal} {x : List Exc} {i t v : Int} (h : NoActD l x i t v) (h2 : actB l x i v = false) : NoActD l x i t (v - 1) := ⟨by have := h.1; omega, fun e h3 h4 => by
  by_cases he : e = v
  · subst he; exact h2
  · exact h.2 e h3 (by omega)⟩
/-- how many days to the first active one, from the day of the search on -/
def nextN (l : List Cal) (x : List Exc) (i d : Int) : Nat := firstN (fun k => actB l x i (loI d + k)) (36525 - loI d).toNat
def nextB (l : List Cal) (x : List Exc) (i d : Int) : Bool := decide (nextN l x i d < (36525 - loI d).toNat)
def nextI (l : List Cal) (x : List Exc) (i d : Int) : Int := if nextN l x i d < (36525 - loI d).toNat then loI d + nextN l x i d else 0
theorem next_at {l : List Cal} {x : List Exc} {i d t v : Int} (ht : t = loI d) (hv : v ≤ 36524) (h : NoActU l x i t v) (h2 : actB l x i v = true) : nextI l x i d = v ∧ nextB l x i d = true := by
  subst ht
  have h1 := h.1
  obtain ⟨k, hk⟩ : ∃ k : Nat, v = loI d + k := ⟨(v - loI d).toNat, by omega⟩
  subst hk
  have hn : nextN l x i d = k := firstN_eq (by omega) h2 (fun j hj => h.2 _ (by omega) (by omega))
  unfold nextI nextB
  rw [hn, if_pos (by omega), decide_eq_true (by omega)]
  exact ⟨rfl, rfl⟩
theorem next_none {l : List Cal} {x : List Exc} {i d t v : Int} (ht : t = loI d) (hv : 36524 < v) (h : NoActU l x i t v) : nextI l x i d = 0 ∧ nextB l x i d = false := by
  subst ht
  have hn : nextN l x i d = (36525 - loI d).toNat := firstN_none (fun j hj => h.2 _ (by omega) (by omega))
  unfold nextI nextB
  rw [hn, if_neg (by omega), decide_eq_false (by omega)]
  exact ⟨rfl, rfl⟩
/-- how many days back to the last active one, from the day of the search on -/
def prevN (l : List Cal) (x : List Exc) (i d : Int) : Nat := firstN (fun k => actB l x i (hiI d - k)) (hiI d + 1).toNat
def prevB (l : List Cal) (x : List Exc) (i d : Int) : Bool := decide (prevN l x i d < (hiI d + 1).toNat)
def prevI (l : List Cal) (x : List Exc) (i d : Int) : Int := if prevN l x i d < (hiI d + 1).toNat then hiI d - prevN l x i d else 0
theorem prev_at {l : List Cal} {x : List Exc} {i d t v : Int} (ht : t = hiI d) (hv : 0 ≤ v) (h : NoActD l x i t v) (h2 : actB l x i v = true) : prevI l x i d = v ∧ prevB l x i d = true := by
  subst ht
  have h1 := h.1
  obtain ⟨k, hk⟩ : ∃ k : Nat, v = hiI d - k := ⟨(hiI d - v).toNat, by omega⟩
  subst hk
  have hn : prevN l x i d = k := firstN_eq (by omega) h2 (fun j hj => h.2 _ (by omega) (by omega))
  unfold prevI prevB
  rw [hn, if_pos (by omega), decide_eq_true (by omega)]
  exact ⟨rfl, rfl⟩
theorem prev_none {l : List Cal} {x : List Exc} {i d t v : Int} (ht : t = hiI d) (hv : v < 0) (h : NoActD l x i t v) : prevI l x i d = 0 ∧ prevB l x i d = false := by
  subst ht
  have hn : prevN l x i d = (hiI d + 1).toNat := firstN_none (fun j hj => h.2 _ (by omega) (by omega))
  unfold prevI prevB
  rw [hn, if_neg (by omega), decide_eq_false (by omega)]
  exact ⟨rfl, rfl⟩
/-- the active ones among the k days from t on -/
def actTo (l : List Cal) (x : List Exc) (i t : Int) : Nat → List Int
  | 0 => []
  | k + 1 => if actB l x i (t + (k : Int)) = true then actTo l x i t k ++ [t + (k : Int)] else actTo l x i t k
theorem act_step (l : List Cal) (x : List Exc) (i t : Int) (k : Nat) : actTo l x i t (k + 1) = if actB l x i (t + (k : Int)) = true then actTo l x i t k ++ [t + (k : Int)] else actTo l x i t k := rfl
theorem act_len (l : List Cal) (x : List Exc) (i t : Int) (k : Nat) : (actTo l x i t k).length ≤ k := by
  induction k with
  | zero => simp [actTo]
  | succ k ih =>
    rw [act_step]
    split
    · simp; omega
    · omega
/-- the active days of a range -/
def daysL (l : List Cal) (x : List Exc) (i p q : Int) : List Int := actTo l x i (loI p) (hiI q + 1 - loI p).toNat
theorem days_eq {l : List Cal} {x : List Exc} {i p q t u : Int} {k : Nat} (ht : t = loI p) (hu : u = hiI q) (h : t + (k : Int) ≤ u + 1 ∨ k = 0) (hv : ¬ t + (k : Int) ≤ u) : daysL l x i p q = actTo l x i t k := by
  subst ht hu
  unfold daysL
  rw [show (hiI q + 1 - loI p).toNat = k by omega]
end Go.Proofs.Ytjmjejpfilejdaa
