/- Plain words on what two texts have in common with gaps, and on how much must be changed. No program is in sight here. -/
import Derived.Test.YthdckapielbonaaStr
namespace Go.Proofs.Ythdckapielbonaa
set_option linter.unusedVariables false
set_option linter.unusedSimpArgs false

/-- How long what the last p bytes of the first text (of n) and the last q bytes of the second one (of m) have in common is. -/
def lcs (f g : Nat → Nat) (n m : Nat) : Nat → Nat → Nat
  | 0, _ => 0
  | _ + 1, 0 => 0
  | p + 1, q + 1 => if f (n - (p + 1)) = g (m - (q + 1)) then 1 + lcs f g n m p q else max (lcs f g n m p (q + 1)) (lcs f g n m (p + 1) q)
termination_by p q => p + q

section
variable {f g : Nat → Nat} {n m : Nat}

theorem lcs_zero (q : Nat) : lcs f g n m 0 q = 0 := by unfold lcs; rfl
theorem lcs_zero' (p : Nat) : lcs f g n m p 0 = 0 := by cases p <;> (unfold lcs; rfl)
theorem lcs_hit {p q : Nat} (h : f (n - (p + 1)) = g (m - (q + 1))) : lcs f g n m (p + 1) (q + 1) = 1 + lcs f g n m p q := by
  rw [lcs, if_pos h]
theorem lcs_miss {p q : Nat} (h : f (n - (p + 1)) ≠ g (m - (q + 1))) : lcs f g n m (p + 1) (q + 1) = max (lcs f g n m p (q + 1)) (lcs f g n m (p + 1) q) := by
  rw [lcs, if_neg h]

theorem lcs_step : ∀ (k p q : Nat), p + q ≤ k → lcs f g n m p q ≤ lcs f g n m p (q + 1) ∧ lcs f g n m p q ≤ lcs f g n m (p + 1) q ∧ lcs f g n m (p + 1) q ≤ lcs f g n m p q + 1 ∧ lcs f g n m p (q + 1) ≤ lcs f g n m p q + 1 := by
  intro k
  induction k with
  | zero =>
    intro p q h
    obtain rfl : p = 0 := by omega
    obtain rfl : q = 0 := by omega
    simp [lcs_zero, lcs_zero']
  | succ k ih =>
    intro p q h
    have A : lcs f g n m p q ≤ lcs f g n m p (q + 1) ∧ lcs f g n m p (q + 1) ≤ lcs f g n m p q + 1 := by
      rcases p with _ | p
      · simp [lcs_zero]
      · obtain ⟨h1, h2, h3, h4⟩ := ih p q (by omega)
        by_cases e : f (n - (p + 1)) = g (m - (q + 1))
        · rw [lcs_hit e]; omega
        · rw [lcs_miss e]; omega
    have B : lcs f g n m p q ≤ lcs f g n m (p + 1) q ∧ lcs f g n m (p + 1) q ≤ lcs f g n m p q + 1 := by
      rcases q with _ | q
      · simp [lcs_zero']
      · obtain ⟨h1, h2, h3, h4⟩ := ih p q (by omega)
        by_cases e : f (n - (p + 1)) = g (m - (q + 1))
        · rw [lcs_hit e]; omega
        · rw [lcs_miss e]; omega
    exact ⟨A.1, B.1, B.2, A.2⟩

theorem lcs_le {p q : Nat} : lcs f g n m p q ≤ p ∧ lcs f g n m p q ≤ q := by
  constructor
  · induction p with
    | zero => rw [lcs_zero]; omega
    | succ p ih => have := (lcs_step (f := f) (g := g) (n := n) (m := m) (p + q) p q (Nat.le_refl _)).2.2.1; omega
  · induction q with
    | zero => rw [lcs_zero']; omega
    | succ q ih => have := (lcs_step (f := f) (g := g) (n := n) (m := m) (p + q) p q (Nat.le_refl _)).2.2.2; omega

theorem lcs_mono {p q p' q' : Nat} (hp : p ≤ p') (hq : q ≤ q') : lcs f g n m p q ≤ lcs f g n m p' q' := by
  have h1 : ∀ d, lcs f g n m p q ≤ lcs f g n m (p + d) q := by
    intro d
    induction d with
    | zero => exact Nat.le_refl _
    | succ d ih => have := (lcs_step (f := f) (g := g) (n := n) (m := m) _ (p + d) q (Nat.le_refl _)).2.1; rw [← Nat.add_assoc]; omega
  have h2 : ∀ d, lcs f g n m p' q ≤ lcs f g n m p' (q + d) := by
    intro d
    induction d with
    | zero => exact Nat.le_refl _
    | succ d ih => have := (lcs_step (f := f) (g := g) (n := n) (m := m) _ p' (q + d) (Nat.le_refl _)).1; rw [← Nat.add_assoc]; omega
  have h3 := h1 (p' - p)
  have h4 := h2 (q' - q)
  rw [show p + (p' - p) = p' from by omega] at h3
  rw [show q + (q' - q) = q' from by omega] at h4
  omega

/-- What stands in both stands in common. -/
theorem lcs_sub : ∀ (r p q : Nat), r ≤ p → r ≤ q → (∀ j, j < r → f (n - p + j) = g (m - q + j)) → p ≤ n → q ≤ m → r ≤ lcs f g n m p q
  | 0, _, _, _, _, _, _, _ => Nat.zero_le _
  | r + 1, 0, _, h, _, _, _, _ => by omega
  | r + 1, _ + 1, 0, _, h, _, _, _ => by omega
  | r + 1, p + 1, q + 1, h1, h2, h3, h4, h5 => by
    have e : f (n - (p + 1)) = g (m - (q + 1)) := h3 0 (by omega)
    rw [lcs_hit e]
    have := lcs_sub r p q (by omega) (by omega) (fun j hj => by
      have := h3 (j + 1) (by omega)
      rw [show n - (p + 1) + (j + 1) = n - p + j from by omega, show m - (q + 1) + (j + 1) = m - q + j from by omega] at this
      exact this) (by omega) (by omega)
    omega

theorem lcs_full : ∀ p : Nat, lcs f g n m p p = p → p ≤ n → p ≤ m → ∀ j, j < p → f (n - p + j) = g (m - p + j)
  | 0, _, _, _, j, hj => by omega
  | p + 1, h, h1, h2, j, hj => by
    by_cases e : f (n - (p + 1)) = g (m - (p + 1))
    · rw [lcs_hit e] at h
      have ih := lcs_full p (by omega) (by omega) (by omega)
      rcases j with _ | j
      · exact e
      · have := ih j (by omega)
        rw [show n - (p + 1) + (j + 1) = n - p + j from by omega, show m - (p + 1) + (j + 1) = m - p + j from by omega]
        exact this
    · rw [lcs_miss e] at h
      have a := (lcs_le (f := f) (g := g) (n := n) (m := m) (p := p) (q := p + 1)).1
      have b := (lcs_le (f := f) (g := g) (n := n) (m := m) (p := p + 1) (q := p)).2
      omega
end

/-- How many changes make the first j bytes of the second text out of the first i bytes of the first one. -/
def far (f g : Nat → Nat) : Nat → Nat → Nat
  | 0, j => j
  | i + 1, 0 => i + 1
  | i + 1, j + 1 => if f i = g j then far f g i j else 1 + min (far f g i j) (min (far f g (i + 1) j) (far f g i (j + 1)))
termination_by i j => i + j

section
variable {f g : Nat → Nat}
theorem far_zero (j : Nat) : far f g 0 j = j := by unfold far; rfl
theorem far_zero' (i : Nat) : far f g i 0 = i := by cases i <;> (unfold far; rfl)
theorem far_hit {i j : Nat} (h : f i = g j) : far f g (i + 1) (j + 1) = far f g i j := by rw [far, if_pos h]
theorem far_miss {i j : Nat} (h : f i ≠ g j) : far f g (i + 1) (j + 1) = 1 + min (far f g i j) (min (far f g (i + 1) j) (far f g i (j + 1))) := by rw [far, if_neg h]

theorem far_le : ∀ (k i j : Nat), i + j ≤ k → far f g i j ≤ i + j
  | _, 0, j, _ => by rw [far_zero]; omega
  | _, i + 1, 0, _ => by rw [far_zero']; omega
  | 0, i + 1, j + 1, h => by omega
  | k + 1, i + 1, j + 1, h => by
    have := far_le k i j (by omega)
    by_cases e : f i = g j
    · rw [far_hit e]; omega
    · rw [far_miss e]; omega

theorem far_none : ∀ (i j : Nat), far f g i j = 0 → i = j ∧ ∀ l, l < i → f l = g l
  | 0, j, h => by rw [far_zero] at h; exact ⟨by omega, fun l hl => by omega⟩
  | i + 1, 0, h => by rw [far_zero'] at h; omega
  | i + 1, j + 1, h => by
    by_cases e : f i = g j
    · rw [far_hit e] at h
      obtain ⟨h1, h2⟩ := far_none i j h
      subst h1
      refine ⟨rfl, fun l hl => ?_⟩
      by_cases el : l = i
      · rw [el]; exact e
      · exact h2 l (by omega)
    · rw [far_miss e] at h; omega

theorem far_same : ∀ (i : Nat), (∀ l, l < i → f l = g l) → far f g i i = 0
  | 0, _ => far_zero 0
  | i + 1, h => by rw [far_hit (h i (by omega))]; exact far_same i fun l hl => h l (by omega)
end
end Go.Proofs.Ythdckapielbonaa
