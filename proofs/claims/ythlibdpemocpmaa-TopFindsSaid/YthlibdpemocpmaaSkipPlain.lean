/- Plain words on how far a word may leap by a byte. No program is in sight here. -/
import Derived.Test.YthlibdpemocpmaaFindPlain
namespace Go.Proofs.Ythlibdpemocpmaa
set_option linter.unusedVariables false
set_option linter.unusedSimpArgs false

/-- Behind which of the first k places the byte c stands last; 0: at none. -/
def lp (f : Nat → Nat) (c : Nat) : Nat → Nat
  | 0 => 0
  | k + 1 => if f k = c then k + 1 else lp f c k

theorem lp_le (f : Nat → Nat) (c : Nat) : ∀ k, lp f c k ≤ k
  | 0 => Nat.le_refl _
  | k + 1 => by unfold lp; split; exact Nat.le_refl _; have := lp_le f c k; omega

theorem lp_at {f : Nat → Nat} {c : Nat} : ∀ {k}, 0 < lp f c k → f (lp f c k - 1) = c
  | 0, h => by simp [lp] at h
  | k + 1, h => by
    unfold lp at h ⊢
    split
    · rename_i e; simpa using e
    · rename_i e; rw [if_neg e] at h; exact lp_at h

theorem lp_last {f : Nat → Nat} {c : Nat} : ∀ {k j}, j < k → f j = c → j < lp f c k
  | 0, j, h, _ => by omega
  | k + 1, j, h, e => by
    unfold lp
    split
    · omega
    · rename_i h2
      exact lp_last (by
        have : j ≠ k := fun e2 => h2 (e2 ▸ e)
        omega) e

/-- How far a word of n bytes leaps by the byte c. -/
def leapV (f : Nat → Nat) (n c : Nat) : Nat := n - lp f c (n - 1)

theorem leapV_pos {f : Nat → Nat} {n c : Nat} (hn : 0 < n) : 0 < leapV f n c := by have := lp_le f c (n - 1); unfold leapV; omega
theorem leapV_le (f : Nat → Nat) (n c : Nat) : leapV f n c ≤ n := by unfold leapV; omega

/-- No place between is one at which the word could stand. -/
theorem leapV_safe {f t : Nat → Nat} {n m a p : Nat} (hn : 0 < n) (h : At f n t m p) (h1 : a < p) (h2 : p < a + leapV f n (t (a + n - 1))) : False := by
  have hle := leapV_le f n (t (a + n - 1))
  have := h.2 (a + n - 1 - p) (by omega)
  rw [show p + (a + n - 1 - p) = a + n - 1 from by omega] at this
  have := lp_last (k := n - 1) (by omega) this
  unfold leapV at h2
  omega

theorem leapV_inside {f : Nat → Nat} {n c : Nat} (hn : 0 < n) : leapV f n c = n ↔ ¬ ∃ j, j + 1 < n ∧ f j = c := by
  unfold leapV
  constructor
  · rintro h ⟨j, h1, h2⟩
    have := lp_last (k := n - 1) (by omega) h2
    omega
  · intro h
    have : ¬ 0 < lp f c (n - 1) := fun h2 => h ⟨lp f c (n - 1) - 1, by have := lp_le f c (n - 1); omega, lp_at h2⟩
    omega

theorem leapV_byte {f : Nat → Nat} {n c : Nat} (hn : 0 < n) (h : leapV f n c ≠ n) : f (n - 1 - leapV f n c) = c := by
  unfold leapV at h ⊢
  have hl := lp_le f c (n - 1)
  have h2 : 0 < lp f c (n - 1) := by omega
  have := lp_at h2
  rw [show n - 1 - (n - lp f c (n - 1)) = lp f c (n - 1) - 1 from by omega]
  exact this
/-- From place a on: where the word stands first (-1: nowhere), and how often it is laid (k: so many rounds at most). -/
def laid (f : Nat → Nat) (n : Nat) (t : Nat → Nat) (m : Nat) : Nat → Nat → Int × Nat
  | 0, _ => (-1, 0)
  | k + 1, a => if a + n ≤ m then (if At f n t m a then ((a : Int), 1) else ((laid f n t m k (a + leapV f n (t (a + n - 1)))).1, (laid f n t m k (a + leapV f n (t (a + n - 1)))).2 + 1)) else (-1, 0)

def firstOf (f : Nat → Nat) (n : Nat) (t : Nat → Nat) (m : Nat) : Int × Nat := laid f n t m (m + 1) 0

section
variable {f t : Nat → Nat} {n m : Nat}

theorem laid_hit {k a : Nat} (h : At f n t m a) : laid f n t m (k + 1) a = ((a : Int), 1) := by
  unfold laid; rw [if_pos h.1, if_pos h]
theorem laid_miss {k a : Nat} (h1 : a + n ≤ m) (h : ¬ At f n t m a) : laid f n t m (k + 1) a = ((laid f n t m k (a + leapV f n (t (a + n - 1)))).1, (laid f n t m k (a + leapV f n (t (a + n - 1)))).2 + 1) := by
  rw [laid, if_pos h1, if_neg h]
theorem laid_out {k a : Nat} (h1 : ¬ a + n ≤ m) : laid f n t m k a = (-1, 0) := by
  cases k
  · rfl
  · rw [laid, if_neg h1]

/-- More rounds than places are enough. -/
theorem laid_more (hn : 0 < n) : ∀ (k a k' : Nat), m < a + n + k → k ≤ k' → laid f n t m k a = laid f n t m k' a := by
  intro k
  induction k with
  | zero =>
    intro a k' h h2
    rw [laid_out (by omega), laid_out (by omega)]
  | succ k ih =>
    intro a k' h h2
    obtain ⟨k', rfl⟩ : ∃ j, k' = j + 1 := ⟨k' - 1, by omega⟩
    by_cases h1 : a + n ≤ m
    · by_cases h3 : At f n t m a
      · rw [laid_hit h3, laid_hit h3]
      · have hp := leapV_pos (f := f) (c := t (a + n - 1)) hn
        rw [laid_miss h1 h3, laid_miss h1 h3, ih _ k' (by omega) (by omega)]
    · rw [laid_out h1, laid_out h1]

/-- Where it says that the word stands: there is no place ahead; -1: there is none at all. -/
theorem laid_first (hn : 0 < n) : ∀ (k a : Nat), m < a + n + k → (∀ p, p < a → ¬ At f n t m p) → ((laid f n t m k a).1 = -1 ∧ ∀ p, ¬ At f n t m p) ∨ (∃ p : Nat, (laid f n t m k a).1 = p ∧ At f n t m p ∧ (∀ q, q < p → ¬ At f n t m q) ∧ 1 ≤ (laid f n t m k a).2) := by
  intro k
  induction k with
  | zero =>
    intro a h hno
    refine .inl ⟨rfl, fun p hp => ?_⟩
    have := hp.1
    exact hno p (by omega) hp
  | succ k ih =>
    intro a h hno
    by_cases h1 : a + n ≤ m
    · by_cases h3 : At f n t m a
      · rw [laid_hit h3]
        exact .inr ⟨a, rfl, h3, hno, Nat.le_refl _⟩
      · have hp := leapV_pos (f := f) (c := t (a + n - 1)) hn
        rw [laid_miss h1 h3]
        have hno2 : ∀ p, p < a + leapV f n (t (a + n - 1)) → ¬ At f n t m p := fun p hlt hA => by
          rcases Nat.lt_trichotomy p a with h4 | h4 | h4
          · exact hno p h4 hA
          · subst h4; exact h3 hA
          · exact leapV_safe hn hA h4 hlt
        rcases ih (a + leapV f n (t (a + n - 1))) (by omega) hno2 with h5 | ⟨p, h5, h6, h7, h8⟩
        · exact .inl h5
        · exact .inr ⟨p, h5, h6, h7, by simp⟩
    · rw [laid_out h1]
      exact .inl ⟨rfl, fun p hp => by have := hp.1; exact hno p (by omega) hp⟩

/-- How often it is laid. -/
theorem laid_times (hn : 0 < n) : ∀ (k a : Nat), (laid f n t m k a).2 ≤ m + 1 - a - n ∨ m + 1 ≤ a + n := by
  intro k
  induction k with
  | zero => intro a; exact .inl (by simp [laid])
  | succ k ih =>
    intro a
    by_cases h1 : a + n ≤ m
    · refine .inl ?_
      by_cases h3 : At f n t m a
      · rw [laid_hit h3]; show 1 ≤ _; omega
      · have hp := leapV_pos (f := f) (c := t (a + n - 1)) hn
        rw [laid_miss h1 h3]
        show _ + 1 ≤ _
        rcases ih (a + leapV f n (t (a + n - 1))) with h4 | h4
        · omega
        · rw [laid_out (by omega)]; show 0 + 1 ≤ _; omega
    · exact .inr (by omega)

theorem laid_le (hn : 0 < n) (k a : Nat) : (laid f n t m k a).2 ≤ m + 1 - a - n := by
  rcases laid_times (f := f) (t := t) (m := m) hn k a with h | h
  · exact h
  · rw [laid_out (by omega)]; exact Nat.zero_le _

/-- Where no byte of the text is in the word, it leaps by its whole length each time. -/
theorem laid_far (hn : 0 < n) (hfar : ∀ i j, i < m → j < n → t i ≠ f j) : ∀ (k a : Nat), m < a + n + k → laid f n t m k a = (-1, (m - a) / n) := by
  intro k
  induction k with
  | zero =>
    intro a h
    rw [laid_out (by omega), Nat.div_eq_of_lt (by omega)]
  | succ k ih =>
    intro a h
    by_cases h1 : a + n ≤ m
    · have h3 : ¬ At f n t m a := fun h2 => hfar (a + 0) 0 (by omega) hn (h2.2 0 hn).symm
      have hl : leapV f n (t (a + n - 1)) = n := (leapV_inside hn).2 fun ⟨j, h4, h5⟩ => hfar (a + n - 1) j (by omega) (by omega) h5.symm
      rw [laid_miss h1 h3, hl, ih (a + n) (by omega)]
      have e : m - a = (m - (a + n)) + n := by omega
      rw [e, Nat.add_div_right _ hn]
    · rw [laid_out h1, Nat.div_eq_of_lt (by omega)]
end
end Go.Proofs.Ythlibdpemocpmaa
