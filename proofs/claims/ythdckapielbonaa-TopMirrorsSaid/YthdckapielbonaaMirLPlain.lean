/- Plain words on the longest mirror. No program is in sight here. -/
import Derived.Test.YthdckapielbonaaMirPlain
namespace Go.Proofs.Ythdckapielbonaa
set_option linter.unusedVariables false
set_option linter.unusedSimpArgs false

/-- From a on l bytes read the same from both ends. -/
def IsPal (f : Nat → Nat) (a l : Nat) : Prop := ∀ j, j < l → f (a + j) = f (a + (l - 1 - j))

/-- The candidates that mirror.Longest looks at. -/
def candA (f : Nat → Nat) (n t : Nat) : Nat := if t % 2 = 0 then t / 2 - mir f n 1 (t / 2) else t / 2 + 1 - mir f n 0 (t / 2)
def candL (f : Nat → Nat) (n t : Nat) : Nat := if t % 2 = 0 then 2 * mir f n 1 (t / 2) else 2 * mir f n 0 (t / 2) - 1

def mBet (f : Nat → Nat) (n t a l : Nat) : Bool := decide (l < candL f n t) || (decide (candL f n t = l) && decide (candA f n t < a))

def mSt (f : Nat → Nat) (n : Nat) : Nat → Nat × Nat
  | 0 => (0, 0)
  | t + 1 => if mBet f n t (mSt f n t).1 (mSt f n t).2 = true then (candA f n t, candL f n t) else mSt f n t

def mAt (f : Nat → Nat) (n : Nat) : Nat := (mSt f n (2 * n)).1
def mLong (f : Nat → Nat) (n : Nat) : Nat := (mSt f n (2 * n)).2

theorem mir_one {f : Nat → Nat} {n i : Nat} (h : i < n) : 1 ≤ mir f n 0 i := by
  apply mir_max (by omega)
  intro j hj
  have : j = 0 := by omega
  subst this
  exact ⟨by omega, by omega, rfl⟩

theorem cand_pal (f : Nat → Nat) (n t : Nat) (ht : t < 2 * n) : candA f n t + candL f n t ≤ n ∧ IsPal f (candA f n t) (candL f n t) ∧ 2 * candA f n t + candL f n t = t := by
  have h2 : t / 2 < n := by omega
  unfold candA candL
  by_cases h : t % 2 = 0
  · rw [if_pos h, if_pos h]
    have hm := mir_mir f n 1 (t / 2)
    have hb := mir_bd hm
    generalize mir f n 1 (t / 2) = k at *
    by_cases hk : k = 0
    · subst hk
      exact ⟨by omega, fun j hj => by omega, by omega⟩
    · have hb := hb (by omega)
      refine ⟨by omega, fun j hj => ?_, by omega⟩
      rcases Nat.lt_or_ge j k with h3 | h3
      · have := (hm (k - 1 - j) (by omega)).2.2
        rw [show t / 2 - k + j = t / 2 - (k - 1 - j) - 1 from by omega, show t / 2 - k + (2 * k - 1 - j) = t / 2 + (k - 1 - j) from by omega]
        exact this
      · have := (hm (j - k) (by omega)).2.2
        rw [show t / 2 - k + j = t / 2 + (j - k) from by omega, show t / 2 - k + (2 * k - 1 - j) = t / 2 - (j - k) - 1 from by omega]
        exact this.symm
  · rw [if_neg h, if_neg h]
    have hm := mir_mir f n 0 (t / 2)
    have h1 := mir_one (f := f) h2
    have hb := mir_bd hm (by omega)
    generalize mir f n 0 (t / 2) = k at *
    refine ⟨by omega, fun j hj => ?_, by omega⟩
    rcases Nat.lt_or_ge j k with h3 | h3
    · have := (hm (k - 1 - j) (by omega)).2.2
      rw [show t / 2 + 1 - k + j = t / 2 - (k - 1 - j) - 0 from by omega, show t / 2 + 1 - k + (2 * k - 1 - 1 - j) = t / 2 + (k - 1 - j) from by omega]
      exact this
    · have := (hm (j + 1 - k) (by omega)).2.2
      rw [show t / 2 + 1 - k + j = t / 2 + (j + 1 - k) from by omega, show t / 2 + 1 - k + (2 * k - 1 - 1 - j) = t / 2 - (j + 1 - k) - 0 from by omega]
      exact this.symm

theorem pal_cand {f : Nat → Nat} {n a l : Nat} (h0 : 0 < l) (hl : a + l ≤ n) (h : IsPal f a l) : l ≤ candL f n (2 * a + l) := by
  unfold candL
  by_cases e : (2 * a + l) % 2 = 0
  · rw [if_pos e]
    have : l / 2 ≤ mir f n 1 ((2 * a + l) / 2) := by
      apply mir_max (by omega)
      intro j hj
      refine ⟨by omega, by omega, ?_⟩
      have := h (l / 2 - 1 - j) (by omega)
      rw [show (2 * a + l) / 2 - j - 1 = a + (l / 2 - 1 - j) from by omega, show (2 * a + l) / 2 + j = a + (l - 1 - (l / 2 - 1 - j)) from by omega]
      exact this
    omega
  · rw [if_neg e]
    have : (l + 1) / 2 ≤ mir f n 0 ((2 * a + l) / 2) := by
      apply mir_max (by omega)
      intro j hj
      refine ⟨by omega, by omega, ?_⟩
      have := h (l / 2 - j) (by omega)
      rw [show (2 * a + l) / 2 - j - 0 = a + (l / 2 - j) from by omega, show (2 * a + l) / 2 + j = a + (l - 1 - (l / 2 - j)) from by omega]
      exact this
    omega

theorem mSt_inv (f : Nat → Nat) (n t : Nat) : (((mSt f n t).1 = 0 ∧ (mSt f n t).2 = 0) ∨ ∃ t', t' < t ∧ (mSt f n t).1 = candA f n t' ∧ (mSt f n t).2 = candL f n t')
    ∧ ∀ t', t' < t → candL f n t' < (mSt f n t).2 ∨ (candL f n t' = (mSt f n t).2 ∧ (mSt f n t).1 ≤ candA f n t') := by
  induction t with
  | zero => exact ⟨.inl ⟨rfl, rfl⟩, fun t' h => by omega⟩
  | succ t ih =>
    obtain ⟨h1, h2⟩ := ih
    unfold mSt
    cases hb : mBet f n t (mSt f n t).1 (mSt f n t).2
    · rw [if_neg (by simp)]
      refine ⟨?_, fun t' ht => ?_⟩
      · rcases h1 with h | ⟨t', a, b⟩
        · exact .inl h
        · exact .inr ⟨t', by omega, b⟩
      · by_cases e : t' = t
        · subst e
          simp [mBet] at hb
          omega
        · exact h2 t' (by omega)
    · rw [if_pos rfl]
      refine ⟨.inr ⟨t, by omega, rfl, rfl⟩, fun t' ht => ?_⟩
      by_cases e : t' = t
      · subst e; exact .inr ⟨rfl, Nat.le_refl _⟩
      · have := h2 t' (by omega)
        simp [mBet] at hb
        simp only
        omega

/-- The first longest mirror. -/
theorem mLong_spec (f : Nat → Nat) (n : Nat) : mAt f n + mLong f n ≤ n ∧ IsPal f (mAt f n) (mLong f n) ∧ ∀ a l, 0 < l → a + l ≤ n → IsPal f a l → l < mLong f n ∨ (l = mLong f n ∧ mAt f n ≤ a) := by
  obtain ⟨h1, h2⟩ := mSt_inv f n (2 * n)
  unfold mAt mLong
  have hm : ∀ a l, 0 < l → a + l ≤ n → IsPal f a l → l < (mSt f n (2 * n)).2 ∨ (l = (mSt f n (2 * n)).2 ∧ (mSt f n (2 * n)).1 ≤ a) := by
    intro a l h0 hl hp
    have hc := pal_cand h0 hl hp
    have hq := (cand_pal f n (2 * a + l) (by omega)).2.2
    have := h2 (2 * a + l) (by omega)
    omega
  rcases h1 with ⟨e1, e2⟩ | ⟨t', ht, e1, e2⟩
  · rw [e1, e2]
    refine ⟨by omega, fun j hj => by omega, fun a l h0 hl hp => ?_⟩
    have := hm a l h0 hl hp
    omega
  · have := cand_pal f n t' ht
    rw [e1, e2]
    refine ⟨this.1, this.2.1, fun a l h0 hl hp => ?_⟩
    have := hm a l h0 hl hp
    omega

theorem mLong_pos {f : Nat → Nat} {n : Nat} (h : 0 < n) : 0 < mLong f n := by
  have := (mLong_spec f n).2.2 0 1 (by omega) (by omega) (fun j hj => by rw [show j = 0 from by omega])
  omega

/-- What is the first longest mirror is it. -/
theorem mLong_eq {f : Nat → Nat} {n at' most : Nat} (h0 : 0 < most) (h1 : at' + most ≤ n) (h2 : IsPal f at' most)
    (h3 : ∀ a l, 0 < l → a + l ≤ n → IsPal f a l → l < most ∨ (l = most ∧ at' ≤ a)) : mAt f n = at' ∧ mLong f n = most := by
  obtain ⟨g1, g2, g3⟩ := mLong_spec f n
  have := g3 _ _ h0 h1 h2
  have hp := mLong_pos (f := f) (n := n) (by omega)
  have := h3 _ _ hp g1 g2
  omega
end Go.Proofs.Ythdckapielbonaa
