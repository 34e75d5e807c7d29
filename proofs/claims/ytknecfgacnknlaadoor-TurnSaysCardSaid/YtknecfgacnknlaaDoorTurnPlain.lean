/- Plain words on turns of a text: the least turn, roots, and which turns are the same. No program is in sight here. -/
import Derived.Test.YtknecfgacnknlaaDoorLynPlain
namespace Go.Proofs.YtknecfgacnknlaaDoor
set_option linter.unusedVariables false
set_option linter.unusedSimpArgs false

/-- Byte j of the turn that begins at i. -/
def rot (f : Nat → Nat) (n i : Nat) : Nat → Nat := fun j => f ((i + j) % n)

/-- The turn at i is less than the turn at j. -/
def RLt (f : Nat → Nat) (n i j : Nat) : Prop := ∃ l, l < n ∧ (∀ x, x < l → rot f n i x = rot f n j x) ∧ rot f n i l < rot f n j l

/-- Both are the same. -/
def REq (f : Nat → Nat) (n i j : Nat) : Prop := ∀ x, x < n → rot f n i x = rot f n j x

theorem rlt_irrefl {f : Nat → Nat} {n i : Nat} : ¬ RLt f n i i := by rintro ⟨l, _, _, h⟩; omega

theorem rlt_trans {f : Nat → Nat} {n i j k : Nat} (h1 : RLt f n i j) (h2 : RLt f n j k) : RLt f n i k := by
  obtain ⟨l, a1, a2, a3⟩ := h1
  obtain ⟨m, b1, b2, b3⟩ := h2
  rcases Nat.lt_trichotomy l m with h | h | h
  · exact ⟨l, a1, fun x hx => by rw [a2 x hx, b2 x (by omega)], by rw [← b2 l h]; exact a3⟩
  · subst h; exact ⟨l, a1, fun x hx => by rw [a2 x hx, b2 x hx], by omega⟩
  · exact ⟨m, b1, fun x hx => by rw [a2 x (by omega), b2 x hx], by rw [a2 m h]; exact b3⟩

theorem rlt_total (f : Nat → Nat) (n i j : Nat) : RLt f n i j ∨ REq f n i j ∨ RLt f n j i := by
  have main : ∀ m, m ≤ n → (∃ l, l < m ∧ (∀ x, x < l → rot f n i x = rot f n j x) ∧ rot f n i l ≠ rot f n j l) ∨ ∀ x, x < m → rot f n i x = rot f n j x := by
    intro m
    induction m with
    | zero => intro _; exact .inr fun x hx => by omega
    | succ m ih =>
      intro hm
      rcases ih (by omega) with ⟨l, h1, h2, h3⟩ | h
      · exact .inl ⟨l, by omega, h2, h3⟩
      · by_cases e : rot f n i m = rot f n j m
        · right; intro x hx
          by_cases ex : x = m
          · rw [ex]; exact e
          · exact h x (by omega)
        · exact .inl ⟨m, by omega, h, e⟩
  rcases main n (Nat.le_refl _) with ⟨l, h1, h2, h3⟩ | h
  · rcases Nat.lt_or_ge (rot f n i l) (rot f n j l) with h4 | h4
    · exact .inl ⟨l, h1, h2, h4⟩
    · exact .inr (.inr ⟨l, h1, fun x hx => (h2 x hx).symm, by omega⟩)
  · exact .inr (.inl h)

theorem req_rlt {f : Nat → Nat} {n i j k : Nat} (h : REq f n i j) (h2 : RLt f n k i) : RLt f n k j := by
  obtain ⟨l, b1, b2, b3⟩ := h2
  exact ⟨l, b1, fun x hx => by rw [b2 x hx, h x (by omega)], by rw [← h l b1]; exact b3⟩

theorem req_rlt' {f : Nat → Nat} {n i j k : Nat} (h : REq f n i j) (h2 : RLt f n i k) : RLt f n j k := by
  obtain ⟨l, b1, b2, b3⟩ := h2
  exact ⟨l, b1, fun x hx => by rw [← h x (by omega), b2 x hx], by rw [← h l b1]; exact b3⟩

/-- r is the first place at which a least turn begins. -/
def IsLeast (f : Nat → Nat) (n r : Nat) : Prop := r < n ∧ (∀ t, t < n → ¬ RLt f n t r) ∧ ∀ t, t < r → RLt f n r t

theorem least_exists (f : Nat → Nat) (n : Nat) (hn : 0 < n) : ∃ r, IsLeast f n r := by
  have main : ∀ m, 0 < m → m ≤ n → ∃ r, r < m ∧ (∀ t, t < m → ¬ RLt f n t r) ∧ ∀ t, t < r → RLt f n r t := by
    intro m
    induction m with
    | zero => intro h; omega
    | succ m ih =>
      intro _ hm
      rcases Nat.eq_zero_or_pos m with h0 | h0
      · subst h0
        exact ⟨0, by omega, fun t ht => by rw [show t = 0 from by omega]; exact rlt_irrefl, fun t ht => by omega⟩
      · obtain ⟨r, h1, h2, h3⟩ := ih h0 (by omega)
        rcases Classical.em (RLt f n m r) with h | h
        · refine ⟨m, by omega, fun t ht hlt => ?_, fun t ht => ?_⟩
          · by_cases e : t = m
            · subst e; exact rlt_irrefl hlt
            · exact h2 t (by omega) (rlt_trans hlt h)
          · rcases rlt_total f n m t with h4 | h4 | h4
            · exact h4
            · exact absurd (req_rlt' h4 h) (h2 t ht)
            · exact absurd (rlt_trans h4 h) (h2 t ht)
        · refine ⟨r, by omega, fun t ht hlt => ?_, h3⟩
          by_cases e : t = m
          · subst e; exact h hlt
          · exact h2 t (by omega) hlt
  obtain ⟨r, h1, h2, h3⟩ := main n hn (Nat.le_refl _)
  exact ⟨r, h1, h2, h3⟩

theorem least_unique {f : Nat → Nat} {n r q : Nat} (h : IsLeast f n r) (h' : IsLeast f n q) : r = q := by
  rcases Nat.lt_trichotomy r q with h1 | h1 | h1
  · exact absurd (h'.2.2 r h1) (h.2.1 q h'.1)
  · exact h1
  · exact absurd (h.2.2 q h1) (h'.2.1 r h.1)

/-- What turn.Least keeps: behind both candidates nothing can be least. -/
def Race (f : Nat → Nat) (n i j k : Nat) : Prop :=
  i ≠ j ∧ k ≤ n ∧ (∀ x, x < k → rot f n i x = rot f n j x) ∧ ∀ t, t < n → (t < i ∨ t < j) → t ≠ i → t ≠ j → ∃ q, q < n ∧ RLt f n q t

theorem race_start (f : Nat → Nat) (n : Nat) : Race f n 0 1 0 := ⟨by omega, Nat.zero_le _, fun x hx => by omega, fun t _ h1 h2 h3 => by omega⟩

theorem race_same {f : Nat → Nat} {n i j k : Nat} (h : Race f n i j k) (hk : k < n) (he : rot f n i k = rot f n j k) : Race f n i j (k + 1) :=
  ⟨h.1, hk, fun x hx => by
    by_cases e : x = k
    · rw [e]; exact he
    · exact h.2.2.1 x (by omega), h.2.2.2⟩

theorem race_swap {f : Nat → Nat} {n i j k : Nat} (h : Race f n i j k) : Race f n j i k :=
  ⟨fun e => h.1 e.symm, h.2.1, fun x hx => (h.2.2.1 x hx).symm, fun t h0 h1 h2 h3 => h.2.2.2 t h0 h1.symm h3 h2⟩

/-- The turns at i to i + k are greater than those at j to j + k. -/
theorem race_beats {f : Nat → Nat} {n i j k x : Nat} (h : Race f n i j k) (hk : k < n) (hgt : rot f n j k < rot f n i k) (hx : x ≤ k) (hn : i + x < n) : ∃ q, q < n ∧ RLt f n q (i + x) := by
  have hn0 : 0 < n := by omega
  have e : ∀ a b : Nat, rot f n ((a + x) % n) b = rot f n a (x + b) := fun a b => by
    unfold rot
    congr 1
    rw [Nat.add_mod, Nat.mod_mod, ← Nat.add_mod, Nat.add_assoc]
  refine ⟨(j + x) % n, Nat.mod_lt _ hn0, ⟨k - x, by omega, fun b hb => ?_, ?_⟩⟩
  · rw [e j b]
    have := e i b
    rw [Nat.mod_eq_of_lt hn] at this
    rw [this]
    exact (h.2.2.1 (x + b) (by omega)).symm
  · rw [e j]
    have := e i (k - x)
    rw [Nat.mod_eq_of_lt hn] at this
    rw [this, show x + (k - x) = k from by omega]
    exact hgt

theorem race_jump {f : Nat → Nat} {n i j k : Nat} (h : Race f n i j k) (hk : k < n) (hgt : rot f n j k < rot f n i k) :
    (i + k + 1 ≠ j → Race f n (i + k + 1) j 0) ∧ (i + k + 1 = j → Race f n (i + k + 1) (j + 1) 0) := by
  have main : ∀ t, t < n → (t < i + k + 1 ∨ t < j) → t ≠ j → ∃ q, q < n ∧ RLt f n q t := by
    intro t ht h1 h2
    by_cases h3 : i ≤ t ∧ t ≤ i + k
    · have := race_beats h hk hgt (x := t - i) (by omega) (by omega)
      rwa [show i + (t - i) = t from by omega] at this
    · exact h.2.2.2 t ht (by omega) (by omega) h2
  refine ⟨fun hne => ⟨hne, Nat.zero_le _, fun x hx => by omega, fun t ht h1 h2 h3 => main t ht h1 h3⟩, fun he => ⟨by omega, Nat.zero_le _, fun x hx => by omega, fun t ht h1 h2 h3 => main t ht (by omega) (by omega)⟩⟩

theorem race_end_out {f : Nat → Nat} {n i j k : Nat} (h : Race f n i j k) (hi : n ≤ i) (hj : j < n) : IsLeast f n j := by
  obtain ⟨r, hr⟩ := least_exists f n (by omega)
  have : r = j := by
    by_cases e : r = j
    · exact e
    · obtain ⟨q, h1, h2⟩ := h.2.2.2 r hr.1 (.inl (by have := hr.1; omega)) (by have := hr.1; omega) e
      exact absurd h2 (hr.2.1 q h1)
  rw [← this]; exact hr

theorem race_not_both {f : Nat → Nat} {n i j k : Nat} (hn : 0 < n) (h : Race f n i j k) : ¬ (n ≤ i ∧ n ≤ j) := by
  rintro ⟨h1, h2⟩
  obtain ⟨r, hr⟩ := least_exists f n hn
  have := hr.1
  obtain ⟨q, h3, h4⟩ := h.2.2.2 r hr.1 (by omega) (by omega) (by omega)
  exact absurd h4 (hr.2.1 q h3)

theorem race_end_same {f : Nat → Nat} {n i j : Nat} (h : Race f n i j n) (hij : i < j) (hj : j < n) : IsLeast f n i := by
  obtain ⟨r, hr⟩ := least_exists f n (by omega)
  have hrn := hr.1
  have : r = i := by
    rcases Nat.lt_or_ge r j with h1 | h1
    · by_cases e : r = i
      · exact e
      · obtain ⟨q, h3, h4⟩ := h.2.2.2 r hrn (.inr h1) e (by omega)
        exact absurd h4 (hr.2.1 q h3)
    · -- the turn at r is the turn at r - (j - i), which begins ahead of it
      have heq : REq f n (r - (j - i)) r := fun x hx => by
        have hn0 : 0 < n := by omega
        have h5 := h.2.2.1 ((r - j + x) % n) (Nat.mod_lt _ hn0)
        unfold rot at h5 ⊢
        rw [Nat.add_mod_mod, Nat.add_mod_mod] at h5
        rw [show r - (j - i) + x = i + (r - j + x) from by omega, h5]
        congr 2; omega
      exact absurd (req_rlt heq (hr.2.2 (r - (j - i)) (by omega))) rlt_irrefl
  rw [← this]; exact hr
end Go.Proofs.YtknecfgacnknlaaDoor
