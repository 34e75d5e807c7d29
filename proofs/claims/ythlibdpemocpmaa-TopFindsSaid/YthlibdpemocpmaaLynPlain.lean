/- Plain words on Lyndon words: the order of texts, Duval's step, the longest Lyndon prefix, joining. No program is in sight here. -/
import Derived.Test.YthlibdpemocpmaaPerPlain
namespace Go.Proofs.Ythlibdpemocpmaa
set_option linter.unusedVariables false
set_option linter.unusedSimpArgs false

/-- A text of p bytes stands before one of q bytes. -/
def Bef (f : Nat → Nat) (p : Nat) (g : Nat → Nat) (q : Nat) : Prop := (∃ l, l < p ∧ l < q ∧ (∀ j, j < l → f j = g j) ∧ f l < g l) ∨ (p < q ∧ ∀ j, j < p → f j = g j)

/-- The first n bytes are a Lyndon word: less than each of their ends. -/
def Lyn (f : Nat → Nat) (n : Nat) : Prop := 0 < n ∧ ∀ i, 0 < i → i < n → ∃ l, i + l < n ∧ (∀ j, j < l → f j = f (i + j)) ∧ f l < f (i + l)

def sh (f : Nat → Nat) (i : Nat) : Nat → Nat := fun j => f (i + j)

theorem bef_end {f : Nat → Nat} {n i : Nat} (h0 : 0 < i) (hi : i < n) : Bef f n (sh f i) (n - i) ↔ ∃ l, i + l < n ∧ (∀ j, j < l → f j = f (i + j)) ∧ f l < f (i + l) := by
  constructor
  · rintro (⟨l, h1, h2, h3, h4⟩ | ⟨h1, _⟩)
    · exact ⟨l, by omega, h3, h4⟩
    · omega
  · rintro ⟨l, h1, h2, h3⟩
    exact .inl ⟨l, by omega, by omega, h2, h3⟩

theorem lyn_iff {f : Nat → Nat} {n : Nat} : Lyn f n ↔ 0 < n ∧ ∀ i, 0 < i → i < n → Bef f n (sh f i) (n - i) :=
  and_congr_right fun _ => ⟨fun h i h1 h2 => (bef_end h1 h2).2 (h i h1 h2), fun h i h1 h2 => (bef_end h1 h2).1 (h i h1 h2)⟩

theorem lyn_one (f : Nat → Nat) : Lyn f 1 := ⟨by omega, fun i h1 h2 => by omega⟩

theorem lyn_congr {f g : Nat → Nat} {n : Nat} (h : ∀ j, j < n → f j = g j) : Lyn f n → Lyn g n := by
  rintro ⟨h0, h1⟩
  refine ⟨h0, fun i h2 h3 => ?_⟩
  obtain ⟨l, h4, h5, h6⟩ := h1 i h2 h3
  exact ⟨l, h4, fun j hj => by rw [← h j (by omega), ← h (i + j) (by omega)]; exact h5 j hj, by rw [← h l (by omega), ← h (i + l) (by omega)]; exact h6⟩

/-- Duval's state: the first m bytes go round with the Lyndon word of p bytes. -/
def Duv (g : Nat → Nat) (m p : Nat) : Prop := Lyn g p ∧ p ≤ m ∧ ∀ t, t + p < m → g t = g (t + p)

theorem duv_per {g : Nat → Nat} {m p : Nat} (h : Duv g m p) : Per g m p := ⟨h.2.1, h.2.2⟩

theorem duv_start (g : Nat → Nat) : Duv g 1 1 := ⟨lyn_one g, Nat.le_refl _, fun t ht => by omega⟩

theorem duv_same {g : Nat → Nat} {m p : Nat} (h : Duv g m p) (he : g (m - p) = g m) : Duv g (m + 1) p := by
  obtain ⟨h1, h2, h3⟩ := h
  refine ⟨h1, by omega, fun t ht => ?_⟩
  by_cases e : t + p = m
  · rw [e, ← he]; congr 1; omega
  · exact h3 t (by omega)

theorem duv_more {g : Nat → Nat} {m p : Nat} (h : Duv g m p) (hlt : g (m - p) < g m) : Duv g (m + 1) (m + 1) := by
  have hper := duv_per h
  obtain ⟨hL, h2, h3⟩ := h
  have hp := hL.1
  refine ⟨⟨by omega, fun i h0 hi => ?_⟩, Nat.le_refl _, fun t ht => by omega⟩
  have hdiv : i = p * (i / p) + i % p := (Nat.div_add_mod i p).symm
  have hrlt := Nat.mod_lt i hp
  generalize hr : i % p = r at hdiv hrlt
  generalize hq : i / p = q at hdiv
  rcases Nat.eq_zero_or_pos r with hr0 | hr0
  · -- i is a multiple of p
    have hqp : 0 < q := by
      rcases Nat.eq_zero_or_pos q with h | h
      · subst h; simp at hdiv; omega
      · exact h
    have hip : p ≤ i := by
      have := Nat.le_mul_of_pos_right p hqp
      omega
    have hpi : p ∣ i := ⟨q, by omega⟩
    refine ⟨m - i, by omega, fun j hj => ?_, ?_⟩
    · exact per_cong hper (by omega) (by omega) (by rw [show i + j - j = i from by omega]; exact hpi)
    · rw [show i + (m - i) = m from by omega]
      have : g (m - i) = g (m - p) := per_cong hper (by omega) (by omega) (by
        rw [show m - p - (m - i) = i - p from by omega]
        exact Nat.dvd_sub hpi (Nat.dvd_refl _))
      omega
  · obtain ⟨l, hl1, hl2, hl3⟩ := hL.2 r hr0 hrlt
    have hir : r ≤ i := by omega
    have hdi : ∀ x, p ∣ (i + x) - (r + x) := fun x => ⟨q, by omega⟩
    have heq : ∀ x, i + x < m → g (i + x) = g (r + x) := fun x hx => (per_cong hper hx (by omega) (hdi x)).symm
    rcases Nat.lt_or_ge (i + l) m with hm | hm
    · exact ⟨l, by omega, fun j hj => by rw [heq j (by omega)]; exact hl2 j hj, by rw [heq l hm]; exact hl3⟩
    · refine ⟨m - i, by omega, fun j hj => by rw [heq j (by omega)]; exact hl2 j (by omega), ?_⟩
      rw [show i + (m - i) = m from by omega]
      have hqp : 0 < q := by
        rcases Nat.eq_zero_or_pos q with h | h
        · subst h; simp at hdiv; omega
        · exact h
      have hip : p ≤ p * q := Nat.le_mul_of_pos_right p hqp
      have e1 : g (m - p) = g (r + (m - i)) := (per_cong hper (by omega) (by omega) (by
        have : m - p - (r + (m - i)) = p * (q - 1) := by
          rw [Nat.mul_sub]; omega
        rw [this]; exact ⟨q - 1, rfl⟩)).symm
      rcases Nat.lt_or_ge (m - i) l with h5 | h5
      · have := hl2 (m - i) h5; omega
      · have : m - i = l := by omega
        rw [this] at e1 ⊢; omega

/-- The longest Lyndon prefix of the first n bytes (for n > 0). -/
def IsLong (g : Nat → Nat) (n b : Nat) : Prop := Lyn g b ∧ b ≤ n ∧ ∀ k, b < k → k ≤ n → ¬ Lyn g k

theorem isLong_unique {g : Nat → Nat} {n b c : Nat} (hb : IsLong g n b) (hc : IsLong g n c) : b = c := by
  rcases Nat.lt_trichotomy b c with h | h | h
  · exact absurd hc.1 (hb.2.2 c h hc.2.1)
  · exact h
  · exact absurd hb.1 (hc.2.2 b h hb.2.1)

theorem duv_long {g : Nat → Nat} {n m p : Nat} (h : Duv g m p) (hm : m ≤ n) (he : m < n → g m < g (m - p)) : IsLong g n p := by
  obtain ⟨hL, h2, h3⟩ := h
  have hp := hL.1
  refine ⟨hL, by omega, fun k h4 h5 h6 => ?_⟩
  obtain ⟨l, h7, h8, h9⟩ := h6.2 p hp h4
  rcases Nat.lt_trichotomy (p + l) m with h | h | h
  · have := h3 l (by omega)
    rw [Nat.add_comm] at h9; omega
  · have := he (by omega)
    rw [h, show l = m - p from by omega] at h9; omega
  · have h10 := h8 (m - p) (by omega)
    rw [show p + (m - p) = m from by omega] at h10
    have := he (by omega)
    omega

/-- What is left behind one round goes on in the same way. -/
theorem duv_rest {g : Nat → Nat} {m p : Nat} (h : Duv g m p) (h2 : 2 * p ≤ m) : Duv (sh g p) (m - p) p := by
  obtain ⟨hL, h3, h4⟩ := h
  refine ⟨lyn_congr (fun j hj => ?_) hL, by omega, fun t ht => ?_⟩
  · have := h4 j (by omega)
    rw [this]; unfold sh; congr 1; omega
  · unfold sh
    have := h4 (p + t) (by omega)
    rw [this]; congr 1; omega

/-- Two Lyndon words, the less one first, are one. -/
theorem lyn_join {g : Nat → Nat} {p q : Nat} (ha : Lyn g p) (hb : Lyn (sh g p) q) (hlt : Bef g p (sh g p) q) : Lyn g (p + q) := by
  have hp := ha.1
  have hq := hb.1
  have hat : ∃ l, p + l < p + q ∧ (∀ j, j < l → g j = g (p + j)) ∧ g l < g (p + l) := by
    rcases hlt with ⟨l, h1, h2, h3, h4⟩ | ⟨h1, h2⟩
    · exact ⟨l, by omega, h3, h4⟩
    · obtain ⟨l, h3, h4, h5⟩ := hb.2 p hp h1
      refine ⟨p + l, by omega, fun j hj => ?_, h5⟩
      rcases Nat.lt_or_ge j p with h | h
      · exact h2 j h
      · have := h4 (j - p) (by omega)
        unfold sh at this
        rw [show p + (j - p) = j from by omega] at this
        exact this
  refine ⟨by omega, fun i h0 hi => ?_⟩
  rcases Nat.lt_trichotomy i p with h | h | h
  · obtain ⟨l, h1, h2, h3⟩ := ha.2 i h0 h
    exact ⟨l, by omega, h2, h3⟩
  · subst h; exact hat
  · obtain ⟨L, hL1, hL2, hL3⟩ := hat
    obtain ⟨l, h1, h2, h3⟩ := hb.2 (i - p) (by omega) (by omega)
    unfold sh at h2 h3
    have ei : ∀ x, p + (i - p + x) = i + x := fun x => by omega
    rcases Nat.lt_trichotomy l L with h4 | h4 | h4
    · refine ⟨l, by omega, fun j hj => ?_, ?_⟩
      · rw [hL2 j (by omega), h2 j hj, ei]
      · have := hL2 l h4; rw [ei] at h3; omega
    · subst h4
      refine ⟨l, by omega, fun j hj => ?_, ?_⟩
      · rw [hL2 j hj, h2 j hj, ei]
      · rw [ei] at h3; omega
    · refine ⟨L, by omega, fun j hj => ?_, ?_⟩
      · rw [hL2 j hj, h2 j (by omega), ei]
      · have := h2 L h4; rw [ei] at this; omega

theorem lyn_split {g : Nat → Nat} {p q : Nat} (hp : 0 < p) (hq : 0 < q) (h : Lyn g (p + q)) : Bef g p (sh g p) q := by
  obtain ⟨l, h1, h2, h3⟩ := h.2 p hp (by omega)
  rcases Nat.lt_or_ge l p with h4 | h4
  · exact .inl ⟨l, h4, by omega, h2, h3⟩
  · exact .inr ⟨by omega, fun j hj => h2 j (by omega)⟩

theorem long_exists (g : Nat → Nat) : ∀ n, 0 < n → ∃ b, IsLong g n b := by
  intro n
  induction n with
  | zero => intro h; omega
  | succ n ih =>
    intro _
    rcases Classical.em (Lyn g (n + 1)) with h | h
    · exact ⟨n + 1, h, Nat.le_refl _, fun k h1 h2 => by omega⟩
    · rcases Nat.eq_zero_or_pos n with h0 | h0
      · subst h0; exact absurd (lyn_one g) h
      · obtain ⟨b, h1, h2, h3⟩ := ih h0
        refine ⟨b, h1, by omega, fun k h4 h5 => ?_⟩
        by_cases e : k = n + 1
        · rw [e]; exact h
        · exact h3 k h4 (by omega)

/-- From place i on the list tells the longest Lyndon words, one behind the other, up to place e. -/
def FacAt (f : Nat → Nat) (n : Nat) : Nat → List Int → Nat → Prop
  | i, [], e => i = e
  | i, b :: l, e => ∃ c : Nat, b = c ∧ i < n ∧ IsLong (sh f i) (n - i) c ∧ FacAt f n (i + c) l e

theorem facAt_snoc {f : Nat → Nat} {n : Nat} : ∀ {l : List Int} {i e c : Nat}, FacAt f n i l e → e < n → IsLong (sh f e) (n - e) c → FacAt f n i (l ++ [(c : Int)]) (e + c)
  | [], i, e, c, h, h1, h2 => by
    have h : i = e := h
    subst h
    exact ⟨c, rfl, h1, h2, rfl⟩
  | b :: l, i, e, c, h, h1, h2 => by
    obtain ⟨d, h3, h4, h5, h6⟩ := h
    exact ⟨d, h3, h4, h5, facAt_snoc h6 h1 h2⟩

theorem facAt_le {f : Nat → Nat} {n : Nat} : ∀ {l : List Int} {i e : Nat}, FacAt f n i l e → i + l.length ≤ e
  | [], i, e, h => by have h : i = e := h; subst h; simp
  | b :: l, i, e, h => by
    obtain ⟨d, h3, h4, h5, h6⟩ := h
    have := facAt_le h6
    have := h5.1.1
    simp only [List.length_cons]; omega

theorem facAt_unique {f : Nat → Nat} {n : Nat} : ∀ {l l' : List Int} {i : Nat}, FacAt f n i l n → FacAt f n i l' n → l = l'
  | [], [], i, _, _ => rfl
  | [], b :: l', i, h, h' => by
    have h : i = n := h
    obtain ⟨d, _, h4, _⟩ := h'
    omega
  | b :: l, [], i, h, h' => by
    have h' : i = n := h'
    obtain ⟨d, _, h4, _⟩ := h
    omega
  | b :: l, b' :: l', i, h, h' => by
    obtain ⟨d, h3, h4, h5, h6⟩ := h
    obtain ⟨d', h3', h4', h5', h6'⟩ := h'
    have e := isLong_unique h5 h5'
    subst e
    rw [h3, h3', facAt_unique h6 h6']

theorem fac_exists (f : Nat → Nat) (n : Nat) : ∀ k i, n ≤ i + k → i ≤ n → ∃ l, FacAt f n i l n := by
  intro k
  induction k with
  | zero => intro i h1 h2; exact ⟨[], by show i = n; omega⟩
  | succ k ih =>
    intro i h1 h2
    rcases Nat.lt_or_ge i n with h | h
    · obtain ⟨b, hb⟩ := long_exists (sh f i) (n - i) (by omega)
      have := hb.1.1
      have := hb.2.1
      obtain ⟨l, hl⟩ := ih (i + b) (by omega) (by omega)
      exact ⟨b :: l, b, rfl, h, hb, hl⟩
    · exact ⟨[], by show i = n; omega⟩

theorem facAt_lyn {f : Nat → Nat} {n : Nat} {l : List Int} (h : FacAt f n 0 l n) : l.length = 1 ↔ Lyn f n := by
  have hsh : sh f 0 = f := by funext j; simp [sh]
  constructor
  · intro h1
    match l, h1 with
    | [b], _ =>
      obtain ⟨c, h3, h4, h5, h6⟩ := h
      have h6 : 0 + c = n := h6
      rw [hsh, Nat.sub_zero] at h5
      have : c = n := by omega
      rw [this] at h5
      exact h5.1
  · intro h1
    have : FacAt f n 0 [(n : Int)] n := ⟨n, rfl, h1.1, ⟨by rw [hsh]; exact h1, by omega, fun k h2 h3 => by omega⟩, by show 0 + n = n; omega⟩
    rw [facAt_unique h this]; rfl

/-! The same, reckoned. -/
def lynB (f : Nat → Nat) (n : Nat) : Bool := decide (0 < n) && (List.range n).all fun i => i == 0 || (List.range (n - i)).any fun l => (List.range l).all (fun j => f j == f (i + j)) && decide (f l < f (i + l))

theorem lynB_iff {f : Nat → Nat} {n : Nat} : lynB f n = true ↔ Lyn f n := by
  unfold lynB Lyn
  simp only [Bool.and_eq_true, decide_eq_true_eq, List.all_eq_true, List.any_eq_true, List.mem_range, Bool.or_eq_true, beq_iff_eq]
  refine and_congr_right fun h0 => ⟨fun h i h1 h2 => ?_, fun h i h2 => ?_⟩
  · rcases h i h2 with h3 | ⟨l, h3, h4, h5⟩
    · omega
    · exact ⟨l, by omega, h4, h5⟩
  · rcases Nat.eq_zero_or_pos i with h3 | h3
    · exact .inl h3
    · obtain ⟨l, h4, h5, h6⟩ := h i h3 h2
      exact .inr ⟨l, by omega, h5, h6⟩

def longB (g : Nat → Nat) (n b : Nat) : Bool := lynB g b && decide (b ≤ n) && (List.range (n + 1)).all fun k => decide (k ≤ b) || !lynB g k

theorem longB_ok {g : Nat → Nat} {n b : Nat} (h : longB g n b = true) : IsLong g n b := by
  unfold longB at h
  simp only [Bool.and_eq_true, decide_eq_true_eq, List.all_eq_true, List.mem_range, Bool.or_eq_true, Bool.not_eq_true'] at h
  obtain ⟨⟨h1, h2⟩, h3⟩ := h
  refine ⟨lynB_iff.1 h1, h2, fun k h4 h5 h6 => ?_⟩
  rcases h3 k (by omega) with h7 | h7
  · omega
  · rw [lynB_iff.2 h6] at h7; cases h7

def facB (f : Nat → Nat) (n : Nat) : Nat → List Nat → Bool
  | i, [] => i == n
  | i, b :: l => decide (i < n) && longB (sh f i) (n - i) b && facB f n (i + b) l

theorem facB_ok {f : Nat → Nat} {n : Nat} : ∀ {l : List Nat} {i : Nat}, facB f n i l = true → FacAt f n i (l.map fun b : Nat => (b : Int)) n
  | [], i, h => by show i = n; simpa [facB] using h
  | b :: l, i, h => by
    simp only [facB, Bool.and_eq_true, decide_eq_true_eq] at h
    exact ⟨b, rfl, h.1.1, longB_ok h.1.2, facB_ok h.2⟩
end Go.Proofs.Ythlibdpemocpmaa
