/- Plain words on the places of a word in a text, and on the search that never looks back. No program is in sight here. -/
import Derived.Test.YthlibdpemocpmaaStr
namespace Go.Proofs.Ythlibdpemocpmaa
set_option linter.unusedVariables false
set_option linter.unusedSimpArgs false

/-- The first k bytes of the word end the first i bytes of the text. -/
def Fits (f t : Nat → Nat) (i k : Nat) : Prop := k ≤ i ∧ ∀ j, j < k → f j = t (i - k + j)
instance (f t : Nat → Nat) (i k : Nat) : Decidable (Fits f t i k) := by unfold Fits; exact inferInstance

/-- The longest beginning of the word, of n bytes, that ends the first i bytes of the text. -/
def kst (f t : Nat → Nat) (n i : Nat) : Nat := lastSuch (fun k => decide (Fits f t i k)) (n + 1)

theorem fits_zero (f t : Nat → Nat) (i : Nat) : Fits f t i 0 := ⟨Nat.zero_le _, fun j hj => by omega⟩
theorem kst_fits (f t : Nat → Nat) (n i : Nat) : Fits f t i (kst f t n i) := by
  have := (lastSuch_le (fun k => decide (Fits f t i k)) (n + 1) 0 (by omega) (by simpa using fits_zero f t i)).2
  simpa [kst] using this
theorem kst_max {f t : Nat → Nat} {n i k : Nat} (hk : k ≤ n) (h : Fits f t i k) : k ≤ kst f t n i :=
  (lastSuch_le (fun k => decide (Fits f t i k)) (n + 1) k (by omega) (by simpa using h)).1
theorem kst_le (f t : Nat → Nat) (n i : Nat) : kst f t n i ≤ n := by
  have := lastSuch_lt (fun k => decide (Fits f t i k)) (n + 1) (by omega)
  unfold kst; omega
theorem kst_zero (f t : Nat → Nat) (n : Nat) : kst f t n 0 = 0 := by have := (kst_fits f t n 0).1; omega
theorem kst_eq {f t : Nat → Nat} {n i r : Nat} (h : Fits f t i r) (hr : r ≤ n) (hm : ∀ k, k ≤ n → Fits f t i k → k ≤ r) : kst f t n i = r := by
  have h1 := kst_max hr h
  have h2 := hm _ (kst_le f t n i) (kst_fits f t n i)
  omega

theorem fits_of_bdr {f t : Nat → Nat} {i q a : Nat} (hq : Fits f t i q) (ha : Bdr f q a) : Fits f t i a := by
  have := ha.1; have := hq.1
  refine ⟨by omega, fun j hj => ?_⟩
  rw [ha.2 j hj, hq.2 (q - a + j) (by omega)]
  congr 1; omega

theorem bdr_of_fits {f t : Nat → Nat} {i q a : Nat} (hq : Fits f t i q) (ha : Fits f t i a) (h : a < q) : Bdr f q a := by
  have := hq.1
  refine ⟨h, fun j hj => ?_⟩
  rw [ha.2 j hj, hq.2 (q - a + j) (by omega)]
  congr 1; omega

theorem fits_succ {f t : Nat → Nat} {i q : Nat} : Fits f t (i + 1) (q + 1) ↔ Fits f t i q ∧ f q = t i := by
  constructor
  · rintro ⟨h1, h2⟩
    refine ⟨⟨by omega, fun j hj => ?_⟩, ?_⟩
    · rw [h2 j (by omega)]; congr 1; omega
    · rw [h2 q (by omega)]; congr 1; omega
  · rintro ⟨⟨h1, h2⟩, h3⟩
    refine ⟨by omega, fun j hj => ?_⟩
    by_cases e : j = q
    · subst e; rw [h3]; congr 1; omega
    · rw [h2 j (by omega)]; congr 1; omega

/-- What the inner loop of find.All keeps. -/
def KCand (f t : Nat → Nat) (n i q : Nat) : Prop := q ≤ n ∧ Fits f t i q ∧ ∀ q', q' ≤ n → Fits f t i q' → q < q' → (q' = n ∨ f q' ≠ t i)

theorem kcand_start (f t : Nat → Nat) (n i : Nat) : KCand f t n i (kst f t n i) :=
  ⟨kst_le _ _ _ _, kst_fits _ _ _ _, fun q' h1 h2 h3 => by have := kst_max h1 h2; omega⟩

theorem kcand_step {f t : Nat → Nat} {n i q : Nat} (h : KCand f t n i q) (hq : 0 < q) (hne : q = n ∨ f q ≠ t i) : KCand f t n i (fail f q) := by
  obtain ⟨h1, h2, h3⟩ := h
  have hf := fail_bdr (f := f) hq
  refine ⟨by have := hf.1; omega, fits_of_bdr h2 hf, fun q' h4 h5 h6 => ?_⟩
  rcases Nat.lt_trichotomy q' q with h7 | h7 | h7
  · have := fail_max (bdr_of_fits h2 h5 h7); omega
  · subst h7; exact hne
  · exact h3 q' h4 h5 h7

theorem kcand_hit {f t : Nat → Nat} {n i q : Nat} (h : KCand f t n i q) (hq : q < n) (he : f q = t i) : kst f t n (i + 1) = q + 1 := by
  refine kst_eq (fits_succ.2 ⟨h.2.1, he⟩) (by omega) fun k hk hf => ?_
  rcases k with _ | k
  · omega
  · obtain ⟨h1, h2⟩ := fits_succ.1 hf
    rcases Nat.lt_or_ge q k with h3 | h3
    · rcases h.2.2 k (by omega) h1 h3 with h4 | h4
      · omega
      · exact absurd h2 h4
    · omega

theorem kcand_miss {f t : Nat → Nat} {n i : Nat} (h : KCand f t n i 0) (hn : 0 < n) (he : f 0 ≠ t i) : kst f t n (i + 1) = 0 := by
  refine kst_eq (fits_zero _ _ _) (by omega) fun k hk hf => ?_
  rcases k with _ | k
  · omega
  · obtain ⟨h1, h2⟩ := fits_succ.1 hf
    rcases Nat.eq_zero_or_pos k with h3 | h3
    · subst h3; exact absurd h2 he
    · rcases h.2.2 k (by omega) h1 h3 with h4 | h4
      · omega
      · exact absurd h2 h4

/-- The word, of n bytes, stands at place p of the first m bytes of the text. -/
def At (f : Nat → Nat) (n : Nat) (t : Nat → Nat) (m p : Nat) : Prop := p + n ≤ m ∧ ∀ j, j < n → f j = t (p + j)
instance (f t : Nat → Nat) (n m p : Nat) : Decidable (At f n t m p) := by unfold At; exact inferInstance

/-- All places, rising. -/
def pos (f : Nat → Nat) (n : Nat) (t : Nat → Nat) (m : Nat) : List Nat := (List.range m).filter fun p => decide (At f n t m p)
def posI (f : Nat → Nat) (n : Nat) (t : Nat → Nat) (m : Nat) : List Int := (pos f n t m).map fun p : Nat => (p : Int)

theorem mem_pos {f t : Nat → Nat} {n m p : Nat} (hn : 0 < n) : p ∈ pos f n t m ↔ At f n t m p := by
  unfold pos
  rw [List.mem_filter, List.mem_range]
  constructor
  · rintro ⟨_, h⟩; simpa using h
  · intro h; exact ⟨by have := h.1; omega, by simpa using h⟩

theorem pos_pair (f : Nat → Nat) (n : Nat) (t : Nat → Nat) (m : Nat) : (pos f n t m).Pairwise (· < ·) :=
  List.Pairwise.filter _ List.pairwise_lt_range

theorem pos_len (f : Nat → Nat) (n : Nat) (t : Nat → Nat) (m : Nat) : (pos f n t m).length ≤ m := by
  unfold pos
  exact Nat.le_trans (List.length_filter_le _ _) (by simp)
@[simp] theorem posI_len (f : Nat → Nat) (n : Nat) (t : Nat → Nat) (m : Nat) : (posI f n t m).length = (pos f n t m).length := by simp [posI]
theorem pos_nil (f : Nat → Nat) (n : Nat) (t : Nat → Nat) : pos f n t 0 = [] := rfl

theorem filter_upto {p p' : Nat → Bool} {q : Nat} (h0 : ∀ k, k < q → p k = p' k) (h1 : ∀ k, q ≤ k → p k = false) : ∀ M, q ≤ M → (List.range M).filter p = (List.range q).filter p' := by
  intro M
  induction M with
  | zero => intro h; have : q = 0 := by omega
            subst this; rfl
  | succ M ih =>
    intro h
    rcases Nat.lt_or_ge M q with h2 | h2
    · have : q = M + 1 := by omega
      subst this
      exact List.filter_congr fun k hk => h0 k (by simpa using hk)
    · rw [List.range_succ, List.filter_append, ih h2]
      simp [h1 M h2]

theorem pos_fits {f t : Nat → Nat} {n m : Nat} (hn : 0 < n) : pos f n t (m + 1) = pos f n t m ++ (if Fits f t (m + 1) n then [m + 1 - n] else []) := by
  rcases Nat.lt_or_ge m n with h | h
  · rcases Nat.lt_or_ge (m + 1) n with h2 | h2
    · rw [if_neg (fun h3 => by have := h3.1; omega), List.append_nil]
      have e : ∀ m', m' < n → pos f n t m' = [] := fun m' hm => by
        rw [List.eq_nil_iff_forall_not_mem]
        intro p hp
        have := ((mem_pos hn).1 hp).1
        omega
      rw [e _ h2, e _ h]
    · have hm : m + 1 = n := by omega
      have e : pos f n t m = [] := by
        rw [List.eq_nil_iff_forall_not_mem]
        intro p hp
        have := ((mem_pos hn).1 hp).1
        omega
      rw [e, List.nil_append]
      unfold pos
      have h1 := filter_upto (p := fun p => decide (At f n t (m + 1) p)) (p' := fun p => decide (At f n t (m + 1) p)) (q := 1) (fun _ _ => rfl) (fun k hk => by
        simp only [decide_eq_false_iff_not]
        intro h3
        have := h3.1
        omega) (m + 1) (by omega)
      rw [h1]
      have e2 : At f n t (m + 1) 0 ↔ Fits f t (m + 1) n := by
        unfold At Fits
        constructor
        · rintro ⟨a, b⟩; exact ⟨by omega, fun j hj => by rw [b j hj]; congr 1; omega⟩
        · rintro ⟨a, b⟩; exact ⟨by omega, fun j hj => by rw [b j hj]; congr 1; omega⟩
      have e3 : m + 1 - n = 0 := by omega
      rw [e3]
      by_cases h4 : Fits f t (m + 1) n
      · rw [if_pos h4]; simp [List.range_succ, e2.2 h4]
      · rw [if_neg h4]
        have : ¬ At f n t (m + 1) 0 := fun h5 => h4 (e2.1 h5)
        simp [List.range_succ, this]
  · have h1 := filter_upto (p := fun p => decide (At f n t m p)) (p' := fun p => decide (At f n t (m + 1) p)) (q := m + 1 - n) (fun k hk => by
      congr 1
      apply propext
      unfold At
      exact ⟨fun h => ⟨by omega, h.2⟩, fun h => ⟨by omega, h.2⟩⟩) (fun k hk => by
      simp only [decide_eq_false_iff_not]
      intro h3
      have := h3.1
      omega) m (by omega)
    have h2 := filter_upto (p := fun p => decide (At f n t (m + 1) p)) (p' := fun p => decide (At f n t (m + 1) p)) (q := m + 1 - n + 1) (fun _ _ => rfl) (fun k hk => by
      simp only [decide_eq_false_iff_not]
      intro h3
      have := h3.1
      omega) (m + 1) (by omega)
    unfold pos
    rw [h1, h2, List.range_succ, List.filter_append]
    congr 1
    have e2 : At f n t (m + 1) (m + 1 - n) ↔ Fits f t (m + 1) n := by
      unfold At Fits
      exact ⟨fun h => ⟨by omega, h.2⟩, fun h => ⟨by omega, h.2⟩⟩
    by_cases h4 : Fits f t (m + 1) n
    · rw [if_pos h4]; simp [e2.2 h4]
    · rw [if_neg h4]
      have : ¬ At f n t (m + 1) (m + 1 - n) := fun h5 => h4 (e2.1 h5)
      simp [this]

theorem posI_hit {f t : Nat → Nat} {n m : Nat} (hn : 0 < n) (h : kst f t n (m + 1) = n) : posI f n t (m + 1) = posI f n t m ++ [(m : Int) - n + 1] := by
  have h1 := kst_fits f t n (m + 1)
  rw [h] at h1
  unfold posI
  rw [pos_fits hn, if_pos h1, List.map_append]
  congr 1
  have := h1.1
  simp
  omega

theorem posI_miss {f t : Nat → Nat} {n m : Nat} (hn : 0 < n) (h : kst f t n (m + 1) ≠ n) : posI f n t (m + 1) = posI f n t m := by
  unfold posI
  rw [pos_fits hn, if_neg (fun h2 => h (by have := kst_max (Nat.le_refl _) h2; have := kst_le f t n (m + 1); omega)), List.append_nil]
end Go.Proofs.Ythlibdpemocpmaa
