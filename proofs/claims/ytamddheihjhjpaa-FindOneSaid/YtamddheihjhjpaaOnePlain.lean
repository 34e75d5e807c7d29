/- Plain words on the places of a word of one byte. No program is in sight here. -/
import Derived.Test.YtamddheihjhjpaaApartPlain
namespace Go.Proofs.Ytamddheihjhjpaa
set_option linter.unusedVariables false
set_option linter.unusedSimpArgs false

theorem at_one {f t : Nat → Nat} {m p : Nat} : At f 1 t m p ↔ p < m ∧ f 0 = t p := by
  unfold At
  constructor
  · rintro ⟨h1, h2⟩; exact ⟨by omega, h2 0 (by omega)⟩
  · rintro ⟨h1, h2⟩; exact ⟨by omega, fun j hj => by
      obtain rfl : j = 0 := by omega
      exact h2⟩

theorem pos_one (f t : Nat → Nat) (m : Nat) : pos f 1 t m = (List.range m).filter fun p => decide (f 0 = t p) := by
  unfold pos
  refine List.filter_congr fun p hp => ?_
  have hp : p < m := by simpa using hp
  rw [Bool.eq_iff_iff]
  simp only [decide_eq_true_eq]
  rw [at_one]
  exact ⟨fun h => h.2, fun h => ⟨hp, h⟩⟩

theorem pos_one_hit {f t : Nat → Nat} {m : Nat} (h : f 0 = t m) : pos f 1 t (m + 1) = pos f 1 t m ++ [m] := by
  rw [pos_one, pos_one, List.range_succ, List.filter_append]
  simp [h]
theorem pos_one_miss {f t : Nat → Nat} {m : Nat} (h : f 0 ≠ t m) : pos f 1 t (m + 1) = pos f 1 t m := by
  rw [pos_one, pos_one, List.range_succ, List.filter_append]
  simp [h]

theorem pos_one_pre (f t : Nat → Nat) (i : Nat) : ∀ m, i ≤ m → ∃ r, pos f 1 t m = pos f 1 t i ++ r := by
  intro m
  induction m with
  | zero => intro h; obtain rfl : i = 0 := by omega
            exact ⟨[], by simp⟩
  | succ m ih =>
    intro h
    rcases Nat.lt_or_ge m i with h1 | h1
    · obtain rfl : i = m + 1 := by omega
      exact ⟨[], by simp⟩
    · obtain ⟨r, hr⟩ := ih h1
      by_cases he : f 0 = t m
      · exact ⟨r ++ [m], by rw [pos_one_hit he, hr, List.append_assoc]⟩
      · exact ⟨r, by rw [pos_one_miss he, hr]⟩

/-- The place that a byte is, among all. -/
theorem pos_one_get {f t : Nat → Nat} {m i : Nat} (hi : i < m) (h : f 0 = t i) : (posI f 1 t m)[(pos f 1 t i).length]? = some (i : Int) := by
  obtain ⟨r, hr⟩ := pos_one_pre f t (i + 1) m hi
  unfold posI
  rw [hr, pos_one_hit h, List.getElem?_map, List.append_assoc, List.getElem?_append_right (Nat.le_refl _)]
  simp
end Go.Proofs.Ytamddheihjhjpaa
