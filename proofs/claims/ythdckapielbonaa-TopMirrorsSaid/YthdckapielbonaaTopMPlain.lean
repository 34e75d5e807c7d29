/- The plain law of TopMirrors: what a text and its end turned have in common, and its longest mirror. -/
import Derived.Test.YthdckapielbonaaFarPlain
import Derived.Test.YthdckapielbonaaBack
import Derived.Test.YthdckapielbonaaMirLPlain
namespace Go.Proofs.Ythdckapielbonaa
set_option linter.unusedVariables false
set_option linter.unusedSimpArgs false

theorem pal_back {s : ByteArray} : (∀ j, j < s.size → bt s j = bt (back s) j) ↔ ∀ j, j < s.size → bt s j = bt s (s.size - 1 - j) := by
  constructor
  · intro h j hj; rw [h j hj, back_bt s j hj]
  · intro h j hj; rw [back_bt s j hj]; exact h j hj

theorem top_mirrors (s : ByteArray) :
    mLong (bt s) s.size ≤ s.size ∧ mLong (bt s) s.size ≤ lcs (bt s) (bt (back s)) s.size s.size s.size s.size ∧
    (far (bt s) (bt (back s)) s.size s.size = 0 ↔ mLong (bt s) s.size = s.size) ∧ (lcs (bt s) (bt (back s)) s.size s.size s.size s.size = s.size ↔ far (bt s) (bt (back s)) s.size s.size = 0) := by
  obtain ⟨h1, h2, h3⟩ := mLong_spec (bt s) s.size
  have hpal : far (bt s) (bt (back s)) s.size s.size = 0 ↔ ∀ j, j < s.size → bt s j = bt (back s) j :=
    ⟨fun h => (far_none _ _ h).2, fun h => far_same _ h⟩
  refine ⟨by omega, ?_, ?_, ?_⟩
  · generalize hA : mAt (bt s) s.size = A at *
    generalize hL : mLong (bt s) s.size = L at *
    have h4 : L ≤ lcs (bt s) (bt (back s)) s.size s.size (s.size - A) (A + L) := by
      refine lcs_sub L _ _ (by omega) (by omega) (fun j hj => ?_) (by omega) (by omega)
      rw [back_bt s _ (by omega), show s.size - (s.size - A) + j = A + j from by omega, show s.size - 1 - (s.size - (A + L) + j) = A + (L - 1 - j) from by omega]
      exact h2 j hj
    exact Nat.le_trans h4 (lcs_mono (by omega) (by omega))
  · rw [hpal, pal_back]
    constructor
    · intro h
      rcases Nat.eq_zero_or_pos s.size with h0 | h0
      · omega
      · have := h3 0 s.size h0 (by omega) (fun j hj => by rw [Nat.zero_add, Nat.zero_add]; exact h j hj)
        omega
    · intro h j hj
      have e : mAt (bt s) s.size = 0 := by omega
      have := h2 j (by omega)
      rw [e, h, Nat.zero_add, Nat.zero_add] at this
      exact this
  · rw [hpal]
    constructor
    · intro h j hj
      have := lcs_full _ h (Nat.le_refl _) (Nat.le_refl _) j hj
      rwa [Nat.sub_self, Nat.zero_add] at this
    · intro h
      have h4 := lcs_sub (f := bt s) (g := bt (back s)) (n := s.size) (m := s.size) s.size s.size s.size (Nat.le_refl _) (Nat.le_refl _) (fun j hj => by rw [Nat.sub_self, Nat.zero_add]; exact h j hj) (Nat.le_refl _) (Nat.le_refl _)
      have := (lcs_le (f := bt s) (g := bt (back s)) (n := s.size) (m := s.size) (p := s.size) (q := s.size)).1
      omega
end Go.Proofs.Ythdckapielbonaa
