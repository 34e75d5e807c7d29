/- Plain words on the mirrors of a text turned. No program is in sight here. -/
import Derived.Test.YthdckapielbonaaMirPlain
namespace Go.Proofs.Ythdckapielbonaa
set_option linter.unusedVariables false
set_option linter.unusedSimpArgs false

theorem mir_ext {f : Nat → Nat} {n e i : Nat} {g : Nat → Nat} {i' : Nat} (hn : 0 < n) (h : ∀ j, (j + e ≤ i ∧ i + j < n ∧ g (i - j - e) = g (i + j)) ↔ (j + e ≤ i' ∧ i' + j < n ∧ f (i' - j - e) = f (i' + j))) :
    mir g n e i = mir f n e i' := by
  refine mir_eq hn (fun j hj => (h j).2 (mir_mir f n e i' j hj)) (fun hs => mir_stop f n e i' hn ((h _).1 hs))

theorem mir_back0 {f g : Nat → Nat} {n i : Nat} (h : ∀ j, j < n → g j = f (n - 1 - j)) (hi : i < n) : mir g n 0 i = mir f n 0 (n - 1 - i) := by
  refine mir_ext (by omega) fun j => ?_
  constructor
  · rintro ⟨h1, h2, h3⟩
    refine ⟨by omega, by omega, ?_⟩
    rw [h _ (by omega), h _ (by omega)] at h3
    rw [show n - 1 - i - j - 0 = n - 1 - (i + j) from by omega, show n - 1 - i + j = n - 1 - (i - j - 0) from by omega]
    exact h3.symm
  · rintro ⟨h1, h2, h3⟩
    refine ⟨by omega, by omega, ?_⟩
    rw [h _ (by omega), h _ (by omega)]
    rw [show n - 1 - i - j - 0 = n - 1 - (i + j) from by omega, show n - 1 - i + j = n - 1 - (i - j - 0) from by omega] at h3
    exact h3.symm

theorem mir_back1 {f g : Nat → Nat} {n i : Nat} (h : ∀ j, j < n → g j = f (n - 1 - j)) (h0 : 0 < i) (hi : i < n) : mir g n 1 (n - i) = mir f n 1 i := by
  refine mir_ext (by omega) fun j => ?_
  constructor
  · rintro ⟨h1, h2, h3⟩
    refine ⟨by omega, by omega, ?_⟩
    rw [h _ (by omega), h _ (by omega)] at h3
    rw [show n - 1 - (n - i - j - 1) = i + j from by omega, show n - 1 - (n - i + j) = i - j - 1 from by omega] at h3
    exact h3.symm
  · rintro ⟨h1, h2, h3⟩
    refine ⟨by omega, by omega, ?_⟩
    rw [h _ (by omega), h _ (by omega)]
    rw [show n - 1 - (n - i - j - 1) = i + j from by omega, show n - 1 - (n - i + j) = i - j - 1 from by omega]
    exact h3.symm

theorem mAll_back {f g : Nat → Nat} {n : Nat} (h : ∀ j, j < n → g j = f (n - 1 - j)) : (mAll f n 0).reverse = mAll g n 0 := by
  refine List.ext_getElem (by simp) fun i h1 h2 => ?_
  simp at h2
  rw [List.getElem_reverse]
  simp only [mAll, List.getElem_map, List.getElem_range, List.length_map, List.length_range]
  rw [mir_back0 h h2]
end Go.Proofs.Ythdckapielbonaa
