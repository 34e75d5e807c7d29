/- Plain words on the Z-function: how far each end of a text goes with its beginning. No program is in sight here. -/
import Derived.Test.YthlibdpemocpmaaStr
namespace Go.Proofs.Ythlibdpemocpmaa
set_option linter.unusedVariables false
set_option linter.unusedSimpArgs false

/-- How many of the first m bytes from place i on are as the text's first ones. -/
def preUp (f : Nat → Nat) (i : Nat) : Nat → Nat
  | 0 => 0
  | m + 1 => if preUp f i m = m ∧ f m = f (i + m) then m + 1 else preUp f i m

/-- The Z-function. -/
def zf (f : Nat → Nat) (n i : Nat) : Nat := preUp f i (n - i)

theorem preUp_spec (f : Nat → Nat) (i m : Nat) : preUp f i m ≤ m ∧ (∀ j, j < preUp f i m → f j = f (i + j)) ∧ (preUp f i m < m → f (preUp f i m) ≠ f (i + preUp f i m)) := by
  induction m with
  | zero => simp [preUp]
  | succ m ih =>
    obtain ⟨h1, h2, h3⟩ := ih
    unfold preUp
    by_cases h : preUp f i m = m ∧ f m = f (i + m)
    · rw [if_pos h]
      refine ⟨Nat.le_refl _, fun j hj => ?_, fun h4 => absurd h4 (by omega)⟩
      by_cases e : j = m
      · rw [e]; exact h.2
      · exact h2 j (by omega)
    · rw [if_neg h]
      refine ⟨by omega, h2, fun h4 => ?_⟩
      by_cases e : preUp f i m = m
      · rw [e]; exact fun h5 => h ⟨e, h5⟩
      · exact h3 (by omega)

theorem zf_le (f : Nat → Nat) (n i : Nat) : zf f n i ≤ n - i := (preUp_spec f i (n - i)).1
theorem zf_same (f : Nat → Nat) (n i j : Nat) (h : j < zf f n i) : f j = f (i + j) := (preUp_spec f i (n - i)).2.1 j h
theorem zf_stop (f : Nat → Nat) (n i : Nat) (h : i + zf f n i < n) : f (zf f n i) ≠ f (i + zf f n i) := (preUp_spec f i (n - i)).2.2 (by have := zf_le f n i; unfold zf at *; omega)

theorem zf_eq {f : Nat → Nat} {n i v : Nat} (hi : i + v ≤ n) (hs : ∀ j, j < v → f j = f (i + j)) (he : i + v < n → f v ≠ f (i + v)) : zf f n i = v := by
  rcases Nat.lt_trichotomy (zf f n i) v with h | h | h
  · exact absurd (hs _ h) (zf_stop f n i (by omega))
  · exact h
  · have h1 := zf_le f n i
    exact absurd (zf_same f n i v h) (he (by omega))

theorem zf_zero (f : Nat → Nat) (n : Nat) : zf f n 0 = n := zf_eq (by omega) (fun j hj => by simp) (fun h => by omega)

/-- What zeta.Of has filled after k places. -/
def zTo (f : Nat → Nat) (n k : Nat) : List Int := (List.range n).map fun j => if j < k then (zf f n j : Int) else 0
def zOf (f : Nat → Nat) (n : Nat) : List Int := (List.range n).map fun j => (zf f n j : Int)

@[simp] theorem zTo_len (f : Nat → Nat) (n k : Nat) : (zTo f n k).length = n := by simp [zTo]
@[simp] theorem zOf_len (f : Nat → Nat) (n : Nat) : (zOf f n).length = n := by simp [zOf]

theorem zTo_zero (f : Nat → Nat) (n : Nat) : List.replicate n (0 : Int) = zTo f n 0 := by
  refine List.ext_getElem (by simp [zTo]) fun i h1 h2 => ?_
  simp [zTo]

theorem zTo_all (f : Nat → Nat) (n k : Nat) (h : n ≤ k) : zTo f n k = zOf f n := by
  refine List.ext_getElem (by simp) fun i h1 h2 => ?_
  simp at h2
  simp only [zTo, zOf, List.getElem_map, List.getElem_range]
  rw [if_pos (by omega)]

theorem zTo_get (f : Nat → Nat) (n k j : Nat) (hj : j < k) (hn : j < n) : (zTo f n k)[j]? = some (zf f n j : Int) := by
  simp [zTo, hn, hj]

theorem zTo_get0 (f : Nat → Nat) (n k : Nat) (hn : k < n) : (zTo f n k)[k]? = some 0 := by
  simp [zTo, hn]

theorem zTo_set (f : Nat → Nat) (n k : Nat) (h : k < n) : (zTo f n k).set k (zf f n k : Int) = zTo f n (k + 1) := by
  refine List.ext_getElem (by simp) fun i h1 h2 => ?_
  simp only [zTo, List.getElem_set, List.getElem_map, List.getElem_range]
  by_cases e : k = i
  · subst e; simp
  · rw [if_neg e]
    by_cases h3 : i < k
    · rw [if_pos h3, if_pos (by omega)]
    · rw [if_neg h3, if_neg (by omega)]

theorem zOf_get (f : Nat → Nat) (n k : Nat) (hn : k < n) : (zOf f n)[k]? = some (zf f n k : Int) := by
  simp [zOf, hn]

/-- The window that zeta.Of keeps: from l to r the text goes as from its beginning. -/
def Win (f : Nat → Nat) (n i l r : Nat) : Prop := l ≤ r ∧ r ≤ n ∧ (i < r → 0 < l ∧ l < i) ∧ ∀ k, l ≤ k → k < r → f k = f (k - l)

theorem win_start (f : Nat → Nat) (n : Nat) : Win f n 1 0 0 := ⟨by omega, by omega, fun h => by omega, fun k h1 h2 => by omega⟩

theorem win_next {f : Nat → Nat} {n i l r : Nat} (h : Win f n i l r) : Win f n (i + 1) l r :=
  ⟨h.1, h.2.1, fun h4 => by have := h.2.2.1 (by omega); omega, h.2.2.2⟩

theorem win_new {f : Nat → Nat} {n i : Nat} (h0 : 0 < i) (hi : i ≤ n) : Win f n (i + 1) i (i + zf f n i) :=
  ⟨by omega, by have := zf_le f n i; omega, fun h => by omega, fun k h1 h2 => by
    have := zf_same f n i (k - i) (by omega)
    rw [this]; congr 1; omega⟩

theorem win_min {f : Nat → Nat} {n i l r : Nat} (h : Win f n i l r) (hr : i < r) (v : Nat) (hv : v ≤ r - i) (hz : v ≤ zf f n (i - l)) : i + v ≤ n ∧ ∀ j, j < v → f j = f (i + j) := by
  obtain ⟨h1, h2, h3, h4⟩ := h
  have h5 := h3 hr
  refine ⟨by omega, fun j hj => ?_⟩
  rw [h4 (i + j) (by omega) (by omega), zf_same f n (i - l) j (by omega)]
  congr 1; omega
end Go.Proofs.Ythlibdpemocpmaa
