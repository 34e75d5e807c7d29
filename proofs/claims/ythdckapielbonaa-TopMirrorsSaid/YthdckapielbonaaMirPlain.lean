/- Plain words on mirrors (palindromes): how far one goes around a place. No program is in sight here. -/
import Derived.Test.YthdckapielbonaaStr
namespace Go.Proofs.Ythdckapielbonaa
set_option linter.unusedVariables false
set_option linter.unusedSimpArgs false

/-- Around place i (e = 0: in the middle; e = 1: just behind it) k bytes go alike both ways. -/
def Mir (f : Nat → Nat) (n e i k : Nat) : Prop := ∀ j, j < k → j + e ≤ i ∧ i + j < n ∧ f (i - j - e) = f (i + j)

def mirOk (f : Nat → Nat) (n e i j : Nat) : Bool := decide (j + e ≤ i) && decide (i + j < n) && (f (i - j - e) == f (i + j))

theorem mirOk_iff {f : Nat → Nat} {n e i j : Nat} : mirOk f n e i j = true ↔ j + e ≤ i ∧ i + j < n ∧ f (i - j - e) = f (i + j) := by
  unfold mirOk
  simp only [Bool.and_eq_true, decide_eq_true_eq, beq_iff_eq, and_assoc]

def mirUp (f : Nat → Nat) (n e i : Nat) : Nat → Nat
  | 0 => 0
  | m + 1 => if mirUp f n e i m = m ∧ mirOk f n e i m = true then m + 1 else mirUp f n e i m

/-- How far. -/
def mir (f : Nat → Nat) (n e i : Nat) : Nat := mirUp f n e i n

theorem mirUp_spec (f : Nat → Nat) (n e i m : Nat) : mirUp f n e i m ≤ m ∧ Mir f n e i (mirUp f n e i m) ∧ (mirUp f n e i m < m → mirOk f n e i (mirUp f n e i m) = false) := by
  induction m with
  | zero => exact ⟨Nat.le_refl _, fun j hj => by simp [mirUp] at hj, fun h => by omega⟩
  | succ m ih =>
    obtain ⟨h1, h2, h3⟩ := ih
    unfold mirUp
    by_cases h : mirUp f n e i m = m ∧ mirOk f n e i m = true
    · rw [if_pos h]
      refine ⟨Nat.le_refl _, fun j hj => ?_, fun h => by omega⟩
      by_cases e' : j = m
      · rw [e']; exact mirOk_iff.1 h.2
      · exact h2 j (by omega)
    · rw [if_neg h]
      refine ⟨by omega, h2, fun h4 => ?_⟩
      by_cases e' : mirUp f n e i m = m
      · rw [e']
        cases hq : mirOk f n e i m
        · rfl
        · exact absurd ⟨e', hq⟩ h
      · exact h3 (by omega)

theorem mir_mir (f : Nat → Nat) (n e i : Nat) : Mir f n e i (mir f n e i) := (mirUp_spec f n e i n).2.1

theorem mir_bd {f : Nat → Nat} {n e i k : Nat} (h : Mir f n e i k) (h0 : 0 < k) : k + e ≤ i + 1 ∧ i + k ≤ n := by
  have := h (k - 1) (by omega)
  omega

theorem mir_stop (f : Nat → Nat) (n e i : Nat) (hn : 0 < n) : ¬ (mir f n e i + e ≤ i ∧ i + mir f n e i < n ∧ f (i - mir f n e i - e) = f (i + mir f n e i)) := by
  intro h
  have h1 := (mirUp_spec f n e i n).1
  have h2 := (mirUp_spec f n e i n).2.2
  by_cases hlt : mir f n e i < n
  · have := h2 hlt
    have h3 := mirOk_iff.2 h
    unfold mir at h3
    rw [this] at h3; cases h3
  · unfold mir at *; omega

theorem mir_eq {f : Nat → Nat} {n e i v : Nat} (hn : 0 < n) (h : Mir f n e i v) (hs : ¬ (v + e ≤ i ∧ i + v < n ∧ f (i - v - e) = f (i + v))) : mir f n e i = v := by
  rcases Nat.lt_trichotomy (mir f n e i) v with h1 | h1 | h1
  · exact absurd (h _ h1) (mir_stop f n e i hn)
  · exact h1
  · exact absurd (mir_mir f n e i v h1) hs

theorem mir_max {f : Nat → Nat} {n e i k : Nat} (hn : 0 < n) (h : Mir f n e i k) : k ≤ mir f n e i := by
  rcases Nat.lt_or_ge (mir f n e i) k with h1 | h1
  · exact absurd (h _ h1) (mir_stop f n e i hn)
  · exact h1

/-- What mirror.grow has filled after k places. -/
def mTo (f : Nat → Nat) (n e k : Nat) : List Int := (List.range n).map fun j => if j < k then (mir f n e j : Int) else 0
def mAll (f : Nat → Nat) (n e : Nat) : List Int := (List.range n).map fun j => (mir f n e j : Int)

@[simp] theorem mTo_len (f : Nat → Nat) (n e k : Nat) : (mTo f n e k).length = n := by simp [mTo]
@[simp] theorem mAll_len (f : Nat → Nat) (n e : Nat) : (mAll f n e).length = n := by simp [mAll]

theorem mTo_zero (f : Nat → Nat) (n e : Nat) : List.replicate n (0 : Int) = mTo f n e 0 := by
  refine List.ext_getElem (by simp [mTo]) fun i h1 h2 => ?_
  simp [mTo]

theorem mTo_all (f : Nat → Nat) (n e k : Nat) (h : n ≤ k) : mTo f n e k = mAll f n e := by
  refine List.ext_getElem (by simp) fun i h1 h2 => ?_
  simp at h2
  simp only [mTo, mAll, List.getElem_map, List.getElem_range]
  rw [if_pos (by omega)]

theorem mTo_get (f : Nat → Nat) (n e k j : Nat) (hj : j < k) (hn : j < n) : (mTo f n e k)[j]? = some (mir f n e j : Int) := by
  simp [mTo, hn, hj]

theorem mTo_get0 (f : Nat → Nat) (n e k : Nat) (hn : k < n) : (mTo f n e k)[k]? = some 0 := by
  simp [mTo, hn]

theorem mAll_get (f : Nat → Nat) (n e j : Nat) (hn : j < n) : (mAll f n e)[j]? = some (mir f n e j : Int) := by
  simp [mAll, hn]

theorem mTo_set (f : Nat → Nat) (n e k : Nat) (h : k < n) : (mTo f n e k).set k (mir f n e k : Int) = mTo f n e (k + 1) := by
  refine List.ext_getElem (by simp) fun i h1 h2 => ?_
  simp only [mTo, List.getElem_set, List.getElem_map, List.getElem_range]
  by_cases e : k = i
  · subst e; simp
  · rw [if_neg e]
    by_cases h3 : i < k
    · rw [if_pos h3, if_pos (by omega)]
    · rw [if_neg h3, if_neg (by omega)]

/-- The mirror that ends last: from a up to r1, around a place c ahead of i. -/
def MWin (f : Nat → Nat) (n e i a r1 : Nat) : Prop := r1 ≤ n ∧ (i < r1 → ∃ c, c < i ∧ a + r1 + e = 2 * c + 1 ∧ ∀ x y, a ≤ x → a ≤ y → x + y + 1 = a + r1 → f x = f y)

theorem mwin_start (f : Nat → Nat) (n e : Nat) : MWin f n e 0 0 0 := ⟨Nat.zero_le _, fun h => by omega⟩

theorem mwin_next {f : Nat → Nat} {n e i a r1 : Nat} (h : MWin f n e i a r1) : MWin f n e (i + 1) a r1 :=
  ⟨h.1, fun hi => by
    obtain ⟨c, h1, h2⟩ := h.2 (by omega)
    exact ⟨c, by omega, h2⟩⟩

theorem mwin_new {f : Nat → Nat} {n e i v : Nat} (he : e ≤ 1) (h : Mir f n e i v) (h0 : 0 < v) : MWin f n e (i + 1) (i + 1 - v - e) (i + v) := by
  have hb := mir_bd h h0
  refine ⟨by omega, fun _ => ⟨i, by omega, by omega, fun x y hx hy hxy => ?_⟩⟩
  rcases Nat.lt_or_ge x y with h1 | h1
  · -- y = i + u, x = i - u - e
    have := h (y - i) (by omega)
    rw [show i - (y - i) - e = x from by omega, show i + (y - i) = y from by omega] at this
    exact this.2.2
  · by_cases h2 : x = y
    · rw [h2]
    · have := h (x - i) (by omega)
      rw [show i - (x - i) - e = y from by omega, show i + (x - i) = x from by omega] at this
      exact this.2.2.symm

theorem mwin_use {f : Nat → Nat} {n e i a r1 : Nat} (h : MWin f n e i a r1) (hi : i < r1) :
    ∃ j, j < i ∧ j + i + 1 = a + r1 + e ∧ ∀ v, v ≤ mir f n e j → v ≤ r1 - i → Mir f n e i v := by
  obtain ⟨hr, h2⟩ := h
  obtain ⟨c, hc1, hc2, hc3⟩ := h2 hi
  refine ⟨a + r1 + e - i - 1, by omega, by omega, fun v h3 h4 t ht => ?_⟩
  have hm := mir_mir f n e (a + r1 + e - i - 1) t (by omega)
  refine ⟨by omega, by omega, ?_⟩
  have e1 := hc3 (i + t) (a + r1 + e - i - 1 - t - e) (by omega) (by omega) (by omega)
  have e2 := hc3 (i - t - e) (a + r1 + e - i - 1 + t) (by omega) (by omega) (by omega)
  rw [e1, e2]
  exact hm.2.2.symm

theorem mir_le (f : Nat → Nat) (n e i : Nat) : mir f n e i ≤ n := (mirUp_spec f n e i n).1
end Go.Proofs.Ythdckapielbonaa
