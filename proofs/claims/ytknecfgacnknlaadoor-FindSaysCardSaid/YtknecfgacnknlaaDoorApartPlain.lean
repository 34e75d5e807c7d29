/- Plain words on counting the places of a word that have nothing in common. No program is in sight here. -/
import Derived.Test.YtknecfgacnknlaaDoorFindPlain
namespace Go.Proofs.YtknecfgacnknlaaDoor
set_option linter.unusedVariables false
set_option linter.unusedSimpArgs false

/-- How many, and where the next one may begin. -/
def apStep (n : Int) (s : Int × Int) (x : Int) : Int × Int := if s.2 ≤ x then (s.1 + 1, x + n) else s
def apTo (n : Int) (l : List Int) (j : Nat) : Int × Int := (l.take j).foldl (apStep n) (0, 0)
def apart (n : Int) (l : List Int) : Int := (apTo n l l.length).1

theorem apTo_zero (n : Int) (l : List Int) : apTo n l 0 = (0, 0) := rfl
theorem apTo_step {n : Int} {l : List Int} {j : Nat} {x : Int} (h : l[j]? = some x) : apTo n l (j + 1) = apStep n (apTo n l j) x := by
  obtain ⟨h1, h2⟩ := List.getElem?_eq_some_iff.1 h
  unfold apTo
  rw [List.take_succ_eq_append_getElem h1, List.foldl_append, h2]
  rfl

theorem apTo_bd {n : Int} {l : List Int} (hn : 0 ≤ n ∧ n ≤ 24) (hl : ∀ (j : Nat) (x : Int), l[j]? = some x → 0 ≤ x ∧ x ≤ 24) : ∀ j, j ≤ l.length → 0 ≤ (apTo n l j).1 ∧ (apTo n l j).1 ≤ j ∧ 0 ≤ (apTo n l j).2 ∧ (apTo n l j).2 ≤ 48 := by
  intro j
  induction j with
  | zero => intro _; simp [apTo_zero]
  | succ j ih =>
    intro hj
    have h := ih (by omega)
    have hx : l[j]? = some (l[j]'(by omega)) := List.getElem?_eq_getElem (by omega)
    rw [apTo_step hx]
    have hb := hl _ _ hx
    unfold apStep
    split
    · refine ⟨?_, ?_, ?_, ?_⟩ <;> simp <;> omega
    · refine ⟨?_, ?_, ?_, ?_⟩ <;> omega

theorem apTo_one {l : List Int} (hp : l.Pairwise (· < ·)) (h0 : ∀ (j : Nat) (x : Int), l[j]? = some x → 0 ≤ x) : ∀ j, j ≤ l.length → (apTo 1 l j).1 = j ∧ ∀ i x, j ≤ i → l[i]? = some x → (apTo 1 l j).2 ≤ x := by
  intro j
  induction j with
  | zero => intro _; exact ⟨rfl, fun i x _ hx => h0 i x hx⟩
  | succ j ih =>
    intro hj
    obtain ⟨h1, h2⟩ := ih (by omega)
    have hx : l[j]? = some (l[j]'(by omega)) := List.getElem?_eq_getElem (by omega)
    rw [apTo_step hx]
    unfold apStep
    rw [if_pos (h2 j _ (Nat.le_refl _) hx)]
    refine ⟨by simp; omega, fun i x hi hix => ?_⟩
    obtain ⟨h3, h4⟩ := List.getElem?_eq_some_iff.1 hix
    have := List.pairwise_iff_getElem.1 hp j i (by omega) h3 (by omega)
    rw [h4] at this
    show l[j] + 1 ≤ x
    omega

theorem posI_pair (f : Nat → Nat) (n : Nat) (t : Nat → Nat) (m : Nat) : (posI f n t m).Pairwise (· < ·) := by
  unfold posI
  rw [List.pairwise_map]
  exact (pos_pair f n t m).imp fun h => by omega

theorem posI_get {f t : Nat → Nat} {n m j : Nat} {x : Int} (hn : 0 < n) (h : (posI f n t m)[j]? = some x) : ∃ p : Nat, x = p ∧ At f n t m p := by
  unfold posI at h
  rw [List.getElem?_map] at h
  cases h2 : (pos f n t m)[j]? with
  | none => rw [h2] at h; cases h
  | some p =>
    rw [h2] at h
    cases h
    exact ⟨p, rfl, (mem_pos hn).1 (List.mem_of_getElem? h2)⟩

theorem posI_bd {f t : Nat → Nat} {n m j : Nat} {x : Int} (hn : 0 < n) (hm : m ≤ 24) (h : (posI f n t m)[j]? = some x) : 0 ≤ x ∧ x ≤ 24 := by
  obtain ⟨p, rfl, h1, _⟩ := posI_get hn h
  omega

theorem apart_one (f t : Nat → Nat) (m : Nat) : apart 1 (posI f 1 t m) = (posI f 1 t m).length := by
  exact (apTo_one (posI_pair f 1 t m) (fun j x h => by obtain ⟨p, rfl, _⟩ := posI_get (by omega) h; omega) _ (Nat.le_refl _)).1
end Go.Proofs.YtknecfgacnknlaaDoor
