/- Small words on worlds and slices, used by all walks of this claim: a slice value whose cells read as a list, and how that is kept. -/
import Derived.Test.YtocbkapoibddaaaProg
import Derived.WalkKit
import Derived.WalkSpells
import Derived.WalkLawsBesides
import Derived.Deep.QuietTactic
import Derived.BigQuiet
namespace Go.Proofs.Ytocbkapoibddaaa
open Go.RowKit

/-- The slice with address `A` reads as the list `xs`, in blocks below `B`. -/
def Sl (w : World) (B : Nat) (A : Option Addr) (xs : List Value) : Prop :=
  xs ≠ [] → ∃ g o, A = some ⟨g, o, none⟩ ∧ g < B ∧ ∀ i u, xs[i]? = some u → w.cell? ⟨g, o + i, none⟩ = some u

section
variable {w w' : World} {B B' : Nat} {A : Option Addr} {xs : List Value}

theorem Sl.nil : Sl w B A [] := fun h => absurd rfl h

theorem Sl.mono (h : Sl w B A xs) (hB : B ≤ B') : Sl w B' A xs := fun hn =>
  let ⟨g, o, e, hg, hc⟩ := h hn
  ⟨g, o, e, by omega, hc⟩

theorem Sl.below (h : Sl w B A xs) (hb : Below B w w') : Sl w' B A xs := fun hn =>
  let ⟨g, o, e, hg, hc⟩ := h hn
  ⟨g, o, e, hg, fun i u hu => (hb.cell (p := ⟨g, o + i, none⟩) hg).trans (hc i u hu)⟩

theorem Sl.of_own {base : Nat} {e : TypeId} {n c : Nat} (h : w.ownsRow base e 1 (.slice A n c) n xs) : Sl w w.heap.size A xs := by
  intro hn
  obtain ⟨hl, h2⟩ := h
  rcases h2 with ⟨_, h0⟩ | ⟨g, cap, cur, hv, _, hg, hnc, _, hcur, htk⟩
  · subst h0; exact absurd (List.eq_nil_of_length_eq_zero (by simpa using hl)) hn
  · have hA : A = some ⟨g, 0, none⟩ := by injection hv
    refine ⟨g, 0, hA, (Array.getElem?_eq_some_iff.1 hg).1, fun i u hu => ?_⟩
    rw [Nat.zero_add]
    have hi : i < xs.length := (List.getElem?_eq_some_iff.1 hu).1
    rw [← htk, List.getElem?_take] at hu
    rw [cell_of_row w g i cur e (0, 0) hg, ← Array.getElem?_toList]
    simpa [show i < n by omega] using hu

theorem Sl.take {k : Nat} (h : Sl w B A xs) : Sl w B A (xs.take k) := by
  intro hn
  have : xs ≠ [] := by rintro rfl; simp at hn
  obtain ⟨g, o, e, hg, hc⟩ := h this
  refine ⟨g, o, e, hg, fun i u hu => hc i u ?_⟩
  rw [List.getElem?_take] at hu
  split at hu
  · exact hu
  · cases hu
end

/-- A fact put out of the walk's sight. -/
theorem hid {p : Prop} (h : p) : Hid p := h

/-- A world behind which nothing of the old memory has turned. -/
theorem below_drewN (w : World) (n : Nat) : Below w.heap.size w (w.drewN n) := ⟨rfl, rfl, rfl, Nat.le_refl _, fun _ _ => rfl⟩

end Go.Proofs.Ytocbkapoibddaaa
