/- Plain words on the machine that finds many words at once: the longest end that is a beginning. No program is in sight here. -/
import Derived.Test.YthlibdpemocpmaaTrieLaw
namespace Go.Proofs.Ythlibdpemocpmaa
set_option linter.unusedVariables false
set_option linter.unusedSimpArgs false

/-- The longest end of a list that is among ps. -/
def lsuf (ps : List (List Nat)) : List Nat → List Nat
  | [] => []
  | c :: p => if c :: p ∈ ps then c :: p else lsuf ps p

/-- Where a node goes back to. -/
def failP (ps : List (List Nat)) (p : List Nat) : List Nat := lsuf ps p.tail

section
variable {ps : List (List Nat)}

theorem lsuf_len : ∀ q : List Nat, (lsuf ps q).length ≤ q.length
  | [] => Nat.le_refl _
  | c :: p => by
    unfold lsuf
    split
    · exact Nat.le_refl _
    · have := lsuf_len p; simp only [List.length_cons]; omega
theorem lsuf_mem (hC : Clo ps) : ∀ q : List Nat, lsuf ps q ∈ ps
  | [] => hC.1
  | c :: p => by
    unfold lsuf
    split
    · assumption
    · exact lsuf_mem hC p
theorem lsuf_of_mem {q : List Nat} (h : q ∈ ps) : lsuf ps q = q := by
  cases q with
  | nil => rfl
  | cons c p => rw [lsuf, if_pos h]
theorem lsuf_snoc (hC : Clo ps) (c : Nat) : ∀ q : List Nat, lsuf ps (lsuf ps q ++ [c]) = lsuf ps (q ++ [c])
  | [] => rfl
  | d :: q => by
    by_cases h : d :: q ∈ ps
    · rw [lsuf_of_mem h]
    · have h2 : ¬ d :: (q ++ [c]) ∈ ps := fun h3 => h (hC.2 (d :: q) c (by simpa using h3))
      rw [show lsuf ps (d :: q) = lsuf ps q by rw [lsuf, if_neg h], lsuf_snoc hC c q]
      show _ = lsuf ps (d :: (q ++ [c]))
      rw [lsuf, if_neg h2]
theorem failP_len {p : List Nat} (h : p ≠ []) : (failP ps p).length < p.length := by
  cases p with
  | nil => exact absurd rfl h
  | cons c p => have := lsuf_len (ps := ps) p; simp only [failP, List.tail_cons, List.length_cons]; omega
theorem failP_nil : failP ps [] = [] := rfl
theorem failP_mem (hC : Clo ps) (p : List Nat) : failP ps p ∈ ps := lsuf_mem hC _
theorem go_fail (hC : Clo ps) {p : List Nat} {c : Nat} (hp : p ≠ []) (h : ¬ p ++ [c] ∈ ps) : lsuf ps (p ++ [c]) = lsuf ps (failP ps p ++ [c]) := by
  cases p with
  | nil => exact absurd rfl hp
  | cons d p =>
    rw [failP, List.tail_cons, lsuf_snoc hC]
    show lsuf ps (d :: (p ++ [c])) = _
    rw [lsuf, if_neg (by simpa using h)]
theorem go_root {c : Nat} (h : ¬ [c] ∈ ps) : lsuf ps [c] = [] := by rw [lsuf, if_neg h]; rfl
theorem fail_child (hC : Clo ps) {p : List Nat} {c : Nat} (hp : p ≠ []) : failP ps (p ++ [c]) = lsuf ps (failP ps p ++ [c]) := by
  cases p with
  | nil => exact absurd rfl hp
  | cons d p =>
    rw [failP, failP, List.tail_cons, lsuf_snoc hC]
    rfl
theorem fail_child_root {c : Nat} : failP ps ([] ++ [c]) = [] := rfl
end

/-- Which words end a list, the longest first. -/
def ownW (wd : List Nat → Int) (p : List Nat) : List Int := if 0 ≤ wd p then [wd p] else []
def endS (wd : List Nat → Int) : List Nat → List Int
  | [] => []
  | c :: p => ownW wd (c :: p) ++ endS wd p

section
variable {ps : List (List Nat)} {wd : List Nat → Int}
theorem ends_lsuf (hw : ∀ q, 0 ≤ wd q → q ∈ ps) : ∀ q : List Nat, endS wd (lsuf ps q) = endS wd q
  | [] => rfl
  | c :: p => by
    by_cases h : c :: p ∈ ps
    · rw [lsuf_of_mem h]
    · have h2 : ¬ 0 ≤ wd (c :: p) := fun h3 => h (hw _ h3)
      rw [lsuf, if_neg h, ends_lsuf hw p, endS, ownW, if_neg h2, List.nil_append]
theorem ends_child (hw : ∀ q, 0 ≤ wd q → q ∈ ps) {p : List Nat} (hp : p ≠ []) : endS wd p = ownW wd p ++ endS wd (failP ps p) := by
  cases p with
  | nil => exact absurd rfl hp
  | cons d p => rw [failP, List.tail_cons, ends_lsuf hw]; rfl
theorem ends_mem {x : Int} : ∀ {q : List Nat}, x ∈ endS wd q ↔ ∃ r, r <:+ q ∧ r ≠ [] ∧ 0 ≤ wd r ∧ x = wd r
  | [] => by
    constructor
    · intro h; simp [endS] at h
    · rintro ⟨r, h1, h2, _⟩; exact absurd (List.suffix_nil.1 h1) h2
  | c :: p => by
    rw [endS, List.mem_append, ends_mem (q := p)]
    constructor
    · rintro (h | ⟨r, h1, h2⟩)
      · unfold ownW at h
        split at h
        · rename_i h0
          rw [List.mem_singleton] at h
          exact ⟨c :: p, List.suffix_refl _, by simp, h0, h⟩
        · simp at h
      · exact ⟨r, h1.trans (List.suffix_cons _ _), h2⟩
    · rintro ⟨r, h1, h2, h3, h4⟩
      rcases List.suffix_cons_iff.1 h1 with h5 | h5
      · subst h5
        left
        unfold ownW
        rw [if_pos h3, List.mem_singleton]
        exact h4
      · exact .inr ⟨r, h5, h2, h3, h4⟩
theorem ends_len : ∀ q : List Nat, (endS wd q).length ≤ q.length
  | [] => Nat.le_refl _
  | c :: p => by
    have := ends_len p
    rw [endS, List.length_append]
    have h : (ownW wd (c :: p)).length ≤ 1 := by unfold ownW; split <;> simp
    simp only [List.length_cons]; omega
theorem ownW_len (p : List Nat) : (ownW wd p).length ≤ 1 := by unfold ownW; split <;> simp
end
end Go.Proofs.Ythlibdpemocpmaa
