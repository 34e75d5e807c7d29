/- Plain words on the places of a word in a text that is cut in two. No program is in sight here. -/
import Derived.Test.YtamddheihjhjpaaApartPlain
namespace Go.Proofs.Ytamddheihjhjpaa
set_option linter.unusedVariables false
set_option linter.unusedSimpArgs false

theorem at_congr {f t t' : Nat → Nat} {n m p : Nat} (h : ∀ j, j < m → t j = t' j) : At f n t m p ↔ At f n t' m p := by
  unfold At
  constructor
  · rintro ⟨h1, h2⟩; exact ⟨h1, fun j hj => by rw [h2 j hj]; exact h _ (by omega)⟩
  · rintro ⟨h1, h2⟩; exact ⟨h1, fun j hj => by rw [h2 j hj]; exact (h _ (by omega)).symm⟩

/-- Does the word not lie over the cut? -/
def offCut (n A : Nat) (x : Int) : Bool := decide (x + n ≤ A) || decide ((A : Int) ≤ x)

theorem pos_parts {f t a b : Nat → Nat} {n A B : Nat} (hn : 0 < n) (ha : ∀ j, j < A → t j = a j) (hb : ∀ j, j < B → t (A + j) = b j) :
    (posI f n t (A + B)).filter (offCut n A) = posI f n a A ++ (posI f n b B).map fun y => y + (A : Int) := by
  unfold posI pos
  rw [List.filter_map, List.range_add, List.filter_append, List.filter_append, List.map_append]
  congr 1
  · congr 1
    rw [List.filter_filter]
    refine List.filter_congr fun k hk => ?_
    have hk : k < A := by simpa using hk
    rw [Bool.eq_iff_iff]
    simp only [Bool.and_eq_true, Function.comp, offCut, Bool.or_eq_true, decide_eq_true_eq]
    constructor
    · rintro ⟨h1, h2, h3⟩
      exact ⟨by omega, fun j hj => by rw [h3 j hj]; exact ha _ (by omega)⟩
    · rintro ⟨h1, h2⟩
      exact ⟨by omega, by omega, fun j hj => by rw [h2 j hj]; exact (ha _ (by omega)).symm⟩
  · rw [List.filter_filter, List.filter_map, List.map_map, List.map_map]
    have e : (List.range B).filter ((fun a_1 => (offCut n A ∘ fun p : Nat => (p : Int)) a_1 && decide (At f n t (A + B) a_1)) ∘ fun x => A + x) = (List.range B).filter fun p => decide (At f n b B p) := by
      refine List.filter_congr fun k hk => ?_
      have hk : k < B := by simpa using hk
      rw [Bool.eq_iff_iff]
      simp only [Bool.and_eq_true, Function.comp, offCut, Bool.or_eq_true, decide_eq_true_eq]
      constructor
      · rintro ⟨h1, h2, h3⟩
        exact ⟨by omega, fun j hj => by rw [h3 j hj, Nat.add_assoc]; exact hb _ (by omega)⟩
      · rintro ⟨h1, h2⟩
        exact ⟨by omega, by omega, fun j hj => by rw [h2 j hj, Nat.add_assoc]; exact (hb _ (by omega)).symm⟩
    rw [e]
    refine List.map_congr_left fun k _ => ?_
    simp [Int.add_comm]

/-- How many pairs of places are as far apart as a text is long. -/
def pairStep (A : Int) (x : Int) (c : Nat) (y : Int) : Nat := if y = x + A then c + 1 else c
def pairsAt (A : Int) (x : Int) (Y : List Int) (k : Nat) : Nat := (Y.take k).countP fun y => decide (y = x + A)
def pairs (A : Int) (X Y : List Int) (j : Nat) : Nat := ((X.take j).map fun x => Y.countP fun y => decide (y = x + A)).sum

theorem pairsAt_step {A x y : Int} {Y : List Int} {k : Nat} (h : Y[k]? = some y) : pairsAt A x Y (k + 1) = if y = x + A then pairsAt A x Y k + 1 else pairsAt A x Y k := by
  obtain ⟨h1, h2⟩ := List.getElem?_eq_some_iff.1 h
  unfold pairsAt
  rw [List.take_succ_eq_append_getElem h1, List.countP_append, h2]
  by_cases e : y = x + A <;> simp [e]
theorem pairs_step {A x : Int} {X Y : List Int} {j : Nat} (h : X[j]? = some x) : pairs A X Y (j + 1) = pairs A X Y j + pairsAt A x Y Y.length := by
  obtain ⟨h1, h2⟩ := List.getElem?_eq_some_iff.1 h
  unfold pairs pairsAt
  rw [List.take_succ_eq_append_getElem h1, List.map_append, List.sum_append, h2]
  simp
theorem pairsAt_le (A x : Int) (Y : List Int) (k : Nat) : pairsAt A x Y k ≤ Y.length := by
  unfold pairsAt
  exact Nat.le_trans (List.countP_le_length) (by simp; omega)

theorem count_nodup {l : List Int} (h : l.Pairwise (· < ·)) (z : Int) : l.countP (fun y => decide (y = z)) = if z ∈ l then 1 else 0 := by
  have hd : l.Nodup := h.imp fun h => by omega
  have e : l.countP (fun y => decide (y = z)) = l.count z := by
    unfold List.count
    refine List.countP_congr fun y _ => ?_
    simp
  rw [e]
  split
  · rename_i hm
    have h1 := List.count_pos_iff.2 hm
    have h2 := List.nodup_iff_count.1 hd z
    omega
  · rename_i hm
    exact List.count_eq_zero.2 hm

theorem sum_ite {α : Type} (l : List α) (p : α → Prop) [DecidablePred p] : (l.map fun x => if p x then 1 else 0).sum = (l.filter fun x => decide (p x)).length := by
  induction l with
  | nil => rfl
  | cons a l ih =>
    simp only [List.map_cons, List.sum_cons, ih, List.filter_cons]
    by_cases h : p a <;> simp [h] <;> omega

theorem at_join {f g w t : Nat → Nat} {n k m p : Nat} (hf : ∀ j, j < n → w j = f j) (hg : ∀ j, j < k → w (n + j) = g j) : At w (n + k) t m p ↔ (At f n t m p ∧ At g k t m (p + n)) := by
  unfold At
  constructor
  · rintro ⟨h1, h2⟩
    exact ⟨⟨by omega, fun j hj => by rw [← hf j hj]; exact h2 j (by omega)⟩, by omega, fun j hj => by rw [← hg j hj, h2 (n + j) (by omega), Nat.add_assoc]⟩
  · rintro ⟨⟨h1, h2⟩, h3, h4⟩
    refine ⟨by omega, fun j hj => ?_⟩
    rcases Nat.lt_or_ge j n with h | h
    · rw [hf j h]; exact h2 j h
    · have := h4 (j - n) (by omega)
      rw [← hg _ (by omega)] at this
      rw [show n + (j - n) = j from by omega] at this
      rw [this]; congr 1; omega

theorem nodup_sub : ∀ (l l' : List Nat), l.Nodup → (∀ x ∈ l, x ∈ l') → l.length ≤ l'.length
  | [], _, _, _ => Nat.zero_le _
  | a :: l, l', hd, h => by
    have ha : a ∈ l' := h a (by simp)
    have h1 := nodup_sub l (l'.erase a) (List.nodup_cons.1 hd).2 fun x hx => by
      have hne : x ≠ a := fun e => (List.nodup_cons.1 hd).1 (e ▸ hx)
      exact (List.mem_erase_of_ne hne).2 (h x (by simp [hx]))
    have h2 := List.length_erase_of_mem ha
    have h3 : 0 < l'.length := List.length_pos_of_mem ha
    simp
    omega

/-- The places of two texts joined are the pairs of places of each. -/
theorem pairs_join {f g w t : Nat → Nat} {n k m : Nat} (hn : 0 < n) (hk : 0 < k) (hf : ∀ j, j < n → w j = f j) (hg : ∀ j, j < k → w (n + j) = g j) :
    pairs n (posI f n t m) (posI g k t m) (posI f n t m).length = (posI w (n + k) t m).length ∧ (posI w (n + k) t m).length ≤ (posI f n t m).length ∧ (posI w (n + k) t m).length ≤ (posI g k t m).length := by
  have hmem : ∀ p : Nat, ((p : Int) + n ∈ posI g k t m) ↔ At g k t m (p + n) := by
    intro p
    unfold posI
    rw [List.mem_map]
    constructor
    · rintro ⟨q, hq, e⟩
      have : q = p + n := by omega
      subst this
      exact (mem_pos hk).1 hq
    · intro h; exact ⟨p + n, (mem_pos hk).2 h, by simp⟩
  have e1 : pos w (n + k) t m = (pos f n t m).filter fun p => decide (At g k t m (p + n)) := by
    unfold pos
    rw [List.filter_filter]
    refine List.filter_congr fun p _ => ?_
    rw [Bool.eq_iff_iff]
    simp only [Bool.and_eq_true, decide_eq_true_eq]
    rw [at_join hf hg]
    exact And.comm
  refine ⟨?_, ?_, ?_⟩
  · unfold pairs
    rw [List.take_of_length_le (Nat.le_refl _)]
    have e2 : (posI f n t m).map (fun x => (posI g k t m).countP fun y => decide (y = x + (n : Int))) = (pos f n t m).map fun p => if At g k t m (p + n) then 1 else 0 := by
      show ((pos f n t m).map fun p : Nat => (p : Int)).map _ = _
      rw [List.map_map]
      refine List.map_congr_left fun p _ => ?_
      simp only [Function.comp]
      rw [count_nodup (posI_pair g k t m)]
      by_cases h : At g k t m (p + n)
      · rw [if_pos h, if_pos ((hmem p).2 h)]
      · rw [if_neg h, if_neg (fun h2 => h ((hmem p).1 h2))]
    rw [e2, sum_ite, posI_len, e1]
  · rw [posI_len, posI_len, e1]
    exact List.length_filter_le _ _
  · rw [posI_len, posI_len]
    have h2 : ((pos w (n + k) t m).map (· + n)).length ≤ (pos g k t m).length := by
      refine nodup_sub _ _ ?_ ?_
      · rw [List.nodup_iff_pairwise_ne, List.pairwise_map]
        exact (pos_pair w (n + k) t m).imp fun h => by omega
      · intro x hx
        obtain ⟨p, hp, rfl⟩ := List.mem_map.1 hx
        exact (mem_pos hk).2 ((at_join hf hg).1 ((mem_pos (by omega)).1 hp)).2
    simpa using h2
end Go.Proofs.Ytamddheihjhjpaa
