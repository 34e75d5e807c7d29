/- Plain words: five ways to find a word tell the same places. No program is in sight here. -/
import Derived.Test.YthlibdpemocpmaaHitsPlain
import Derived.Test.YthlibdpemocpmaaSkipPlain
import Derived.Test.YthlibdpemocpmaaZetaPlain
import Derived.Test.YthlibdpemocpmaaFindPlain
namespace Go.Proofs.Ythlibdpemocpmaa
set_option linter.unusedVariables false
set_option linter.unusedSimpArgs false

/-- The first place, and none. -/
theorem first_head {f t : Nat → Nat} {n m : Nat} (hn : 0 < n) : (posI f n t m = [] ∧ (firstOf f n t m).1 = -1) ∨ (∃ x r, posI f n t m = x :: r ∧ (firstOf f n t m).1 = x) := by
  rcases laid_first (f := f) (t := t) (m := m) hn (m + 1) 0 (by omega) (fun p h => by omega) with ⟨h1, h2⟩ | ⟨p, h1, h2, h3, h4⟩
  · refine .inl ⟨?_, h1⟩
    have : pos f n t m = [] := by
      rw [List.eq_nil_iff_forall_not_mem]
      intro p hp
      exact h2 p ((mem_pos hn).1 hp)
    unfold posI; rw [this]; rfl
  · refine .inr ?_
    have hm := (mem_pos hn).2 h2
    have hpp := pos_pair f n t m
    cases e : pos f n t m with
    | nil => rw [e] at hm; cases hm
    | cons a r =>
      rw [e] at hm hpp
      have ha : At f n t m a := (mem_pos hn).1 (by rw [e]; simp)
      have hle : p ≤ a := by
        rcases Nat.lt_or_ge a p with h | h
        · exact absurd ha (h3 a h)
        · exact h
      have hle2 : a ≤ p := by
        rcases List.mem_cons.1 hm with h | h
        · omega
        · have := (List.pairwise_cons.1 hpp).1 p h; omega
      refine ⟨(a : Int), r.map fun p : Nat => (p : Int), by unfold posI; rw [e]; rfl, ?_⟩
      unfold firstOf
      rw [h1, show a = p by omega]

/-- The hits of one word. -/
theorem hits_single {s t : ByteArray} : hitsL [s] t = (posI (bt s) s.size (bt t) t.size).map fun x => (x, (0 : Int)) := by
  unfold hitsL hitsTo posI pos hitsAt
  have e : ∀ a, ((List.range [s].length).filter fun k => decide (Hit [s] t a k)).map (fun k : Nat => ((a : Int), (k : Int))) = if At (bt s) s.size (bt t) t.size a then [((a : Int), (0 : Int))] else [] := fun a => by
    have h : (decide (Hit [s] t a 0)) = decide (At (bt s) s.size (bt t) t.size a) := rfl
    show ((List.range 1).filter _).map _ = _
    rw [show List.range 1 = [0] from rfl]
    by_cases hA : At (bt s) s.size (bt t) t.size a
    · rw [if_pos hA, List.filter_cons_of_pos (by rw [h]; simpa using hA)]; rfl
    · rw [if_neg hA, List.filter_cons_of_neg (by rw [h]; simpa using hA)]; rfl
  simp only [e]
  induction (List.range t.size) with
  | nil => rfl
  | cons a l ih =>
    rw [List.flatMap_cons, ih]
    by_cases hA : At (bt s) s.size (bt t) t.size a
    · rw [if_pos hA, List.filter_cons_of_pos (by simpa using hA)]; rfl
    · rw [if_neg hA, List.filter_cons_of_neg (by simpa using hA)]; rfl

/-- Does the word stand at this place? -/
def atB (s t : ByteArray) (x : Int) : Bool := decide (At (bt s) s.size (bt t) t.size x.toNat)

/-- Among all places, in whatever order. -/
theorem among_all {s t : ByteArray} {l : List Int} (h : l.Perm ((List.range t.size).map fun i : Nat => (i : Int))) : l.countP (atB s t) = (pos (bt s) s.size (bt t) t.size).length := by
  rw [h.countP_eq, List.countP_map, List.countP_eq_length_filter]
  rfl

/-- How far the ends go with the beginning. -/
def farB (s t : ByteArray) (p : Nat) : Bool := decide (s.size ≤ zf (bt (s ++ t)) (s.size + t.size) (s.size + p))

theorem far_at {s t : ByteArray} {p : Nat} (h0 : 0 < s.size) : s.size ≤ zf (bt (s ++ t)) (s.size + t.size) (s.size + p) ↔ At (bt s) s.size (bt t) t.size p := by
  constructor
  · intro h
    have h1 := zf_le (bt (s ++ t)) (s.size + t.size) (s.size + p)
    refine ⟨by omega, fun j hj => ?_⟩
    have h2 := zf_same (bt (s ++ t)) (s.size + t.size) (s.size + p) j (by omega)
    rw [bt_append, if_pos hj, bt_append, if_neg (by omega), show s.size + p + j - s.size = p + j by omega] at h2
    exact h2
  · intro h
    have h3 := h.1
    rcases Nat.lt_or_ge (zf (bt (s ++ t)) (s.size + t.size) (s.size + p)) s.size with h4 | h4
    · have h5 := zf_stop (bt (s ++ t)) (s.size + t.size) (s.size + p) (by omega)
      refine absurd ?_ h5
      rw [bt_append, if_pos h4, bt_append, if_neg (by omega), show s.size + p + zf (bt (s ++ t)) (s.size + t.size) (s.size + p) - s.size = p + zf (bt (s ++ t)) (s.size + t.size) (s.size + p) by omega]
      exact h.2 _ h4
    · exact h4

theorem far_all {s t : ByteArray} (hs : 0 < s.size) : (List.range t.size).countP (farB s t) = (pos (bt s) s.size (bt t) t.size).length := by
  unfold pos
  rw [← List.countP_eq_length_filter]
  refine List.countP_congr fun p hp => ?_
  unfold farB
  simp only [decide_eq_true_eq]
  exact far_at hs
end Go.Proofs.Ythlibdpemocpmaa
