/- Plain words on a trie: the beginnings of some words, each once; which word ends at a beginning. No program is in sight here. -/
import Derived.Test.YthlibdpemocpmaaLynPlain
namespace Go.Proofs.Ythlibdpemocpmaa
set_option linter.unusedVariables false
set_option linter.unusedSimpArgs false

/-- The first k bytes of a text, as a list. -/
def pfx (s : ByteArray) (k : Nat) : List Nat := (List.range k).map (bt s)
def wordP (s : ByteArray) : List Nat := pfx s s.size

@[simp] theorem pfx_zero (s : ByteArray) : pfx s 0 = [] := rfl
@[simp] theorem pfx_len (s : ByteArray) (k : Nat) : (pfx s k).length = k := by simp [pfx]
theorem pfx_succ (s : ByteArray) (k : Nat) : pfx s (k + 1) = pfx s k ++ [bt s k] := by simp [pfx, List.range_succ]
theorem pfx_eq {s t : ByteArray} {k : Nat} : pfx s k = pfx t k ↔ ∀ j, j < k → bt s j = bt t j := by
  unfold pfx
  constructor
  · intro h j hj
    have := congrArg (fun l => l[j]?) h
    simpa [hj] using this
  · intro h
    exact List.map_congr_left fun j hj => h j (List.mem_range.1 hj)
theorem pfx_snoc {s : ByteArray} {p : List Nat} {c k : Nat} (h : p ++ [c] = pfx s k) : ∃ j, k = j + 1 ∧ p = pfx s j ∧ c = bt s j := by
  rcases k with _ | j
  · simp at h
  · rw [pfx_succ] at h
    obtain ⟨h1, h2⟩ := List.append_inj' h rfl
    exact ⟨j, rfl, h1, by simpa using h2⟩
theorem pfx_prefix {s : ByteArray} {j k : Nat} (h : j ≤ k) : pfx s j <+: pfx s k := by
  obtain ⟨d, rfl⟩ := Nat.exists_eq_add_of_le h
  exact ⟨(List.range d).map fun i => bt s (j + i), by simp [pfx, List.range_add, Function.comp_def]⟩
theorem prefix_pfx {s : ByteArray} {p : List Nat} {k : Nat} (h : p <+: pfx s k) : p.length ≤ k ∧ p = pfx s p.length := by
  have h1 := h.length_le
  rw [pfx_len] at h1
  refine ⟨h1, ?_⟩
  have h2 := pfx_prefix (s := s) h1
  have := List.prefix_of_prefix_length_le h h2 (by simp)
  exact this.eq_of_length (by simp)

def wat (ws : List ByteArray) (i : Nat) : ByteArray := ws.getD i ByteArray.empty

/-- The beginnings of one word more, the first k of them. -/
def addTo (L : List (List Nat)) (s : ByteArray) : Nat → List (List Nat)
  | 0 => L
  | k + 1 => if pfx s (k + 1) ∈ addTo L s k then addTo L s k else addTo L s k ++ [pfx s (k + 1)]

/-- The beginnings of the first i words, each once. -/
def nodesTo (ws : List ByteArray) : Nat → List (List Nat)
  | 0 => [[]]
  | i + 1 => addTo (nodesTo ws i) (wat ws i) (wat ws i).size

/-- Which one of the first i words ends there; -1: none. -/
def wdTo (ws : List ByteArray) : Nat → List Nat → Int
  | 0, _ => -1
  | i + 1, p => if p = wordP (wat ws i) then (i : Int) else wdTo ws i p

theorem addTo_hit {L : List (List Nat)} {s : ByteArray} {k : Nat} (h : pfx s (k + 1) ∈ addTo L s k) : addTo L s (k + 1) = addTo L s k := by rw [addTo, if_pos h]
theorem addTo_miss {L : List (List Nat)} {s : ByteArray} {k : Nat} (h : ¬ pfx s (k + 1) ∈ addTo L s k) : addTo L s (k + 1) = addTo L s k ++ [pfx s (k + 1)] := by rw [addTo, if_neg h]

theorem addTo_nodup {L : List (List Nat)} {s : ByteArray} (h : L.Nodup) : ∀ k, (addTo L s k).Nodup
  | 0 => h
  | k + 1 => by
    unfold addTo
    split
    · exact addTo_nodup h k
    · rename_i hn
      rw [List.nodup_append]
      refine ⟨addTo_nodup h k, by simp, fun a ha b hb => ?_⟩
      rw [List.mem_singleton] at hb
      rintro rfl
      exact hn (hb ▸ ha)
theorem addTo_mem {L : List (List Nat)} {s : ByteArray} {p : List Nat} : ∀ {k : Nat}, p ∈ addTo L s k ↔ p ∈ L ∨ ∃ j, 0 < j ∧ j ≤ k ∧ p = pfx s j
  | 0 => by
    unfold addTo
    constructor
    · exact .inl
    · rintro (h | ⟨j, h1, h2, _⟩)
      · exact h
      · omega
  | k + 1 => by
    have ih := @addTo_mem L s p k
    have hs : (p ∈ L ∨ ∃ j, 0 < j ∧ j ≤ k + 1 ∧ p = pfx s j) ↔ (p ∈ addTo L s k ∨ p = pfx s (k + 1)) := by
      rw [ih]
      constructor
      · rintro (h | ⟨j, h1, h2, h3⟩)
        · exact .inl (.inl h)
        · by_cases e : j = k + 1
          · subst e; exact .inr h3
          · exact .inl (.inr ⟨j, h1, by omega, h3⟩)
      · rintro ((h | ⟨j, h1, h2, h3⟩) | h)
        · exact .inl h
        · exact .inr ⟨j, h1, by omega, h3⟩
        · exact .inr ⟨k + 1, by omega, by omega, h⟩
    rw [hs]
    by_cases hm : pfx s (k + 1) ∈ addTo L s k
    · rw [addTo_hit hm]
      constructor
      · exact .inl
      · rintro (h | h)
        · exact h
        · exact h ▸ hm
    · rw [addTo_miss hm, List.mem_append, List.mem_singleton]

theorem nodesTo_nodup (ws : List ByteArray) : ∀ i, (nodesTo ws i).Nodup
  | 0 => by simp [nodesTo]
  | i + 1 => addTo_nodup (nodesTo_nodup ws i) _
theorem nodesTo_mem {ws : List ByteArray} {p : List Nat} : ∀ {i : Nat}, p ∈ nodesTo ws i ↔ p = [] ∨ ∃ m j, m < i ∧ 0 < j ∧ j ≤ (wat ws m).size ∧ p = pfx (wat ws m) j
  | 0 => by
    simp [nodesTo]
  | i + 1 => by
    unfold nodesTo
    rw [addTo_mem, nodesTo_mem (i := i)]
    constructor
    · rintro ((h | ⟨m, j, h1, h2, h3, h4⟩) | ⟨j, h1, h2, h3⟩)
      · exact .inl h
      · exact .inr ⟨m, j, by omega, h2, h3, h4⟩
      · exact .inr ⟨i, j, by omega, h1, h2, h3⟩
    · rintro (h | ⟨m, j, h1, h2, h3, h4⟩)
      · exact .inl (.inl h)
      · by_cases e : m = i
        · subst e; exact .inr ⟨j, h2, h3, h4⟩
        · exact .inl (.inr ⟨m, j, by omega, h2, h3, h4⟩)

/-- Closed: with a beginning all its beginnings. -/
def Clo (L : List (List Nat)) : Prop := [] ∈ L ∧ ∀ p c, p ++ [c] ∈ L → p ∈ L

theorem clo_root : Clo [[]] := ⟨by simp, fun p c h => by simp at h⟩
theorem clo_add {L : List (List Nat)} {s : ByteArray} (h : Clo L) (k : Nat) : Clo (addTo L s k) := by
  refine ⟨addTo_mem.2 (.inl h.1), fun p c hp => ?_⟩
  rcases addTo_mem.1 hp with h1 | ⟨j, h1, h2, h3⟩
  · exact addTo_mem.2 (.inl (h.2 p c h1))
  · obtain ⟨i, rfl, h4, _⟩ := pfx_snoc h3
    rcases Nat.eq_zero_or_pos i with h5 | h5
    · subst h5
      rw [h4]
      exact addTo_mem.2 (.inl h.1)
    · exact addTo_mem.2 (.inr ⟨i, h5, by omega, h4⟩)
theorem clo_nodes (ws : List ByteArray) : ∀ i, Clo (nodesTo ws i)
  | 0 => clo_root
  | i + 1 => clo_add (clo_nodes ws i) _
theorem clo_prefix_n {L : List (List Nat)} (h : Clo L) {p : List Nat} : ∀ (n : Nat) (r : List Nat), r.length = n → p ++ r ∈ L → p ∈ L
  | 0, r, h0, h1 => by
    have : r = [] := List.eq_nil_of_length_eq_zero h0
    subst this; simpa using h1
  | n + 1, r, h0, h1 => by
    have hr : r ≠ [] := fun e => by subst e; simp at h0
    have e := List.dropLast_concat_getLast hr
    rw [← e, ← List.append_assoc] at h1
    exact clo_prefix_n h n r.dropLast (by simp [h0]) (h.2 _ _ h1)
theorem clo_prefix {L : List (List Nat)} (h : Clo L) {p : List Nat} {r : List Nat} (h1 : p ++ r ∈ L) : p ∈ L := clo_prefix_n h _ r rfl h1
theorem addTo_pfx {L : List (List Nat)} {s : ByteArray} (h : Clo L) {j k : Nat} (hj : j ≤ k) : pfx s j ∈ addTo L s k := by
  rcases Nat.eq_zero_or_pos j with h0 | h0
  · subst h0; exact addTo_mem.2 (.inl h.1)
  · exact addTo_mem.2 (.inr ⟨j, h0, hj, rfl⟩)
/-- How many are new. -/
theorem addTo_len {L : List (List Nat)} {s : ByteArray} {a n : Nat} (ha : a ≤ n) (h : ∀ k, k ≤ n → (pfx s k ∈ L ↔ k ≤ a)) : ∀ k, k ≤ n → (addTo L s k).length = L.length + (k - a)
  | 0, _ => by simp [addTo]
  | k + 1, hk => by
    have ih := addTo_len ha h k (by omega)
    by_cases e : k + 1 ≤ a
    · rw [addTo_hit (addTo_mem.2 (.inl ((h _ hk).2 e))), ih]; omega
    · rw [addTo_miss (fun hm => by
        rcases addTo_mem.1 hm with h1 | ⟨j, h1, h2, h3⟩
        · exact e ((h _ hk).1 h1)
        · have := congrArg List.length h3
          rw [pfx_len, pfx_len] at this; omega), List.length_append, ih]
      simp only [List.length_singleton]; omega

theorem wdTo_spec {ws : List ByteArray} {p : List Nat} : ∀ {i : Nat}, (wdTo ws i p = -1 ∧ ∀ m, m < i → p ≠ wordP (wat ws m)) ∨ ∃ m, m < i ∧ wdTo ws i p = m ∧ p = wordP (wat ws m)
  | 0 => .inl ⟨rfl, fun m hm => by omega⟩
  | i + 1 => by
    unfold wdTo
    by_cases e : p = wordP (wat ws i)
    · rw [if_pos e]; exact .inr ⟨i, by omega, rfl, e⟩
    · rw [if_neg e]
      rcases @wdTo_spec ws p i with ⟨h1, h2⟩ | ⟨m, h1, h2, h3⟩
      · exact .inl ⟨h1, fun m hm => by
          by_cases e2 : m = i
          · subst e2; exact e
          · exact h2 m (by omega)⟩
      · exact .inr ⟨m, by omega, h2, h3⟩

/-! How many go on from a beginning. -/
def cnt (ps : List (List Nat)) (p : List Nat) : Nat := (ps.filter fun q => p.isPrefixOf q).length
def vis (ps : List (List Nat)) (p : List Nat) (left : Nat → Bool) : Nat := (ps.filter fun q => p.isPrefixOf q && (q.length == p.length || !left (q.getD p.length 0))).length

theorem cnt_root (ps : List (List Nat)) : cnt ps [] = ps.length := by
  unfold cnt
  rw [List.filter_eq_self.2 (fun q _ => by simp)]
theorem filter_or_len {α : Type} {f g h : α → Bool} : ∀ (l : List α), (∀ x ∈ l, h x = (f x || g x)) → (∀ x ∈ l, ¬ (f x = true ∧ g x = true)) → (l.filter h).length = (l.filter f).length + (l.filter g).length
  | [], _, _ => rfl
  | x :: l, h1, h2 => by
    have ih := filter_or_len l (fun y hy => h1 y (List.mem_cons_of_mem _ hy)) (fun y hy => h2 y (List.mem_cons_of_mem _ hy))
    have e := h1 x (List.mem_cons_self ..)
    have d := h2 x (List.mem_cons_self ..)
    simp only [List.filter_cons]
    cases hf : f x <;> cases hg : g x <;> simp_all <;> omega
theorem vis_end (ps : List (List Nat)) (p : List Nat) (left : Nat → Bool) (h : ∀ c, left c = false) : vis ps p left = cnt ps p := by
  unfold vis cnt
  congr 1
  refine List.filter_congr fun q hq => ?_
  rw [h]; simp
theorem snoc_prefix {p q : List Nat} {c : Nat} : (p ++ [c]).isPrefixOf q = true ↔ p.isPrefixOf q = true ∧ p.length < q.length ∧ q.getD p.length 0 = c := by
  rw [List.isPrefixOf_iff_prefix, List.isPrefixOf_iff_prefix]
  constructor
  · rintro ⟨r, rfl⟩
    refine ⟨⟨[c] ++ r, by simp⟩, by simp, ?_⟩
    simp
  · rintro ⟨⟨r, rfl⟩, h2, h3⟩
    rcases r with _ | ⟨x, r⟩
    · simp at h2
    · refine ⟨r, ?_⟩
      have : x = c := by simpa using h3
      rw [this]; simp
theorem vis_step (ps : List (List Nat)) (p : List Nat) {left left' : Nat → Bool} (c : Nat) (hc : left c = true) (h : ∀ z, left' z = (left z && !(z == c))) : vis ps p left' = vis ps p left + cnt ps (p ++ [c]) := by
  unfold vis cnt
  refine filter_or_len ps (fun q hq => ?_) (fun q hq => ?_)
  · cases hp : p.isPrefixOf q
    · have : (p ++ [c]).isPrefixOf q = false := by
        cases e : (p ++ [c]).isPrefixOf q
        · rfl
        · rw [snoc_prefix.1 e |>.1] at hp; cases hp
      rw [this]; simp
    · have hle := (List.isPrefixOf_iff_prefix.1 hp).length_le
      by_cases e1 : q.length = p.length
      · simp [e1]
      · by_cases e2 : q.getD p.length 0 = c
        · have : (p ++ [c]).isPrefixOf q = true := snoc_prefix.2 ⟨hp, by omega, e2⟩
          rw [this, h, e2]; simp
        · have : (p ++ [c]).isPrefixOf q = false := by
            cases e : (p ++ [c]).isPrefixOf q
            · rfl
            · exact absurd (snoc_prefix.1 e).2.2 e2
          rw [this, h]
          have e3 : (q.getD p.length 0 == c) = false := by simpa using e2
          rw [e3]; simp
  · rintro ⟨h1, h2⟩
    obtain ⟨h3, h4, h5⟩ := snoc_prefix.1 h2
    rw [h5, hc] at h1
    simp at h1
    omega
theorem filter_one_len {α : Type} [DecidableEq α] {x : α} : ∀ {l : List α}, l.Nodup → x ∈ l → (l.filter fun y => decide (y = x)).length = 1
  | [], _, h => by simp at h
  | y :: l, hn, h => by
    rw [List.nodup_cons] at hn
    rw [List.filter_cons]
    by_cases e : y = x
    · subst e
      rw [if_pos (by simp), List.length_cons, List.filter_eq_nil_iff.2 (fun z hz => by
        intro h1
        have : z = y := by simpa using h1
        subst this
        exact hn.1 hz)]
      rfl
    · rw [if_neg (by simpa using e)]
      exact filter_one_len hn.2 (by
        rcases List.mem_cons.1 h with h | h
        · exact absurd h.symm e
        · exact h)
theorem vis_start {ps : List (List Nat)} (hC : Clo ps) (hN : ps.Nodup) {p : List Nat} (hp : p ∈ ps) {left : Nat → Bool} (h : ∀ c, p ++ [c] ∈ ps → left c = true) : vis ps p left = 1 := by
  unfold vis
  rw [← filter_one_len hN hp]
  congr 1
  refine List.filter_congr fun q hq => ?_
  by_cases e : q = p
  · subst e; simp [List.isPrefixOf_iff_prefix]
  · have e1 : decide (q = p) = false := by simpa using e
    rw [e1]
    cases hp2 : p.isPrefixOf q
    · rfl
    · obtain ⟨r, rfl⟩ := List.isPrefixOf_iff_prefix.1 hp2
      rcases r with _ | ⟨x, r⟩
      · simp at e
      · have h2 : p ++ [x] ∈ ps := clo_prefix hC (r := r) (by simpa using hq)
        have := h x h2
        simp [this]
end Go.Proofs.Ythlibdpemocpmaa
