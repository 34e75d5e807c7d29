/- What the walk over a trie tells: the words in order; how many beginnings sorted words have. -/
import Derived.Test.YthlibdpemocpmaaTrieOrder
namespace Go.Proofs.Ythlibdpemocpmaa
set_option linter.unusedVariables false
set_option linter.unusedSimpArgs false

/-- No word stands twice. -/
def Dist (ws : List ByteArray) : Prop := ∀ i j, i < j → j < ws.length → wat ws i ≠ wat ws j

theorem wordP_inj {a b : ByteArray} (h : wordP a = wordP b) : a = b := by
  have h1 : a.size = b.size := by have := congrArg List.length h; simpa [wordP] using this
  unfold wordP at h
  rw [h1] at h
  exact ext_bt h1 fun j hj => pfx_eq.1 h j (by omega)
theorem dist_eq {ws : List ByteArray} (hD : Dist ws) {i j : Nat} (hi : i < ws.length) (hj : j < ws.length) (h : wat ws i = wat ws j) : i = j := by
  rcases Nat.lt_trichotomy i j with h1 | h1 | h1
  · exact absurd h (hD i j h1 hj)
  · exact h1
  · exact absurd h.symm (hD j i h1 hi)
theorem wd_word {ws : List ByteArray} (hD : Dist ws) {p : List Nat} : (0 ≤ wdTo ws ws.length p → ∃ m, m < ws.length ∧ wdTo ws ws.length p = m ∧ p = wordP (wat ws m)) ∧ ∀ m, m < ws.length → p = wordP (wat ws m) → wdTo ws ws.length p = m := by
  rcases wdTo_spec (ws := ws) (p := p) (i := ws.length) with ⟨h1, h2⟩ | ⟨m, h1, h2, h3⟩
  · exact ⟨fun h => by rw [h1] at h; exact absurd h (by decide), fun m hm h => absurd h (h2 m hm)⟩
  · refine ⟨fun _ => ⟨m, h1, h2, h3⟩, fun m' hm' h => ?_⟩
    rw [h2, dist_eq hD h1 hm' (wordP_inj (h3.symm.trans h))]

theorem prefix_cases {p q : List Nat} : p <+: q ↔ p = q ∨ ∃ c, p ++ [c] <+: q := by
  constructor
  · rintro ⟨r, rfl⟩
    rcases r with _ | ⟨c, r⟩
    · exact .inl (by simp)
    · exact .inr ⟨c, r, by simp⟩
  · rintro (rfl | ⟨c, r, rfl⟩)
    · exact List.prefix_refl _
    · exact ⟨[c] ++ r, by simp⟩
theorem child_at {s : ByteArray} {p : List Nat} {c : Nat} (h : p ++ [c] <+: wordP s) : p.length < s.size ∧ p = pfx s p.length ∧ c = bt s p.length ∧ c < 256 := by
  obtain ⟨h1, h2⟩ := prefix_pfx h
  simp only [List.length_append, List.length_singleton] at h1 h2
  obtain ⟨j, h3, h4, h5⟩ := pfx_snoc h2
  obtain rfl : p.length = j := by omega
  exact ⟨by omega, h4, h5, by rw [h5]; exact bt_lt _ _⟩
theorem child_mem {ws : List ByteArray} {m : Nat} (hm : m < ws.length) {p : List Nat} {c : Nat} (h : p ++ [c] <+: wordP (wat ws m)) : p ++ [c] ∈ nodesTo ws ws.length := by
  obtain ⟨h1, h2⟩ := prefix_pfx h
  exact nodesTo_mem.2 (.inr ⟨m, (p ++ [c]).length, hm, by simp, h1, h2⟩)

/-- The order of words, by their numbers. -/
def LB (ws : List ByteArray) (i k : Int) : Prop := Bef (bt (wat ws i.toNat)) (wat ws i.toNat).size (bt (wat ws k.toNat)) (wat ws k.toNat).size

theorem bef_longer {a b : ByteArray} {p : List Nat} {c : Nat} (h : p = wordP a) (h2 : p ++ [c] <+: wordP b) : Bef (bt a) a.size (bt b) b.size := by
  obtain ⟨h3, h4, _⟩ := child_at h2
  have h5 : p.length = a.size := by rw [h]; simp [wordP]
  rw [h5] at h3 h4
  exact .inr ⟨h3, pfx_eq.1 (by rw [← h4, h]; rfl)⟩
theorem bef_split {a b : ByteArray} {p : List Nat} {c d : Nat} (h : p ++ [c] <+: wordP a) (h2 : p ++ [d] <+: wordP b) (hcd : c < d) : Bef (bt a) a.size (bt b) b.size := by
  obtain ⟨h3, h4, h5, _⟩ := child_at h
  obtain ⟨h6, h7, h8, _⟩ := child_at h2
  exact .inl ⟨p.length, h3, h6, pfx_eq.1 (h4.symm.trans h7), by omega⟩
theorem bef_irrefl {f : Nat → Nat} {n : Nat} : ¬ Bef f n f n := by
  rintro (⟨l, _, _, _, h⟩ | ⟨h, _⟩) <;> omega

section
variable {ws : List ByteArray} (hD : Dist ws)
include hD

theorem ordL_mem : ∀ (d : Nat) (p : List Nat), p ∈ nodesTo ws ws.length → (∀ q ∈ nodesTo ws ws.length, q.length < p.length + d) → ∀ x : Int, x ∈ ordL (nodesTo ws ws.length) (wdTo ws ws.length) d p ↔ ∃ m : Nat, m < ws.length ∧ x = m ∧ p <+: wordP (wat ws m)
  | 0, p, hp, hd, x => by have := hd p hp; omega
  | d + 1, p, hp, hd, x => by
    have ih := ordL_mem d
    have hhead : x ∈ (if 0 ≤ wdTo ws ws.length p then [wdTo ws ws.length p] else []) ↔ ∃ m : Nat, m < ws.length ∧ x = m ∧ p = wordP (wat ws m) := by
      constructor
      · intro h
        split at h
        · rename_i h0
          obtain ⟨m, h1, h2, h3⟩ := (wd_word hD).1 h0
          rw [List.mem_singleton, h2] at h
          exact ⟨m, h1, h, h3⟩
        · simp at h
      · rintro ⟨m, h1, rfl, h3⟩
        have h2 := (wd_word hD (p := p)).2 m h1 h3
        rw [h2, if_pos (by omega)]
        simp
    have hrest : x ∈ ((List.range 256).flatMap fun c => if p ++ [c] ∈ nodesTo ws ws.length then ordL (nodesTo ws ws.length) (wdTo ws ws.length) d (p ++ [c]) else []) ↔ ∃ m : Nat, m < ws.length ∧ x = m ∧ ∃ c, p ++ [c] <+: wordP (wat ws m) := by
      rw [List.mem_flatMap]
      constructor
      · rintro ⟨c, hc, h⟩
        split at h
        · rename_i hm
          obtain ⟨m, h1, h2, h3⟩ := (ih (p ++ [c]) hm (fun q hq => by have := hd q hq; simp; omega) x).1 h
          exact ⟨m, h1, h2, c, h3⟩
        · simp at h
      · rintro ⟨m, h1, h2, c, h3⟩
        have hm := child_mem h1 h3
        refine ⟨c, List.mem_range.2 (child_at h3).2.2.2, ?_⟩
        rw [if_pos hm]
        exact (ih (p ++ [c]) hm (fun q hq => by have := hd q hq; simp; omega) x).2 ⟨m, h1, h2, h3⟩
    rw [ordL, List.mem_append, hhead, hrest]
    constructor
    · rintro (⟨m, h1, h2, h3⟩ | ⟨m, h1, h2, h3⟩)
      · exact ⟨m, h1, h2, prefix_cases.2 (.inl h3)⟩
      · exact ⟨m, h1, h2, prefix_cases.2 (.inr h3)⟩
    · rintro ⟨m, h1, h2, h3⟩
      rcases prefix_cases.1 h3 with h4 | h4
      · exact .inl ⟨m, h1, h2, h4⟩
      · exact .inr ⟨m, h1, h2, h4⟩

theorem ordL_pair : ∀ (d : Nat) (p : List Nat), p ∈ nodesTo ws ws.length → (∀ q ∈ nodesTo ws ws.length, q.length < p.length + d) → (ordL (nodesTo ws ws.length) (wdTo ws ws.length) d p).Pairwise (LB ws)
  | 0, p, hp, hd => by have := hd p hp; omega
  | d + 1, p, hp, hd => by
    have ih := ordL_pair d
    have hchild : ∀ c x, x ∈ (if p ++ [c] ∈ nodesTo ws ws.length then ordL (nodesTo ws ws.length) (wdTo ws ws.length) d (p ++ [c]) else []) → ∃ m : Nat, m < ws.length ∧ x = m ∧ p ++ [c] <+: wordP (wat ws m) := fun c x h => by
      split at h
      · rename_i hm
        exact (ordL_mem hD d (p ++ [c]) hm (fun q hq => by have := hd q hq; simp; omega) x).1 h
      · simp at h
    rw [ordL, List.pairwise_append]
    refine ⟨by split <;> simp, List.pairwise_flatMap.2 ⟨fun c hc => ?_, ?_⟩, fun x hx y hy => ?_⟩
    · split
      · rename_i hm
        exact ih (p ++ [c]) hm (fun q hq => by have := hd q hq; simp; omega)
      · exact List.Pairwise.nil
    · refine List.Pairwise.imp_of_mem (fun {c e} hc he hlt x hx y hy => ?_) List.pairwise_lt_range
      obtain ⟨m, h1, rfl, h3⟩ := hchild c x hx
      obtain ⟨k, h4, rfl, h6⟩ := hchild e y hy
      exact bef_split h3 h6 hlt
    · obtain ⟨c, hc, hy⟩ := List.mem_flatMap.1 hy
      obtain ⟨k, h4, rfl, h6⟩ := hchild c y hy
      split at hx
      · rename_i h0
        obtain ⟨m, h1, h2, h3⟩ := (wd_word hD).1 h0
        rw [List.mem_singleton, h2] at hx
        subst hx
        exact bef_longer h3 h6
      · simp at hx
end

/-- All words, in order. -/
def ordW (ws : List ByteArray) : List Int := ordL (nodesTo ws ws.length) (wdTo ws ws.length) 9 []

theorem nodes_short {ws : List ByteArray} (hz : ∀ i, i < ws.length → (wat ws i).size ≤ 8) : ∀ q ∈ nodesTo ws ws.length, q.length < ([] : List Nat).length + 9 := fun q hq => by
  rcases nodesTo_mem.1 hq with rfl | ⟨m, j, h1, h2, h3, rfl⟩
  · simp
  · have := hz m h1
    simp; omega
theorem nodes_bytes {ws : List ByteArray} {n : Nat} : ∀ p c, p ++ [c] ∈ nodesTo ws n → c < 256 := fun p c hq => by
  rcases nodesTo_mem.1 hq with h | ⟨m, j, h1, h2, h3, h4⟩
  · simp at h
  · obtain ⟨i, _, _, h⟩ := pfx_snoc h4
    rw [h]; exact bt_lt _ _
theorem nil_node (ws : List ByteArray) (n : Nat) : [] ∈ nodesTo ws n := (clo_nodes ws n).1

section
variable {ws : List ByteArray} (hD : Dist ws) (hz : ∀ i, i < ws.length → (wat ws i).size ≤ 8)
include hD hz
theorem ordW_mem {x : Int} : x ∈ ordW ws ↔ ∃ m : Nat, m < ws.length ∧ x = m := by
  unfold ordW
  rw [ordL_mem hD 9 [] (nil_node _ _) (nodes_short hz)]
  simp
theorem ordW_pair : (ordW ws).Pairwise (LB ws) := ordL_pair hD 9 [] (nil_node _ _) (nodes_short hz)
theorem ordW_nodup : (ordW ws).Nodup := (ordW_pair hD hz).imp fun {a b} h e => by subst e; exact bef_irrefl h
theorem ordW_len : (ordW ws).length = ws.length := by
  have h1 : ((List.range ws.length).map fun i : Nat => (i : Int)).Nodup := by
    rw [List.nodup_iff_pairwise_ne, List.pairwise_map]
    exact List.Pairwise.imp (fun {a b} h e => by omega) List.pairwise_lt_range
  have := ((List.perm_ext_iff_of_nodup (ordW_nodup hD hz) h1).2 fun x => by
    rw [ordW_mem hD hz, List.mem_map]
    constructor
    · rintro ⟨m, h1, rfl⟩; exact ⟨m, List.mem_range.2 h1, rfl⟩
    · rintro ⟨m, h1, rfl⟩; exact ⟨m, List.mem_range.1 h1, rfl⟩).length_eq
  simpa using this
end

/-! How many beginnings sorted words have. -/
theorem bef_between {f g h : Nat → Nat} {p q r k : Nat} (h1 : Bef f p g q) (h2 : Bef g q h r) (hk : k ≤ p) (hk2 : k ≤ r) (he : ∀ j, j < k → f j = h j) : k ≤ q ∧ ∀ j, j < k → g j = h j := by
  rcases h1 with ⟨l, h3, h4, h5, h6⟩ | ⟨h3, h4⟩
  · by_cases hl : k ≤ l
    · exact ⟨by omega, fun j hj => by rw [← h5 j (by omega)]; exact he j hj⟩
    · have e := he l (by omega)
      rcases h2 with ⟨l', h7, h8, h9, h10⟩ | ⟨h7, h8⟩
      · rcases Nat.lt_trichotomy l' l with h | h | h
        · have a := h5 l' h
          have b := he l' (by omega)
          omega
        · subst h; omega
        · have := h9 l h; omega
      · have := h8 l h4; omega
  · exact ⟨by omega, fun j hj => by rw [← h4 j (by omega)]; exact he j hj⟩

/-- How many bytes two texts begin with alike. -/
def Alk (f g : Nat → Nat) (p q r : Nat) : Prop := r ≤ p ∧ r ≤ q ∧ (∀ j, j < r → f j = g j) ∧ ¬ (r < p ∧ r < q ∧ f r = g r)

theorem nodes_step {vs : List ByteArray} {i r : Nat} (hi : i < vs.length) (hS : ∀ a b, a < b → b < vs.length → Bef (bt (wat vs a)) (wat vs a).size (bt (wat vs b)) (wat vs b).size) (last : ByteArray)
    (hl : (i = 0 ∧ last.size = 0) ∨ (0 < i ∧ last = wat vs (i - 1))) (ha : Alk (bt last) (bt (wat vs i)) last.size (wat vs i).size r) :
    (nodesTo vs (i + 1)).length = (nodesTo vs i).length + ((wat vs i).size - r) := by
  obtain ⟨h1, h2, h3, h4⟩ := ha
  refine addTo_len h2 (fun k hk => ?_) _ (Nat.le_refl _)
  rw [nodesTo_mem]
  constructor
  · rintro (h | ⟨m, j, h5, h6, h7, h8⟩)
    · have := congrArg List.length h
      simp at this; omega
    · have e := congrArg List.length h8
      rw [pfx_len, pfx_len] at e
      subst e
      have hag := pfx_eq.1 h8
      rcases hl with ⟨h9, _⟩ | ⟨h9, h10⟩
      · omega
      · have key : k ≤ last.size ∧ ∀ x, x < k → bt last x = bt (wat vs i) x := by
          by_cases e : m = i - 1
          · subst e; rw [h10]
            exact ⟨h7, fun x hx => (hag x hx).symm⟩
          · rw [h10]
            exact bef_between (hS m (i - 1) (by omega) (by omega)) (hS (i - 1) i (by omega) hi) h7 hk fun x hx => (hag x hx).symm
        refine Classical.byContradiction fun hn => h4 ⟨by omega, by omega, key.2 r (by omega)⟩
  · intro hkr
    rcases Nat.eq_zero_or_pos k with h0 | h0
    · subst h0; exact .inl rfl
    · rcases hl with ⟨h9, h10⟩ | ⟨h9, h10⟩
      · omega
      · refine .inr ⟨i - 1, k, by omega, h0, by rw [← h10]; omega, ?_⟩
        rw [← h10]
        exact pfx_eq.2 fun j hj => (h3 j (by omega)).symm

theorem nodes_same {vs ws : List ByteArray} (h : ∀ s, (∃ m, m < vs.length ∧ wat vs m = s) ↔ ∃ m, m < ws.length ∧ wat ws m = s) : (nodesTo vs vs.length).length = (nodesTo ws ws.length).length := by
  refine ((List.perm_ext_iff_of_nodup (nodesTo_nodup _ _) (nodesTo_nodup _ _)).2 fun p => ?_).length_eq
  rw [nodesTo_mem, nodesTo_mem]
  constructor
  · rintro (h1 | ⟨m, j, h1, h2, h3, h4⟩)
    · exact .inl h1
    · obtain ⟨k, h5, h6⟩ := (h _).1 ⟨m, h1, rfl⟩
      exact .inr ⟨k, j, h5, h2, by rw [h6]; exact h3, by rw [h6]; exact h4⟩
  · rintro (h1 | ⟨m, j, h1, h2, h3, h4⟩)
    · exact .inl h1
    · obtain ⟨k, h5, h6⟩ := (h _).2 ⟨m, h1, rfl⟩
      exact .inr ⟨k, j, h5, h2, by rw [h6]; exact h3, by rw [h6]; exact h4⟩
end Go.Proofs.Ythlibdpemocpmaa
