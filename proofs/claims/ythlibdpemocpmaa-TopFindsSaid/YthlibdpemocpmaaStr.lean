/- Plain words on byte strings: the byte at a place, borders of prefixes, the longest border. No program is in sight here. -/
namespace Go.Proofs.Ythlibdpemocpmaa
set_option linter.unusedVariables false
set_option linter.unusedSimpArgs false

/-- The byte at place i (0 behind the end). -/
def bt (s : ByteArray) (i : Nat) : Nat := (s.data.toList.getD i 0).toNat

theorem get_bt (s : ByteArray) (i : Nat) (h : i < s.size) : s[i].toNat = bt s i := by
  unfold bt
  have h' : i < s.data.toList.length := by simpa using h
  rw [List.getD_eq_getElem?_getD, List.getElem?_eq_getElem h']
  rfl

theorem bt_lt (s : ByteArray) (i : Nat) : bt s i < 256 := by unfold bt; exact UInt8.toNat_lt _

/-- The greatest k below n with p k; 0 if there is none. -/
def lastSuch (p : Nat → Bool) : Nat → Nat
  | 0 => 0
  | n + 1 => if p n then n else lastSuch p n

theorem lastSuch_le (p : Nat → Bool) (n k : Nat) (hk : k < n) (hp : p k = true) : k ≤ lastSuch p n ∧ p (lastSuch p n) = true := by
  induction n with
  | zero => omega
  | succ n ih =>
    unfold lastSuch
    by_cases h : p n = true
    · rw [if_pos h]; exact ⟨by omega, h⟩
    · rw [if_neg h]
      exact ih (by
        have : k ≠ n := fun e => h (e ▸ hp)
        omega)

theorem lastSuch_lt (p : Nat → Bool) (n : Nat) (hn : 0 < n) : lastSuch p n < n := by
  induction n with
  | zero => omega
  | succ n ih =>
    unfold lastSuch
    by_cases h : p n = true
    · rw [if_pos h]; omega
    · rw [if_neg h]
      rcases Nat.eq_zero_or_pos n with h0 | h0
      · subst h0; simp [lastSuch]
      · have := ih h0; omega

/-- k is the length of a border of the prefix of length n (0 is one, if n is not 0). -/
def Bdr (f : Nat → Nat) (n k : Nat) : Prop := k < n ∧ ∀ j, j < k → f j = f (n - k + j)

instance (f : Nat → Nat) (n k : Nat) : Decidable (Bdr f n k) := by unfold Bdr; exact inferInstance

/-- The longest border of the prefix of length n. -/
def fail (f : Nat → Nat) (n : Nat) : Nat := lastSuch (fun k => decide (Bdr f n k)) n

theorem bdr_zero {f : Nat → Nat} {n : Nat} (h : 0 < n) : Bdr f n 0 := ⟨h, fun j hj => by omega⟩

theorem fail_bdr {f : Nat → Nat} {n : Nat} (h : 0 < n) : Bdr f n (fail f n) := by
  have := (lastSuch_le (fun k => decide (Bdr f n k)) n 0 h (by simpa using bdr_zero h)).2
  simpa [fail] using this

theorem fail_max {f : Nat → Nat} {n k : Nat} (h : Bdr f n k) : k ≤ fail f n :=
  (lastSuch_le (fun k => decide (Bdr f n k)) n k h.1 (by simpa using h)).1

theorem fail_lt {f : Nat → Nat} {n : Nat} (h : 0 < n) : fail f n < n := (fail_bdr h).1

theorem fail_eq {f : Nat → Nat} {n r : Nat} (h : Bdr f n r) (hm : ∀ k, Bdr f n k → k ≤ r) : fail f n = r := by
  have h1 := fail_max h
  have h2 := hm _ (fail_bdr (f := f) (n := n) (by have := h.1; omega))
  omega

theorem bdr_succ {f : Nat → Nat} {n q : Nat} (hn : 0 < n) : Bdr f (n + 1) (q + 1) ↔ Bdr f n q ∧ f q = f n := by
  constructor
  · rintro ⟨h1, h2⟩
    refine ⟨⟨by omega, fun j hj => ?_⟩, ?_⟩
    · have := h2 j (by omega)
      rw [this]; congr 1; omega
    · have := h2 q (by omega)
      rw [this]; congr 1; omega
  · rintro ⟨⟨h1, h2⟩, h3⟩
    refine ⟨by omega, fun j hj => ?_⟩
    by_cases e : j = q
    · subst e; rw [h3]; congr 1; omega
    · rw [h2 j (by omega)]; congr 1; omega

theorem bdr_of_bdr {f : Nat → Nat} {n a b : Nat} (ha : Bdr f n a) (hb : Bdr f n b) (h : a < b) : Bdr f b a := by
  refine ⟨h, fun j hj => ?_⟩
  rw [ha.2 j hj, hb.2 (b - a + j) (by omega)]
  congr 1
  have := hb.1
  omega

theorem bdr_trans {f : Nat → Nat} {n a b : Nat} (hb : Bdr f n b) (ha : Bdr f b a) : Bdr f n a := by
  refine ⟨Nat.lt_trans ha.1 hb.1, fun j hj => ?_⟩
  have h1 := ha.1
  have h2 := hb.1
  rw [ha.2 j hj, hb.2 (b - a + j) (by omega)]
  congr 1
  omega

/-- What the inner loop of edges.Of keeps: q is a border of the first n bytes, and no longer one goes on with byte n. -/
def Cand (f : Nat → Nat) (n q : Nat) : Prop := Bdr f n q ∧ ∀ q', Bdr f n q' → q < q' → f q' ≠ f n

theorem cand_start {f : Nat → Nat} {n : Nat} (h : 0 < n) : Cand f n (fail f n) :=
  ⟨fail_bdr h, fun q' h1 h2 => by have := fail_max h1; omega⟩

theorem cand_step {f : Nat → Nat} {n q : Nat} (h : Cand f n q) (hq : 0 < q) (hne : f q ≠ f n) : Cand f n (fail f q) := by
  refine ⟨bdr_trans h.1 (fail_bdr hq), fun q' h1 h2 => ?_⟩
  rcases Nat.lt_trichotomy q' q with h3 | h3 | h3
  · have := fail_max (bdr_of_bdr h1 h.1 h3); omega
  · subst h3; exact hne
  · exact h.2 q' h1 h3

theorem cand_hit {f : Nat → Nat} {n q : Nat} (h : Cand f n q) (he : f q = f n) : fail f (n + 1) = q + 1 := by
  have hn : 0 < n := by have := h.1.1; omega
  refine fail_eq ((bdr_succ hn).2 ⟨h.1, he⟩) fun k hk => ?_
  rcases k with _ | k
  · omega
  · obtain ⟨h1, h2⟩ := (bdr_succ hn).1 hk
    rcases Nat.lt_or_ge q k with h3 | h3
    · exact absurd h2 (h.2 k h1 h3)
    · omega

theorem cand_miss {f : Nat → Nat} {n : Nat} (h : Cand f n 0) (he : f 0 ≠ f n) : fail f (n + 1) = 0 := by
  have hn : 0 < n := by have := h.1.1; omega
  refine fail_eq (bdr_zero (by omega)) fun k hk => ?_
  rcases k with _ | k
  · omega
  · obtain ⟨h1, h2⟩ := (bdr_succ hn).1 hk
    rcases Nat.eq_zero_or_pos k with h3 | h3
    · subst h3; exact absurd h2 he
    · exact absurd h2 (h.2 k h1 h3)

theorem fail_one (f : Nat → Nat) : fail f 1 = 0 := by have := fail_lt (f := f) (n := 1) (by omega); omega

/-- What edges.Of has filled after the first k places. -/
def edgeTo (f : Nat → Nat) (n k : Nat) : List Int := (List.range n).map fun j => if j < k then (fail f (j + 1) : Int) else 0

/-- edges.Of: for each prefix that is not empty, its longest border. -/
def edgesOf (f : Nat → Nat) (n : Nat) : List Int := (List.range n).map fun j => (fail f (j + 1) : Int)

theorem edgeTo_one (f : Nat → Nat) (n : Nat) : List.replicate n (0 : Int) = edgeTo f n 1 := by
  refine List.ext_getElem (by simp [edgeTo]) fun i h1 h2 => ?_
  simp only [edgeTo, List.getElem_replicate, List.getElem_map, List.getElem_range]
  split
  · have : i = 0 := by omega
    subst this; simp [fail_one]
  · rfl

theorem edgeTo_all (f : Nat → Nat) (n k : Nat) (h : n ≤ k) : edgeTo f n k = edgesOf f n := by
  refine List.ext_getElem (by simp [edgeTo, edgesOf]) fun i h1 h2 => ?_
  simp [edgesOf] at h2
  simp only [edgeTo, edgesOf, List.getElem_map, List.getElem_range]
  rw [if_pos (by omega)]

theorem edgeTo_get (f : Nat → Nat) (n k j : Nat) (hj : j < k) (hn : j < n) : (edgeTo f n k)[j]? = some (fail f (j + 1) : Int) := by
  simp [edgeTo, hn, hj]

theorem edgeTo_get0 (f : Nat → Nat) (n k : Nat) (hn : k < n) : (edgeTo f n k)[k]? = some 0 := by
  simp [edgeTo, hn]

theorem edgeTo_set (f : Nat → Nat) (n k : Nat) (h : k < n) : (edgeTo f n k).set k (fail f (k + 1) : Int) = edgeTo f n (k + 1) := by
  refine List.ext_getElem (by simp [edgeTo]) fun i h1 h2 => ?_
  simp only [edgeTo, List.getElem_set, List.getElem_map, List.getElem_range]
  by_cases e : k = i
  · subst e; simp
  · rw [if_neg e]
    by_cases h3 : i < k
    · rw [if_pos h3, if_pos (by omega)]
    · rw [if_neg h3, if_neg (by omega)]

@[simp] theorem edgeTo_len (f : Nat → Nat) (n k : Nat) : (edgeTo f n k).length = n := by simp [edgeTo]
@[simp] theorem edgesOf_len (f : Nat → Nat) (n : Nat) : (edgesOf f n).length = n := by simp [edgesOf]
/-- All borders but the empty one, rising. -/
def edgesAll (f : Nat → Nat) (n : Nat) : List Int := ((List.range n).filter fun k => decide (0 < k ∧ Bdr f n k)).map fun k : Nat => (k : Int)

/-- Those that are at least q, falling. -/
def edgesDown (f : Nat → Nat) (n q : Nat) : List Int := (((List.range n).filter fun k => decide (q ≤ k ∧ 0 < k ∧ Bdr f n k)).map fun k : Nat => (k : Int)).reverse

theorem filter_none {p : Nat → Bool} {n : Nat} (h : ∀ k, k < n → p k = false) : (List.range n).filter p = [] := by
  rw [List.filter_eq_nil_iff]
  intro k hk
  simp at hk
  simp [h k hk]

theorem filter_from {p p' : Nat → Bool} {r q n : Nat} (hr : r < q) (hq : q ≤ n) (hp : p r = true) (h1 : ∀ k, k < r → p k = false) (h2 : ∀ k, r < k → k < q → p k = false) (h3 : ∀ k, q ≤ k → p k = p' k) (h4 : ∀ k, k < q → p' k = false) :
    (List.range n).filter p = r :: (List.range n).filter p' := by
  induction n with
  | zero => omega
  | succ n ih =>
    rw [List.range_succ, List.filter_append, List.filter_append]
    rcases Nat.lt_or_ge n q with hn | hn
    · have hqn : q = n + 1 := by omega
      subst hqn
      rw [filter_none (p := p') (fun k hk => h4 k (by omega))]
      have e2 : [n].filter p' = [] := by simp [h4 n (by omega)]
      rw [e2]
      rcases Nat.lt_or_ge r n with h5 | h5
      · have e3 : [n].filter p = [] := by simp [h2 n h5 (by omega)]
        rw [e3, List.append_nil]
        clear ih e2 e3 hq h4 h3 p' hr hn
        have : ∀ m, r < m → m ≤ n + 1 → (List.range m).filter p = [r] := by
          intro m
          induction m with
          | zero => omega
          | succ m ih =>
            intro h6 h7
            rw [List.range_succ, List.filter_append]
            rcases Nat.lt_or_ge r m with h8 | h8
            · rw [ih h8 (by omega)]; simp [h2 m h8 (by omega)]
            · have : r = m := by omega
              subst this
              rw [filter_none h1]; simp [hp]
        rw [this n h5 (by omega)]; rfl
      · have : r = n := by omega
        subst this
        rw [filter_none h1]; simp [hp]
    · rw [ih hn, List.cons_append]
      congr 1; congr 1
      simp [List.filter_cons, h3 n hn]

theorem edgesDown_start (f : Nat → Nat) (n : Nat) : edgesDown f n n = [] := by
  unfold edgesDown
  rw [filter_none (fun k hk => by simp; omega)]; rfl

theorem edgesDown_step {f : Nat → Nat} {n q : Nat} (hq : q = n ∨ Bdr f n q) (hpos : 0 < q) (hf : 0 < fail f q) : edgesDown f n (fail f q) = edgesDown f n q ++ [(fail f q : Int)] := by
  have h1 := fail_bdr (f := f) hpos
  have hle : q ≤ n := by rcases hq with h | h; omega; have := h.1; omega
  have hb : Bdr f n (fail f q) := by
    rcases hq with h | h
    · rw [← h]; exact h1
    · exact bdr_trans h h1
  have hmid : ∀ k, fail f q < k → k < q → ¬ Bdr f n k := by
    intro k h2 h3 h4
    have : Bdr f q k := by
      rcases hq with h | h
      · rw [h]; exact h4
      · exact bdr_of_bdr h4 h h3
    have := fail_max this
    omega
  unfold edgesDown
  rw [filter_from (r := fail f q) (q := q) (p' := fun k => decide (q ≤ k ∧ 0 < k ∧ Bdr f n k)) h1.1 hle (by simp [hf, hb]) (fun k hk => by simp; omega) (fun k h2 h3 => by
      simp only [decide_eq_false_iff_not]
      exact fun h => hmid k h2 h3 h.2.2) (fun k hk => by
      have := h1.1
      congr 1
      apply propext
      exact ⟨fun h => ⟨hk, h.2⟩, fun h => ⟨by omega, h.2⟩⟩) (fun k hk => by simp; omega)]
  simp

theorem edgesDown_end {f : Nat → Nat} {n q : Nat} (hq : q = n ∨ Bdr f n q) (h0 : q = 0 ∨ fail f q = 0) : (edgesDown f n q).reverse = edgesAll f n := by
  unfold edgesDown edgesAll
  rw [List.reverse_reverse]
  congr 1
  refine List.filter_congr fun k hk => ?_
  congr 1
  apply propext
  refine ⟨fun h => h.2, fun h => ⟨?_, h⟩⟩
  rcases Nat.lt_or_ge k q with h2 | h2
  · have hb : Bdr f q k := by
      rcases hq with e | e
      · rw [e]; exact h.2
      · exact bdr_of_bdr h.2 e h2
    have := fail_max hb
    have := h.1
    omega
  · exact h2

theorem edgesDown_len (f : Nat → Nat) (n q : Nat) : (edgesDown f n q).length ≤ n := by
  unfold edgesDown
  simp only [List.length_reverse, List.length_map]
  exact Nat.le_trans (List.length_filter_le _ _) (by simp)

theorem edgesAll_len (f : Nat → Nat) (n : Nat) : (edgesAll f n).length ≤ n := by
  unfold edgesAll
  simp only [List.length_map]
  exact Nat.le_trans (List.length_filter_le _ _) (by simp)

theorem edgesOf_get (f : Nat → Nat) (n k : Nat) (hk : 0 < k) (hn : k ≤ n) : (edgesOf f n)[k - 1]? = some (fail f k : Int) := by
  simp only [edgesOf, List.getElem?_map, List.getElem?_range (show k - 1 < n by omega), Option.map_some]
  rw [show k - 1 + 1 = k from by omega]

/-! What borders are among each other. -/

theorem edgesAll_zero {f : Nat → Nat} {n : Nat} (h : fail f n = 0) : edgesAll f n = [] := by
  unfold edgesAll
  rw [filter_none (fun k hk => by
    simp only [decide_eq_false_iff_not]
    rintro ⟨h1, h2⟩
    have := fail_max h2
    omega)]
  rfl

theorem edgesAll_chain {f : Nat → Nat} {n : Nat} (h : 0 < fail f n) : edgesAll f n = edgesAll f (fail f n) ++ [(fail f n : Int)] := by
  have hn : 0 < n := by
    rcases Nat.eq_zero_or_pos n with h0 | h0
    · subst h0; simp [fail, lastSuch] at h
    · exact h0
  have hb := fail_bdr (f := f) hn
  have key : ∀ m, fail f n < m → m ≤ n → (List.range m).filter (fun k => decide (0 < k ∧ Bdr f n k)) = (List.range (fail f n)).filter (fun k => decide (0 < k ∧ Bdr f (fail f n) k)) ++ [fail f n] := by
    intro m
    induction m with
    | zero => omega
    | succ m ih =>
      intro h1 h2
      rw [List.range_succ, List.filter_append]
      rcases Nat.lt_or_ge (fail f n) m with h3 | h3
      · rw [ih h3 (by omega)]
        have : ¬ (0 < m ∧ Bdr f n m) := fun h4 => by have := fail_max h4.2; omega
        simp [this]
      · have : m = fail f n := by omega
        subst this
        have e1 : [fail f n].filter (fun k => decide (0 < k ∧ Bdr f n k)) = [fail f n] := by simp [h, hb]
        rw [e1]
        congr 1
        refine List.filter_congr fun k hk => ?_
        congr 1
        apply propext
        have hk' : k < fail f n := by simpa using hk
        exact ⟨fun h4 => ⟨h4.1, bdr_of_bdr h4.2 hb hk'⟩, fun h4 => ⟨h4.1, bdr_trans hb h4.2⟩⟩
  unfold edgesAll
  rw [key n hb.1 (Nat.le_refl _)]
  simp

theorem bdr_congr {f g : Nat → Nat} {n k : Nat} (h : ∀ j, j < n → f j = g j) : Bdr f n k ↔ Bdr g n k := by
  constructor
  · rintro ⟨h1, h2⟩
    exact ⟨h1, fun j hj => by rw [← h j (by omega), ← h (n - k + j) (by omega)]; exact h2 j hj⟩
  · rintro ⟨h1, h2⟩
    exact ⟨h1, fun j hj => by rw [h j (by omega), h (n - k + j) (by omega)]; exact h2 j hj⟩

theorem edgesAll_congr {f g : Nat → Nat} {n : Nat} (h : ∀ j, j < n → f j = g j) : edgesAll f n = edgesAll g n := by
  unfold edgesAll
  congr 1
  refine List.filter_congr fun k hk => ?_
  congr 1
  exact propext (and_congr_right fun _ => bdr_congr h)

theorem bdr_back {f g : Nat → Nat} {n k : Nat} (h : ∀ j, j < n → g j = f (n - 1 - j)) : Bdr f n k → Bdr g n k := by
  rintro ⟨h1, h2⟩
  refine ⟨h1, fun j hj => ?_⟩
  rw [h j (by omega), h (n - k + j) (by omega)]
  have := h2 (k - 1 - j) (by omega)
  rw [show n - 1 - (n - k + j) = k - 1 - j from by omega, this]
  congr 1; omega

theorem edgesAll_back {f g : Nat → Nat} {n : Nat} (h : ∀ j, j < n → g j = f (n - 1 - j)) : edgesAll g n = edgesAll f n := by
  unfold edgesAll
  congr 1
  refine List.filter_congr fun k hk => ?_
  congr 1
  refine propext (and_congr_right fun _ => ⟨bdr_back fun j hj => ?_, bdr_back h⟩)
  rw [h (n - 1 - j) (by omega)]
  congr 1; omega

/-- By one byte the longest border grows by one at most. -/
theorem fail_grow {f : Nat → Nat} {n : Nat} (hn : 0 < n) : fail f (n + 1) ≤ fail f n + 1 := by
  rcases h : fail f (n + 1) with _ | q
  · omega
  · have hb := fail_bdr (f := f) (n := n + 1) (by omega)
    rw [h] at hb
    have := fail_max ((bdr_succ hn).1 hb).1
    omega

/-- .. and ends with the byte that came. -/
theorem fail_last {f : Nat → Nat} {n : Nat} (h : 0 < fail f (n + 1)) : f (fail f (n + 1) - 1) = f n := by
  have hb := fail_bdr (f := f) (n := n + 1) (by omega)
  rw [hb.2 (fail f (n + 1) - 1) (by omega)]
  have := hb.1
  congr 1; omega

theorem bt_extract (s : ByteArray) (a b i : Nat) (h : i < b - a) : bt (s.extract a b) i = bt s (a + i) := by
  unfold bt
  have e : (s.extract a b).data.toList = (s.data.toList.take b).drop a := by simp [List.extract, List.drop_take]
  rw [e, List.getD_eq_getElem?_getD, List.getD_eq_getElem?_getD, List.getElem?_drop, List.getElem?_take, if_pos (by omega)]

theorem bt_append (a b : ByteArray) (i : Nat) : bt (a ++ b) i = if i < a.size then bt a i else bt b (i - a.size) := by
  unfold bt
  have e : (a ++ b).data.toList = a.data.toList ++ b.data.toList := by simp
  rw [e, List.getD_eq_getElem?_getD, List.getElem?_append]
  have : a.data.toList.length = a.size := by simp
  rw [this]
  split <;> simp [List.getD_eq_getElem?_getD]
end Go.Proofs.Ythlibdpemocpmaa
