/- Plain words on how many different mirrors a text has. No program is in sight here. -/
import Derived.Test.YtknecfgacnknlaaDoorMirLPlain
import Derived.Test.YtknecfgacnknlaaDoorPerPlain
namespace Go.Proofs.YtknecfgacnknlaaDoor
set_option linter.unusedVariables false
set_option linter.unusedSimpArgs false

theorem mir_pal0 {f : Nat → Nat} {n i k : Nat} (hm : Mir f n 0 i k) (h1 : 0 < k) : i + k ≤ n ∧ k ≤ i + 1 ∧ IsPal f (i + 1 - k) (2 * k - 1) := by
  have hb := mir_bd hm h1
  refine ⟨by omega, by omega, fun j hj => ?_⟩
  rcases Nat.lt_or_ge j k with h3 | h3
  · have := (hm (k - 1 - j) (by omega)).2.2
    rw [show i + 1 - k + j = i - (k - 1 - j) - 0 from by omega, show i + 1 - k + (2 * k - 1 - 1 - j) = i + (k - 1 - j) from by omega]
    exact this
  · have := (hm (j + 1 - k) (by omega)).2.2
    rw [show i + 1 - k + j = i + (j + 1 - k) from by omega, show i + 1 - k + (2 * k - 1 - 1 - j) = i - (j + 1 - k) - 0 from by omega]
    exact this.symm

theorem mir_pal1 {f : Nat → Nat} {n i k : Nat} (hm : Mir f n 1 i k) (h1 : 0 < k) : i + k ≤ n ∧ k ≤ i ∧ IsPal f (i - k) (2 * k) := by
  have hb := mir_bd hm h1
  refine ⟨by omega, by omega, fun j hj => ?_⟩
  rcases Nat.lt_or_ge j k with h3 | h3
  · have := (hm (k - 1 - j) (by omega)).2.2
    rw [show i - k + j = i - (k - 1 - j) - 1 from by omega, show i - k + (2 * k - 1 - j) = i + (k - 1 - j) from by omega]
    exact this
  · have := (hm (j - k) (by omega)).2.2
    rw [show i - k + j = i + (j - k) from by omega, show i - k + (2 * k - 1 - j) = i - (j - k) - 1 from by omega]
    exact this.symm

/-- A list of different numbers below n is no longer than n. -/
theorem nodup_len : ∀ (n : Nat) (l : List Nat), l.Nodup → (∀ x ∈ l, x < n) → l.length ≤ n
  | 0, l, _, h => by
    cases l with
    | nil => simp
    | cons a t => exact absurd (h a (by simp)) (by omega)
  | n + 1, l, hd, h => by
    have h1 : (l.erase n).length ≤ n := nodup_len n (l.erase n) (hd.erase n) fun x hx => by
      have h2 := (List.Nodup.mem_erase_iff hd).1 hx
      have := h x h2.2
      have := h2.1
      omega
    have h3 := List.length_erase (a := n) (l := l)
    split at h3 <;> omega

/-- x stands in s, and ends at b there, and is a mirror. -/
def Ends (s : ByteArray) (x : ByteArray) (b : Nat) : Prop := ∃ a, a < b ∧ b ≤ s.size ∧ x = s.extract a b ∧ IsPal (bt s) a (b - a)

theorem ends_ext {s : ByteArray} {a b a' b' : Nat} (h : a ≤ b) (hb : b ≤ s.size) (hb' : b' ≤ s.size) (h' : a' ≤ b') (e : b - a = b' - a') (he : ∀ j, j < b - a → bt s (a + j) = bt s (a' + j)) : s.extract a b = s.extract a' b' := by
  have e1 : (s.extract a b).size = b - a := by simp; omega
  have e2 : (s.extract a' b').size = b' - a' := by simp; omega
  refine ext_bt (by omega) fun j hj => ?_
  rw [bt_extract _ _ _ _ (by omega), bt_extract _ _ _ _ (by omega)]
  exact he j (by omega)

theorem ends_one {s x y : ByteArray} {b : Nat} (hx : Ends s x b) (hy : Ends s y b) (fx : ∀ c, Ends s x c → b ≤ c) (fy : ∀ c, Ends s y c → b ≤ c) : x = y := by
  have key : ∀ (x y : ByteArray) (a a' : Nat), a < a' → a < b → a' < b → b ≤ s.size → x = s.extract a b → y = s.extract a' b → IsPal (bt s) a (b - a) → IsPal (bt s) a' (b - a') → (∀ c, Ends s y c → b ≤ c) → False := by
    intro x y a a' haa ha ha' hb hx hy hpx hpy fy
    have : Ends s y (a + (b - a')) := by
      refine ⟨a, by omega, by omega, ?_, ?_⟩
      · rw [hy]
        refine ends_ext (by omega) hb (by omega) (by omega) (by omega) fun j hj => ?_
        have h1 := hpy j (by omega)
        have h2 := hpx (b - 1 - a' - j + (a' - a)) (by omega)
        rw [show a + (b - 1 - a' - j + (a' - a)) = a' + (b - a' - 1 - j) from by omega, show a + (b - a - 1 - (b - 1 - a' - j + (a' - a))) = a + j from by omega] at h2
        rw [h1, h2]
      · rw [show a + (b - a') - a = b - a' from by omega]
        intro j hj
        have h0 := hpy j (by omega)
        have h1 := hpx j (by omega)
        have h2 := hpx (b - a' - 1 - j) (by omega)
        rw [show a + (b - a - 1 - j) = a' + (b - a' - 1 - j) from by omega] at h1
        rw [show a + (b - a - 1 - (b - a' - 1 - j)) = a' + j from by omega] at h2
        rw [h1, h2, h0]
    have := fy _ this
    omega
  obtain ⟨a, h1, h2, h3, h4⟩ := hx
  obtain ⟨a', g1, g2, g3, g4⟩ := hy
  rcases Nat.lt_trichotomy a a' with h | h | h
  · exact (key x y a a' h h1 g1 h2 h3 g3 h4 g4 fy).elim
  · subst h; rw [h3, g3]
  · exact (key y x a' a h g1 h1 h2 g3 h3 g4 h4 fx).elim

theorem ends_first {s x : ByteArray} : ∀ (b : Nat), Ends s x b → ∃ c, Ends s x c ∧ ∀ d, Ends s x d → c ≤ d := by
  intro b
  induction b using Nat.strongRecOn with
  | ind b ih =>
    intro hb
    rcases Classical.em (∃ d, d < b ∧ Ends s x d) with ⟨d, hd, he⟩ | hno
    · exact ih d hd he
    · exact ⟨b, hb, fun d hd => by
        rcases Nat.lt_or_ge d b with h | h
        · exact absurd ⟨d, h, hd⟩ hno
        · exact h⟩

/-- A list of different mirrors of s. -/
def Pals (s : ByteArray) (l : List ByteArray) : Prop := l.Nodup ∧ ∀ x ∈ l, ∃ b, Ends s x b

theorem pals_nil (s : ByteArray) : Pals s [] := ⟨List.nodup_nil, fun x hx => by simp at hx⟩

theorem pals_add {s : ByteArray} {l : List ByteArray} {x : ByteArray} (h : Pals s l) {b : Nat} (hx : Ends s x b) : ∃ r, ((x ∈ l ∧ r = l) ∨ (¬ x ∈ l ∧ r = l ++ [x])) ∧ Pals s r := by
  rcases Classical.em (x ∈ l) with hm | hm
  · exact ⟨l, .inl ⟨hm, rfl⟩, h⟩
  · refine ⟨l ++ [x], .inr ⟨hm, rfl⟩, ?_, ?_⟩
    · rw [List.nodup_append]
      refine ⟨h.1, by simp, fun a ha b hb => ?_⟩
      simp at hb
      subst hb
      intro e
      exact hm (e ▸ ha)
    · intro y hy
      rcases List.mem_append.1 hy with h' | h'
      · exact h.2 y h'
      · simp at h'; subst h'; exact ⟨b, hx⟩

/-- Where x ends first. -/
noncomputable def firstEnd (s x : ByteArray) : Nat := Classical.epsilon fun c => Ends s x c ∧ ∀ d, Ends s x d → c ≤ d

theorem firstEnd_spec {s x : ByteArray} {b : Nat} (h : Ends s x b) : Ends s x (firstEnd s x) ∧ ∀ d, Ends s x d → firstEnd s x ≤ d :=
  Classical.epsilon_spec (p := fun c => Ends s x c ∧ ∀ d, Ends s x d → c ≤ d) (ends_first b h)

theorem pals_len {s : ByteArray} {l : List ByteArray} (h : Pals s l) : l.length ≤ s.size := by
  have h1 : (l.map fun x => firstEnd s x - 1).Nodup := by
    rw [List.nodup_iff_pairwise_ne, List.pairwise_map]
    refine List.Pairwise.imp_of_mem ?_ (List.nodup_iff_pairwise_ne.1 h.1)
    intro a b ha hb hab e
    obtain ⟨c, hc⟩ := h.2 a ha
    obtain ⟨d, hd⟩ := h.2 b hb
    obtain ⟨e1, e2⟩ := firstEnd_spec hc
    obtain ⟨g1, g2⟩ := firstEnd_spec hd
    have p1 : 0 < firstEnd s a := by obtain ⟨_, h, _⟩ := e1; omega
    have p2 : 0 < firstEnd s b := by obtain ⟨_, h, _⟩ := g1; omega
    have e3 : firstEnd s a = firstEnd s b := by omega
    rw [← e3] at g1 g2
    exact hab (ends_one e1 g1 e2 g2)
  have := nodup_len s.size _ h1 fun y hy => by
    obtain ⟨x, hx, rfl⟩ := List.mem_map.1 hy
    obtain ⟨c, hc⟩ := h.2 x hx
    obtain ⟨⟨a, h1, h2, _⟩, _⟩ := firstEnd_spec hc
    omega
  simpa using this
end Go.Proofs.YtknecfgacnknlaaDoor
