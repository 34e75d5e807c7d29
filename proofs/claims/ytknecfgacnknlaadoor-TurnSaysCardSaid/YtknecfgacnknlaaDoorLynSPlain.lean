/- The plain laws behind LyndonSays and TurnSays: the search for the longest Lyndon word, for the least turn, for the root. -/
import Derived.Test.YtknecfgacnknlaaDoorTurnB
namespace Go.Proofs.YtknecfgacnknlaaDoor
set_option linter.unusedVariables false
set_option linter.unusedSimpArgs false

theorem isLong_congr {f g : Nat → Nat} {n b : Nat} (h : ∀ j, j < n → f j = g j) (hl : IsLong f n b) : IsLong g n b := by
  obtain ⟨h1, h2, h3⟩ := hl
  exact ⟨lyn_congr (fun j hj => h j (by omega)) h1, h2, fun k h4 h5 h6 => h3 k h4 h5 (lyn_congr (fun j hj => (h j (by omega)).symm) h6)⟩

/-- The longest Lyndon word shorter than k. -/
def LBest (g : Nat → Nat) (k b : Nat) : Prop := Lyn g b ∧ b < k ∧ ∀ j, b < j → j < k → ¬ Lyn g j

theorem lbest_start (g : Nat → Nat) : LBest g 2 1 := ⟨lyn_one g, by omega, fun j h1 h2 => by omega⟩
theorem lbest_hit {g : Nat → Nat} {k b : Nat} (h : LBest g k b) (hk : Lyn g k) : LBest g (k + 1) k := ⟨hk, by omega, fun j h1 h2 => by omega⟩
theorem lbest_miss {g : Nat → Nat} {k b : Nat} (h : LBest g k b) (hk : ¬ Lyn g k) : LBest g (k + 1) b :=
  ⟨h.1, by have := h.2.1; omega, fun j h1 h2 => by
    by_cases e : j = k
    · rw [e]; exact hk
    · exact h.2.2 j h1 (by omega)⟩
theorem lbest_end {g : Nat → Nat} {n b : Nat} (h : LBest g (n + 1) b) : IsLong g n b := ⟨h.1, by have := h.2.1; omega, fun k h1 h2 => h.2.2 k h1 (by omega)⟩

/-- The list tells the parts up to where the rest t begins. -/
def FPos (f : Nat → Nat) (n : Nat) (t : ByteArray) (l : List Int) : Prop := ∃ e, FacAt f n 0 l e ∧ e + t.size = n ∧ ∀ j, j < t.size → bt t j = f (e + j)

theorem fpos_start (s : ByteArray) : FPos (bt s) s.size s [] := ⟨0, rfl, by omega, fun j hj => by rw [Nat.zero_add]⟩
theorem fpos_step {f : Nat → Nat} {n : Nat} {t : ByteArray} {l : List Int} {b : Nat} (h : FPos f n t l) (hb : IsLong (bt t) t.size b) : FPos f n (t.extract b t.size) (l ++ [(b : Int)]) := by
  obtain ⟨e, h1, h2, h3⟩ := h
  have hb2 := hb.2.1
  have hb3 := hb.1.1
  refine ⟨e + b, facAt_snoc h1 (by omega) (by rw [show n - e = t.size from by omega]; exact isLong_congr (fun j hj => h3 j hj) hb), by simp; omega, fun j hj => ?_⟩
  have hj' : j < t.size - b := by simpa using hj
  rw [bt_extract _ _ _ _ hj', h3 _ (by omega), Nat.add_assoc]
theorem fpos_end {f : Nat → Nat} {n : Nat} {t : ByteArray} {l : List Int} (h : FPos f n t l) (h0 : t.size = 0) : FacAt f n 0 l n := by
  obtain ⟨e, h1, h2, h3⟩ := h
  have : e = n := by omega
  rw [← this]; rw [this] at h1 ⊢; exact h1
theorem fpos_len {f : Nat → Nat} {n : Nat} {t : ByteArray} {l : List Int} (h : FPos f n t l) : l.length + t.size ≤ n := by
  obtain ⟨e, h1, h2, h3⟩ := h
  have := facAt_le h1
  omega

theorem bef_turn {s : ByteArray} {i b : Nat} (hi : i ≤ s.size) (hb : b ≤ s.size) : Bef (bt (turnB s i)) (turnB s i).size (bt (turnB s b)) (turnB s b).size ↔ RLt (bt s) s.size i b := by
  rw [turnB_size hi, turnB_size hb]
  constructor
  · rintro (⟨l, h1, _, h2, h3⟩ | ⟨h, _⟩)
    · exact ⟨l, h1, fun x hx => by rw [← turnB_bt hi x (by omega), ← turnB_bt hb x (by omega)]; exact h2 x hx, by rw [← turnB_bt hi l h1, ← turnB_bt hb l h1]; exact h3⟩
    · omega
  · rintro ⟨l, h1, h2, h3⟩
    exact .inl ⟨l, h1, h1, fun j hj => by rw [turnB_bt hi j (by omega), turnB_bt hb j (by omega)]; exact h2 j hj, by rw [turnB_bt hi l h1, turnB_bt hb l h1]; exact h3⟩

/-- The least of the first i turns. -/
def TBest (f : Nat → Nat) (n i b : Nat) : Prop := b < i ∧ (∀ t, t < i → ¬ RLt f n t b) ∧ ∀ t, t < b → RLt f n b t

theorem tbest_start (f : Nat → Nat) (n : Nat) : TBest f n 1 0 := ⟨by omega, fun t ht => by
  obtain rfl : t = 0 := by omega
  exact rlt_irrefl, fun t ht => by omega⟩
theorem tbest_hit {f : Nat → Nat} {n i b : Nat} (h : TBest f n i b) (hi : RLt f n i b) : TBest f n (i + 1) i := by
  obtain ⟨h1, h2, h3⟩ := h
  refine ⟨by omega, fun t ht hlt => ?_, fun t ht => ?_⟩
  · by_cases e : t = i
    · subst e; exact rlt_irrefl hlt
    · exact h2 t (by omega) (rlt_trans hlt hi)
  · rcases rlt_total f n t b with h | h | h
    · exact absurd h (h2 t ht)
    · rcases Nat.lt_trichotomy t b with h4 | h4 | h4
      · exact rlt_trans hi (h3 t h4)
      · subst h4; exact hi
      · exact req_rlt (fun x hx => (h x hx).symm) hi
    · exact rlt_trans hi h
theorem tbest_miss {f : Nat → Nat} {n i b : Nat} (h : TBest f n i b) (hi : ¬ RLt f n i b) : TBest f n (i + 1) b := by
  obtain ⟨h1, h2, h3⟩ := h
  refine ⟨by omega, fun t ht hlt => ?_, h3⟩
  by_cases e : t = i
  · subst e; exact hi hlt
  · exact h2 t (by omega) hlt
theorem tbest_end {f : Nat → Nat} {n b : Nat} (h : TBest f n n b) : IsLeast f n b := h

/-- A text of repeated beginnings. -/
def Reps (s : ByteArray) (k : Nat) (t : ByteArray) : Prop := (∃ m, t.size = m * k) ∧ t.size < s.size + k ∧ ∀ j, j < t.size → bt t j = bt s (j % k)

theorem reps_start {s : ByteArray} {k : Nat} (hk : 0 < k) : Reps s k ByteArray.empty := ⟨⟨0, by simp⟩, by simp; omega, fun j hj => by simp at hj⟩
theorem reps_step {s t : ByteArray} {k : Nat} (hk : 0 < k) (hks : k ≤ s.size) (h : Reps s k t) (hlt : t.size < s.size) : Reps s k (t ++ s.extract 0 k) := by
  obtain ⟨⟨m, h1⟩, h2, h3⟩ := h
  have hz : (s.extract 0 k).size = k := by simp; omega
  refine ⟨⟨m + 1, by simp [h1]; rw [Nat.min_eq_left hks, Nat.add_mul]; omega⟩, by simp; omega, fun j hj => ?_⟩
  rw [bt_append]
  by_cases e : j < t.size
  · rw [if_pos e]; exact h3 j e
  · rw [if_neg e]
    have hj' : j < t.size + k := by simpa [hz, Nat.min_eq_left hks] using hj
    rw [bt_extract _ _ _ _ (by omega), Nat.zero_add]
    congr 1
    have e2 : j = (j - t.size) + k * m := by rw [Nat.mul_comm]; omega
    conv => rhs; rw [e2]
    rw [Nat.add_mul_mod_self_left, Nat.mod_eq_of_lt (by omega)]
theorem reps_eq {s t : ByteArray} {k : Nat} (hk : 0 < k) (hks : k ≤ s.size) (h : Reps s k t) (hge : s.size ≤ t.size) : t = s ↔ k ∣ s.size ∧ Per (bt s) s.size k := by
  obtain ⟨⟨m, h1⟩, h2, h3⟩ := h
  constructor
  · intro e
    rw [e] at h1 h3
    refine ⟨⟨m, by rw [h1, Nat.mul_comm]⟩, hks, fun j hj => ?_⟩
    rw [h3 j (by omega), h3 (j + k) hj, Nat.add_mod_right]
  · rintro ⟨⟨q, hq⟩, hp⟩
    have hm : m = q := by
      rcases Nat.lt_trichotomy m q with h | h | h
      · have := Nat.mul_le_mul_left k (show m + 1 ≤ q from h)
        rw [Nat.mul_comm k (m + 1), Nat.add_mul] at this
        omega
      · exact h
      · have := Nat.mul_le_mul_left k (show q + 1 ≤ m from h)
        rw [Nat.mul_add, Nat.mul_comm k m] at this
        omega
    have hz : t.size = s.size := by rw [h1, hq, hm, Nat.mul_comm]
    refine ext_bt hz fun j hj => ?_
    rw [h3 j (by omega)]
    refine per_cong hp (show j < s.size by omega) (Nat.mod_le _ _) ⟨j / k, ?_⟩
    have := Nat.div_add_mod j k
    omega
/-- The first such k is the root's length. -/
theorem root_first {f : Nat → Nat} {n k : Nat} (hk : 0 < k) (hd : k ∣ n) (hp : Per f n k) (hn : 0 < n) (hno : ∀ j, 0 < j → j < k → ¬ (j ∣ n ∧ Per f n j)) : rootOf f n = k := by
  have hr := rootOf_root (f := f) hn
  have h1 := Nat.le_of_dvd hk (hr.2.2.2 k hk hd hp)
  rcases Nat.lt_or_ge (rootOf f n) k with h | h
  · exact absurd ⟨hr.2.1, hr.2.2.1⟩ (hno _ hr.1 h)
  · omega
end Go.Proofs.YtknecfgacnknlaaDoor
