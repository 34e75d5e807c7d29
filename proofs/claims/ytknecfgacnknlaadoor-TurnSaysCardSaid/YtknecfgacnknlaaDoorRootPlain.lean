/- Plain words on roots: the shortest word of which a text is several; what commutes; turns that are the same; least turns of texts that are their own root. No program is in sight here. -/
import Derived.Test.YtknecfgacnknlaaDoorTurnPlain
namespace Go.Proofs.YtknecfgacnknlaaDoor
set_option linter.unusedVariables false
set_option linter.unusedSimpArgs false

/-- k is the least period that divides the length. -/
def IsRoot (f : Nat → Nat) (n k : Nat) : Prop := 0 < k ∧ k ∣ n ∧ Per f n k ∧ ∀ d, 0 < d → d ∣ n → Per f n d → k ∣ d

theorem root_unique {f g : Nat → Nat} {n k m : Nat} (hk : IsRoot f n k) (hm : IsRoot g n m) (h : ∀ d, 0 < d → d ∣ n → (Per f n d ↔ Per g n d)) : k = m := by
  have h1 := hk.2.2.2 m hm.1 hm.2.1 ((h m hm.1 hm.2.1).2 hm.2.2.1)
  have h2 := hm.2.2.2 k hk.1 hk.2.1 ((h k hk.1 hk.2.1).1 hk.2.2.1)
  exact Nat.dvd_antisymm h1 h2

/-- Two periods that divide the length have what divides both. -/
theorem per_gcd_dvd {f : Nat → Nat} {n p q : Nat} (hn : 0 < n) (hp : p ∣ n) (hq : q ∣ n) (h1 : Per f n p) (h2 : Per f n q) : Per f n (Nat.gcd p q) := by
  have hp0 : 0 < p := Nat.pos_of_dvd_of_pos hp hn
  have hq0 : 0 < q := Nat.pos_of_dvd_of_pos hq hn
  have half : ∀ d, d ∣ n → d ≠ n → 2 * d ≤ n := by
    rintro d ⟨c, rfl⟩ hne
    rcases c with _ | _ | c
    · simp at hn
    · simp at hne
    · have : d * 2 ≤ d * (c + 1 + 1) := Nat.mul_le_mul_left d (by omega)
      omega
  by_cases ep : p = n
  · rw [ep, Nat.gcd_eq_right hq]; exact h2
  · by_cases eq : q = n
    · rw [eq, Nat.gcd_eq_left hp]; exact h1
    · have := half p hp ep
      have := half q hq eq
      exact per_gcd (p + q) p q n (Nat.le_refl _) hp0 hq0 h1 h2 (by omega)

theorem rootOf_root {f : Nat → Nat} {n : Nat} (hn : 0 < n) : IsRoot f n (rootOf f n) := by
  have hlt := fail_lt (f := f) hn
  have hper : Per f n (n - fail f n) := (per_bdr (by omega) (by omega)).2 (by
    rw [show n - (n - fail f n) = fail f n from by omega]
    exact fail_bdr hn)
  have hmin : ∀ d, 0 < d → Per f n d → n - fail f n ≤ d := fun d h0 h => by
    have := fail_max ((per_bdr h0 h.1).1 h)
    have := h.1
    omega
  unfold rootOf
  rw [if_neg (by omega)]
  by_cases hr : n % (n - fail f n) = 0
  · rw [if_pos hr]
    have hd := Nat.dvd_of_mod_eq_zero hr
    refine ⟨by omega, hd, hper, fun d h0 hdn hd2 => ?_⟩
    have h1 := per_gcd_dvd hn hd hdn hper hd2
    have h2 := hmin _ (Nat.gcd_pos_of_pos_right _ h0) h1
    have h3 := Nat.le_of_dvd (by omega) (Nat.gcd_dvd_left (n - fail f n) d)
    have h4 : Nat.gcd (n - fail f n) d = n - fail f n := by omega
    rw [← h4]; exact Nat.gcd_dvd_right _ _
  · rw [if_neg hr]
    refine ⟨hn, Nat.dvd_refl _, per_self f n, fun d h0 hdn hd => ?_⟩
    by_cases e : d = n
    · rw [e]; exact Nat.dvd_refl _
    · exfalso
      have hle := Nat.le_of_dvd hn hdn
      have h2 : 2 * d ≤ n := by
        obtain ⟨c, hc⟩ := hdn
        rcases c with _ | _ | c
        · simp at hc; omega
        · simp at hc; omega
        · have : d * 2 ≤ d * (c + 1 + 1) := Nat.mul_le_mul_left d (by omega)
          omega
      have h3 := hmin d h0 hd
      have h4 := per_gcd (n - fail f n + d) (n - fail f n) d n (Nat.le_refl _) (by omega) h0 hper hd (by omega)
      have h5 := hmin _ (Nat.gcd_pos_of_pos_right _ h0) h4
      have h6 := Nat.le_of_dvd (by omega) (Nat.gcd_dvd_left (n - fail f n) d)
      have h7 : Nat.gcd (n - fail f n) d = n - fail f n := by omega
      have h8 : (n - fail f n) ∣ d := by rw [← h7]; exact Nat.gcd_dvd_right _ _
      exact hr (Nat.mod_eq_zero_of_dvd (Nat.dvd_trans h8 hdn))

theorem rootOf_le {f : Nat → Nat} {n : Nat} (hn : 0 < n) : 0 < rootOf f n ∧ rootOf f n ≤ n := ⟨(rootOf_root hn).1, Nat.le_of_dvd hn (rootOf_root hn).2.1⟩

/-- Periods that divide the length, told of the turns. -/
theorem per_turn {f : Nat → Nat} {n d : Nat} (hn : 0 < n) (hd : d ∣ n) : Per f n d ↔ ∀ x, f ((x + d) % n) = f (x % n) := by
  have hle := Nat.le_of_dvd hn hd
  constructor
  · intro h x
    have hx := Nat.mod_lt x hn
    have hy := Nat.mod_lt (x + d) hn
    have hdm : ∀ y, d ∣ y - y % n := fun y => by
      have : y - y % n = n * (y / n) := by have := Nat.div_add_mod y n; omega
      rw [this]; exact Nat.dvd_mul_right_of_dvd hd _
    have hm1 : (x + d) % n % d = x % n % d := by
      rw [Nat.mod_mod_of_dvd _ hd, Nat.mod_mod_of_dvd _ hd, Nat.add_mod_right]
    rcases Nat.le_total ((x + d) % n) (x % n) with h1 | h1
    · exact per_cong h hx h1 (Nat.dvd_of_mod_eq_zero (Nat.sub_mod_eq_zero_of_mod_eq hm1.symm))
    · exact (per_cong h hy h1 (Nat.dvd_of_mod_eq_zero (Nat.sub_mod_eq_zero_of_mod_eq hm1))).symm
  · intro h
    refine ⟨hle, fun j hj => ?_⟩
    have := h j
    rw [Nat.mod_eq_of_lt hj, Nat.mod_eq_of_lt (by omega)] at this
    exact this.symm

theorem per_rot {f : Nat → Nat} {n d i : Nat} (hn : 0 < n) (hd : d ∣ n) : Per (rot f n i) n d ↔ Per f n d := by
  rw [per_turn hn hd, per_turn hn hd]
  unfold rot
  constructor
  · intro h x
    have h1 := h (x + (n - i % n))
    have hi := Nat.mod_lt i hn
    have e : ∀ y, (i + (x + (n - i % n) + y) % n) % n = (x + y) % n := fun y => by
      rw [Nat.add_mod_mod]
      have h3 : i + (x + (n - i % n) + y) = (x + y) + n * (i / n + 1) := by
        have := Nat.div_add_mod i n
        rw [Nat.mul_add]
        omega
      rw [h3, Nat.add_mul_mod_self_left]
    have e0 := e 0
    rw [Nat.add_zero, Nat.add_zero] at e0
    rw [e, e0] at h1
    exact h1
  · intro h x
    rw [Nat.add_mod_mod, Nat.add_mod_mod, ← Nat.add_assoc]
    exact h (i + x)

/-- The turn at i is the turn at j, just if the root divides what lies between. -/
theorem req_root {f : Nat → Nat} {n k i j : Nat} (hn : 0 < n) (hk : IsRoot f n k) (hij : i ≤ j) : REq f n i j ↔ k ∣ (j - i) := by
  constructor
  · intro h
    -- a turn by j - i changes nothing; so does one by what divides it and n
    have h1 : ∀ x, f ((x + (j - i)) % n) = f (x % n) := fun x => by
      have hi := Nat.mod_lt i hn
      have h2 := h ((x + (n - i % n)) % n) (Nat.mod_lt _ hn)
      unfold rot at h2
      have e : ∀ y, (i + y + (x + (n - i % n)) % n) % n = (x + y) % n := fun y => by
        rw [Nat.add_mod_mod]
        have h3 : i + y + (x + (n - i % n)) = (x + y) + n * (i / n + 1) := by
          have := Nat.div_add_mod i n
          rw [Nat.mul_add]
          omega
        rw [h3, Nat.add_mul_mod_self_left]
      have e0 := e 0
      rw [Nat.add_zero, Nat.add_zero] at e0
      have e1 := e (j - i)
      rw [show i + (j - i) = j from by omega] at e1
      rw [e0, e1] at h2
      exact h2.symm
    have h2 : ∀ c x, f ((x + c * (j - i)) % n) = f (x % n) := by
      intro c
      induction c with
      | zero => intro x; simp
      | succ c ih =>
        intro x
        rw [Nat.succ_mul, ← Nat.add_assoc, h1, ih]
    -- gcd by Bezout, told over the natural numbers
    have h3 : ∀ a b, (∀ x, f ((x + a) % n) = f (x % n)) → (∀ x, f ((x + b) % n) = f (x % n)) → ∀ x, f ((x + Nat.gcd a b) % n) = f (x % n) := by
      intro a
      induction a using Nat.strongRecOn with
      | _ a ih =>
        intro b ha hb
        rcases Nat.eq_zero_or_pos a with h0 | h0
        · subst h0; rw [Nat.gcd_zero_left]; exact hb
        · rw [Nat.gcd_rec]
          refine ih (b % a) (Nat.mod_lt _ h0) a ?_ ha
          have hc : ∀ c x, f ((x + c * a) % n) = f (x % n) := by
            intro c
            induction c with
            | zero => intro x; simp
            | succ c ih => intro x; rw [Nat.succ_mul, ← Nat.add_assoc, ha, ih]
          intro x
          have h5 := hc (b / a) (x + b % a)
          have h6 : x + b % a + b / a * a = x + b := by
            have := Nat.div_add_mod b a
            rw [Nat.mul_comm] at this
            omega
          rw [h6, hb] at h5
          exact h5.symm
    have h4 := h3 (j - i) n h1 (fun x => by rw [Nat.add_mod_right])
    have hd : Nat.gcd (j - i) n ∣ n := Nat.gcd_dvd_right _ _
    have h5 := hk.2.2.2 _ (Nat.gcd_pos_of_pos_right _ hn) hd ((per_turn hn hd).2 h4)
    exact Nat.dvd_trans h5 (Nat.gcd_dvd_left _ _)
  · rintro ⟨c, hc⟩ x hx
    have h1 := (per_turn hn hk.2.1).1 hk.2.2.1
    have h2 : ∀ c x, f ((x + c * k) % n) = f (x % n) := by
      intro c
      induction c with
      | zero => intro x; simp
      | succ c ih => intro x; rw [Nat.succ_mul, ← Nat.add_assoc, h1, ih]
    unfold rot
    have h3 := h2 c (i + x)
    rw [show i + x + c * k = j + x from by rw [Nat.mul_comm] at hc; omega] at h3
    exact h3.symm

/-- The least turn of a text that is its own root is a Lyndon word. -/
theorem least_lyn {f : Nat → Nat} {n r : Nat} (h : IsLeast f n r) (hk : IsRoot f n n) : Lyn (rot f n r) n := by
  have hn : 0 < n := by have := h.1; omega
  -- strictly less than every other turn
  have hlt : ∀ i, 0 < i → i < n → ∃ l, l < n ∧ (∀ x, x < l → rot f n r x = rot f n r ((x + i) % n)) ∧ rot f n r l < rot f n r ((l + i) % n) := by
    intro i h0 hi
    have e : ∀ x, rot f n ((r + i) % n) x = rot f n r ((x + i) % n) := fun x => by
      unfold rot
      rw [Nat.mod_add_mod, Nat.add_mod_mod]
      congr 2; omega
    rcases rlt_total f n r ((r + i) % n) with h1 | h1 | h1
    · obtain ⟨l, a1, a2, a3⟩ := h1
      exact ⟨l, a1, fun x hx => by rw [← e]; exact a2 x hx, by rw [← e]; exact a3⟩
    · exfalso
      have h2 : REq f n r (r + i) := fun x hx => by
        rw [h1 x hx]
        unfold rot
        rw [Nat.mod_add_mod]
      have h3 := (req_root hn hk (by omega)).1 h2
      rw [show r + i - r = i from by omega] at h3
      have := Nat.le_of_dvd h0 h3
      omega
    · exact absurd h1 (h.2.1 _ (Nat.mod_lt _ hn))
  refine ⟨hn, fun i h0 hi => ?_⟩
  obtain ⟨l, a1, a2, a3⟩ := hlt i h0 hi
  rcases Nat.lt_or_ge l (n - i) with h1 | h1
  · refine ⟨l, by omega, fun j hj => ?_, ?_⟩
    · have := a2 j hj
      rwa [Nat.mod_eq_of_lt (by omega), Nat.add_comm] at this
    · rwa [Nat.mod_eq_of_lt (by omega), Nat.add_comm] at a3
  · exfalso
    -- the end at i is a beginning: look at the turn by the rest
    obtain ⟨m, b1, b2, b3⟩ := hlt (n - i) (by omega) (by omega)
    have c1 : ∀ y, y < l - (n - i) → rot f n r (n - i + y) = rot f n r y := fun y hy => by
      have := a2 (n - i + y) (by omega)
      rw [show n - i + y + i = y + n from by omega, Nat.add_mod_right, Nat.mod_eq_of_lt (by omega)] at this
      exact this
    have c2 : rot f n r l < rot f n r (l - (n - i)) := by
      rw [show l + i = l - (n - i) + n from by omega, Nat.add_mod_right, Nat.mod_eq_of_lt (by omega)] at a3
      exact a3
    have c3 : rot f n r (n - i + (l - (n - i))) < rot f n r (l - (n - i)) := by
      rw [show n - i + (l - (n - i)) = l from by omega]; exact c2
    rcases Nat.lt_trichotomy m (l - (n - i)) with h2 | h2 | h2
    · have := c1 m h2
      rw [Nat.mod_eq_of_lt (by omega), Nat.add_comm] at b3
      omega
    · subst h2
      rw [Nat.mod_eq_of_lt (by omega), Nat.add_comm] at b3
      omega
    · have := b2 (l - (n - i)) h2
      rw [Nat.mod_eq_of_lt (by omega), Nat.add_comm] at this
      omega

/-- A Lyndon word is its own root. -/
theorem lyn_root {f : Nat → Nat} {n k : Nat} (h : Lyn f n) (hk : IsRoot f n k) : k = n := by
  have hle := Nat.le_of_dvd h.1 hk.2.1
  rcases Nat.lt_or_ge k n with h1 | h1
  · obtain ⟨l, a1, a2, a3⟩ := h.2 k hk.1 h1
    have := hk.2.2.1.2 l (by omega)
    rw [Nat.add_comm] at a3
    omega
  · omega

/-- .. and the least of its turns. -/
theorem lyn_least {f : Nat → Nat} {n : Nat} (h : Lyn f n) : IsLeast f n 0 := by
  have hn := h.1
  have e0 : ∀ x, x < n → rot f n 0 x = f x := fun x hx => by unfold rot; rw [Nat.zero_add, Nat.mod_eq_of_lt hx]
  have key : ∀ t, 0 < t → t < n → RLt f n 0 t := by
    intro t h0 ht
    obtain ⟨l, a1, a2, a3⟩ := h.2 t h0 ht
    refine ⟨l, by omega, fun x hx => ?_, ?_⟩
    · rw [e0 x (by omega), a2 x hx]
      unfold rot; rw [Nat.mod_eq_of_lt (by omega)]
    · rw [e0 l (by omega)]
      unfold rot; rw [Nat.mod_eq_of_lt (by omega)]; exact a3
  refine ⟨hn, fun t ht hlt => ?_, fun t ht => by omega⟩
  rcases Nat.eq_zero_or_pos t with h1 | h1
  · subst h1; exact rlt_irrefl hlt
  · exact rlt_irrefl (rlt_trans hlt (key t h1 ht))
end Go.Proofs.YtknecfgacnknlaaDoor
