/- Plain words on the grammar of brackets: what names each part of a text of letters a and b can be. No program is in sight here. -/
import Derived.Test.YthdckapielbonaaStr
namespace Go.Proofs.Ythdckapielbonaa
set_option linter.unusedVariables false
set_option linter.unusedSimpArgs false

/-- How much further open behind k letters from place i on. -/
def ht (f : Nat → Nat) (i : Nat) : Nat → Int
  | 0 => 0
  | k + 1 => ht f i k + (if f (i + k) = 97 then 1 else -1)

theorem ht_split (f : Nat → Nat) (i k : Nat) : ∀ m, ht f i (k + m) = ht f i k + ht f (i + k) m
  | 0 => by simp [ht]
  | m + 1 => by
    rw [show k + (m + 1) = (k + m) + 1 by omega, ht, ht, ht_split f i k m, show i + (k + m) = i + k + m by omega, Int.add_assoc]

/-- The part is brackets that close. -/
def Bal (f : Nat → Nat) (i n : Nat) : Prop := (∀ k, k ≤ n → 0 ≤ ht f i k) ∧ ht f i n = 0

theorem bal_join {f : Nat → Nat} {i k m : Nat} (h1 : Bal f i k) (h2 : Bal f (i + k) m) : Bal f i (k + m) := by
  refine ⟨fun j hj => ?_, by rw [ht_split, h1.2, h2.2]; rfl⟩
  by_cases h : j ≤ k
  · exact h1.1 j h
  · obtain ⟨q, rfl⟩ := Nat.exists_eq_add_of_le (show k ≤ j by omega)
    rw [ht_split, h1.2]
    have := h2.1 q (by omega)
    omega

theorem ht_one (f : Nat → Nat) (i : Nat) : ht f i 1 = if f i = 97 then 1 else -1 := by simp [ht]

theorem bal_wrap {f : Nat → Nat} {i n : Nat} (h1 : f i = 97) (h2 : Bal f (i + 1) n) (h3 : f (i + 1 + n) = 98) : Bal f i (n + 2) := by
  have e1 : ht f i 1 = 1 := by rw [ht_one, if_pos h1]
  have e2 : ∀ q, ht f i (1 + q) = 1 + ht f (i + 1) q := fun q => by rw [ht_split, e1]
  have e3 : ht f (i + 1) (n + 1) = -1 := by
    rw [ht, h2.2, if_neg (by omega)]; rfl
  refine ⟨fun j hj => ?_, by rw [show n + 2 = 1 + (n + 1) by omega, e2, e3]; rfl⟩
  rcases j with _ | q
  · simp [ht]
  · rw [show q + 1 = 1 + q by omega, e2]
    by_cases hq : q ≤ n
    · have := h2.1 q hq; omega
    · rw [show q = n + 1 by omega, e3]; omega

theorem bal_cases {f : Nat → Nat} {i n : Nat} (hl : ∀ k, k < n → f (i + k) = 97 ∨ f (i + k) = 98) (h : Bal f i n) (hn : 1 ≤ n) :
    (∃ k, 1 ≤ k ∧ k < n ∧ Bal f i k ∧ Bal f (i + k) (n - k)) ∨ (2 ≤ n ∧ f i = 97 ∧ Bal f (i + 1) (n - 2) ∧ f (i + n - 1) = 98) := by
  by_cases hk : ∃ k, 1 ≤ k ∧ k < n ∧ ht f i k = 0
  · obtain ⟨k, h1, h2, h3⟩ := hk
    refine .inl ⟨k, h1, h2, ⟨fun j hj => h.1 j (by omega), h3⟩, fun j hj => ?_, ?_⟩
    · have := h.1 (k + j) (by omega)
      rw [ht_split, h3] at this
      omega
    · have := h.2
      rw [show n = k + (n - k) by omega, ht_split, h3] at this
      omega
  · have hpos : ∀ k, 1 ≤ k → k < n → 1 ≤ ht f i k := fun k h1 h2 => by
      have h3 := h.1 k (by omega)
      have h4 : ht f i k ≠ 0 := fun e => hk ⟨k, h1, h2, e⟩
      omega
    have hf : f i = 97 := by
      have h1 := h.1 1 hn
      rw [ht_one] at h1
      by_cases e : f i = 97
      · exact e
      · rw [if_neg e] at h1; omega
    have e1 : ht f i 1 = 1 := by rw [ht_one, if_pos hf]
    have h2 : 2 ≤ n := by
      by_cases e : n = 1
      · subst e; have := h.2; omega
      · omega
    have e2 : ∀ q, ht f i (1 + q) = 1 + ht f (i + 1) q := fun q => by rw [ht_split, e1]
    have hlast : f (i + n - 1) = 98 ∧ ht f i (n - 1) = 1 := by
      have h3 := h.2
      have h4 := hpos (n - 1) (by omega) (by omega)
      rw [show n = (n - 1) + 1 by omega, ht] at h3
      have h5 := hl (n - 1) (by omega)
      rw [show i + n - 1 = i + (n - 1) by omega]
      by_cases e : f (i + (n - 1)) = 97
      · rw [if_pos e] at h3; omega
      · rw [if_neg e] at h3
        exact ⟨by omega, by omega⟩
    refine .inr ⟨h2, hf, ⟨fun j hj => ?_, ?_⟩, hlast.1⟩
    · have := hpos (1 + j) (by omega) (by omega)
      rw [e2] at this
      omega
    · have := hlast.2
      rw [show n - 1 = 1 + (n - 2) by omega, e2] at this
      omega

/-- Name j (A is 0) can be the part. -/
def nt (f : Nat → Nat) (j i n : Nat) : Prop :=
  (j = 0 ∧ n = 1 ∧ f i = 97) ∨ (j = 1 ∧ n = 1 ∧ f i = 98) ∨ (j = 2 ∧ 2 ≤ n ∧ Bal f i (n - 1) ∧ f (i + n - 1) = 98) ∨ (j = 18 ∧ 1 ≤ n ∧ Bal f i n)

instance (f : Nat → Nat) (i n : Nat) : Decidable (Bal f i n) := by unfold Bal; exact inferInstance
instance (f : Nat → Nat) (j i n : Nat) : Decidable (nt f j i n) := by unfold nt; exact inferInstance

def one1 (p : Prop) [Decidable p] (j : Nat) : Nat := if p then 2 ^ j else 0

theorem one_bit (p : Prop) [Decidable p] (m j : Nat) : (one1 p m).testBit j = true ↔ (p ∧ m = j) := by
  unfold one1
  by_cases h : p
  · rw [if_pos h, Nat.testBit_two_pow]; simp [h]
  · rw [if_neg h]; simp [h]

theorem one_lt (p : Prop) [Decidable p] (m : Nat) (hm : m < 19) : one1 p m < 2 ^ 19 := by
  unfold one1
  by_cases h : p
  · rw [if_pos h]; exact Nat.pow_lt_pow_right (by omega) hm
  · rw [if_neg h]; exact Nat.two_pow_pos _

/-- All names of the part, as bits. -/
def V (f : Nat → Nat) (i n : Nat) : Nat := one1 (nt f 0 i n) 0 ||| one1 (nt f 1 i n) 1 ||| one1 (nt f 2 i n) 2 ||| one1 (nt f 18 i n) 18

theorem nt_j {f : Nat → Nat} {j i n : Nat} (h : nt f j i n) : j = 0 ∨ j = 1 ∨ j = 2 ∨ j = 18 := by unfold nt at h; omega

theorem V_bit (f : Nat → Nat) (j i n : Nat) : (V f i n).testBit j = true ↔ nt f j i n := by
  unfold V
  rw [Nat.testBit_or, Nat.testBit_or, Nat.testBit_or, Bool.or_eq_true, Bool.or_eq_true, Bool.or_eq_true, one_bit, one_bit, one_bit, one_bit]
  constructor
  · rintro (((⟨h, rfl⟩ | ⟨h, rfl⟩) | ⟨h, rfl⟩) | ⟨h, rfl⟩) <;> exact h
  · intro h
    rcases nt_j h with rfl | rfl | rfl | rfl
    · exact .inl (.inl (.inl ⟨h, rfl⟩))
    · exact .inl (.inl (.inr ⟨h, rfl⟩))
    · exact .inl (.inr ⟨h, rfl⟩)
    · exact .inr ⟨h, rfl⟩

theorem V_lt (f : Nat → Nat) (i n : Nat) : V f i n < 2 ^ 19 := by
  unfold V
  exact Nat.or_lt_two_pow (Nat.or_lt_two_pow (Nat.or_lt_two_pow (one_lt _ _ (by omega)) (one_lt _ _ (by omega))) (one_lt _ _ (by omega))) (one_lt _ _ (by omega))

/-- What a rule of one letter gives to place i. -/
def con1 (s : ByteArray) (i : Nat) (r : Nat × ByteArray) : Nat := if r.2 = s.extract i (i + 1) then 2 ^ (r.1 - 65) else 0
/-- What a rule of two names gives, the parts being x and y. -/
def con2 (x y : Nat) (r : Nat × ByteArray) : Nat := if r.2.size = 2 ∧ x.testBit (bt r.2 0 - 65) = true ∧ y.testBit (bt r.2 1 - 65) = true then 2 ^ (r.1 - 65) else 0

def fold1 (s : ByteArray) (i : Nat) (R : List (Nat × ByteArray)) : Nat := R.foldl (fun a r => a ||| con1 s i r) 0
def foldR (x y : Nat) (a : Nat) (R : List (Nat × ByteArray)) : Nat := R.foldl (fun a r => a ||| con2 x y r) a
def fold2 (R : List (Nat × ByteArray)) (T : Nat → Nat → Nat) (i n m : Nat) : Nat := (List.range m).foldl (fun a k => foldR (T i (k + 1)) (T (i + (k + 1)) (n - (k + 1))) a R) 0

theorem fold1_snoc (s : ByteArray) (i : Nat) (R : List (Nat × ByteArray)) (r : Nat × ByteArray) : fold1 s i (R ++ [r]) = fold1 s i R ||| con1 s i r := by simp [fold1]
theorem foldR_snoc (x y a : Nat) (R : List (Nat × ByteArray)) (r : Nat × ByteArray) : foldR x y a (R ++ [r]) = foldR x y a R ||| con2 x y r := by simp [foldR]
theorem fold2_succ (R : List (Nat × ByteArray)) (T : Nat → Nat → Nat) (i n m : Nat) : fold2 R T i n (m + 1) = foldR (T i (m + 1)) (T (i + (m + 1)) (n - (m + 1))) (fold2 R T i n m) R := by
  simp [fold2, List.range_succ]

theorem foldl_or_bit {α : Type} (g : α → Nat) (j : Nat) : ∀ (l : List α) (a : Nat), (l.foldl (fun a x => a ||| g x) a).testBit j = true ↔ (a.testBit j = true ∨ ∃ x ∈ l, (g x).testBit j = true)
  | [], a => by simp
  | x :: l, a => by
    rw [List.foldl_cons, foldl_or_bit g j l, Nat.testBit_or, Bool.or_eq_true]
    constructor
    · rintro ((h | h) | ⟨y, h1, h2⟩)
      · exact .inl h
      · exact .inr ⟨x, by simp, h⟩
      · exact .inr ⟨y, by simp [h1], h2⟩
    · rintro (h | ⟨y, h1, h2⟩)
      · exact .inl (.inl h)
      · rcases List.mem_cons.1 h1 with rfl | h1
        · exact .inl (.inr h2)
        · exact .inr ⟨y, h1, h2⟩

theorem fold2_bit (R : List (Nat × ByteArray)) (T : Nat → Nat → Nat) (i n j : Nat) : ∀ m, (fold2 R T i n m).testBit j = true ↔ ∃ k, k < m ∧ ∃ r ∈ R, (con2 (T i (k + 1)) (T (i + (k + 1)) (n - (k + 1))) r).testBit j = true
  | 0 => by simp [fold2]
  | m + 1 => by
    rw [fold2_succ]
    unfold foldR
    rw [foldl_or_bit, fold2_bit R T i n j m]
    constructor
    · rintro (⟨k, h1, h2⟩ | h)
      · exact ⟨k, by omega, h2⟩
      · exact ⟨m, by omega, h⟩
    · rintro ⟨k, h1, h2⟩
      by_cases e : k = m
      · subst e; exact .inr h2
      · exact .inl ⟨k, by omega, h2⟩

theorem con2_bit (x y j : Nat) (r : Nat × ByteArray) : (con2 x y r).testBit j = true ↔ (r.2.size = 2 ∧ x.testBit (bt r.2 0 - 65) = true ∧ y.testBit (bt r.2 1 - 65) = true ∧ r.1 - 65 = j) := by
  unfold con2
  split
  · rename_i h
    rw [Nat.testBit_two_pow]
    simp [h]
  · rename_i h
    constructor
    · intro h2; simp at h2
    · rintro ⟨h1, h2, h3, h4⟩; exact absurd ⟨h1, h2, h3⟩ h

theorem con1_bit (s : ByteArray) (i j : Nat) (r : Nat × ByteArray) : (con1 s i r).testBit j = true ↔ (r.2 = s.extract i (i + 1) ∧ r.1 - 65 = j) := by
  unfold con1
  split
  · rename_i h
    rw [Nat.testBit_two_pow]
    simp [h]
  · rename_i h
    simp [h]

/-- The grammar of brackets. -/
def R0 : List (Nat × ByteArray) := [(83, ⟨#[65, 66]⟩), (83, ⟨#[65, 67]⟩), (67, ⟨#[83, 66]⟩), (83, ⟨#[83, 83]⟩), (65, ⟨#[97]⟩), (66, ⟨#[98]⟩)]

theorem extract_one (s : ByteArray) (i : Nat) (h : i < s.size) : s.extract i (i + 1) = ⟨#[s[i]]⟩ := by
  apply ByteArray.ext
  rw [ByteArray.data_extract]
  apply Array.ext
  · have : s.data.size = s.size := rfl
    simp; omega
  · intro k h1 h2
    simp at h2
    subst h2
    simp
    rfl

theorem one_eq (s : ByteArray) (i : Nat) (h : i < s.size) (c : UInt8) : ((⟨#[c]⟩ : ByteArray) = s.extract i (i + 1)) ↔ bt s i = c.toNat := by
  rw [extract_one s i h, ← get_bt s i h]
  constructor
  · intro e
    injection e with e
    have e2 := congrArg Array.toList e
    simp at e2
    rw [← e2]
  · intro e
    rw [UInt8.toNat_inj.1 e]

theorem two_ne (s : ByteArray) (i : Nat) (h : i < s.size) (c d : UInt8) : ¬ ((⟨#[c, d]⟩ : ByteArray) = s.extract i (i + 1)) := by
  rw [extract_one s i h]
  intro e
  have h2 := congrArg ByteArray.size e
  have h3 : (2 : Nat) = 1 := h2
  omega

theorem ht_ab (f : Nat → Nat) (i : Nat) : ¬ Bal f i 1 := by
  intro h
  have := h.2
  rw [ht_one] at this
  split at this <;> omega

theorem cell_one (s : ByteArray) (i : Nat) (h : i < s.size) : fold1 s i R0 = V (bt s) i 1 := by
  apply Nat.eq_of_testBit_eq
  intro j
  rw [Bool.eq_iff_iff, V_bit]
  unfold fold1
  rw [foldl_or_bit]
  unfold nt
  constructor
  · rintro (h0 | ⟨r, hr, hb⟩)
    · simp at h0
    · rw [con1_bit] at hb
      obtain ⟨h1, h2⟩ := hb
      unfold R0 at hr
      simp only [List.mem_cons, List.not_mem_nil, or_false] at hr
      rcases hr with rfl | rfl | rfl | rfl | rfl | rfl
      · exact absurd h1 (two_ne s i h _ _)
      · exact absurd h1 (two_ne s i h _ _)
      · exact absurd h1 (two_ne s i h _ _)
      · exact absurd h1 (two_ne s i h _ _)
      · exact .inl ⟨h2.symm, rfl, (one_eq s i h 97).1 h1⟩
      · exact .inr (.inl ⟨h2.symm, rfl, (one_eq s i h 98).1 h1⟩)
  · rintro (h2 | h2 | h2 | h2)
    · exact .inr ⟨(65, ⟨#[97]⟩), by simp [R0], (con1_bit _ _ _ _).2 ⟨(one_eq s i h 97).2 h2.2.2, h2.1.symm⟩⟩
    · exact .inr ⟨(66, ⟨#[98]⟩), by simp [R0], (con1_bit _ _ _ _).2 ⟨(one_eq s i h 98).2 h2.2.2, h2.1.symm⟩⟩
    · omega
    · exact absurd h2.2.2 (ht_ab _ _)

theorem bal0 (f : Nat → Nat) (i : Nat) : Bal f i 0 := ⟨fun k hk => by rw [show k = 0 by omega]; simp [ht], by simp [ht]⟩

theorem cell_two (f : Nat → Nat) (i n : Nat) (hn : 2 ≤ n) (hl : ∀ k, k < n → f (i + k) = 97 ∨ f (i + k) = 98) : fold2 R0 (V f) i n (n - 1) = V f i n := by
  apply Nat.eq_of_testBit_eq
  intro j
  rw [Bool.eq_iff_iff, V_bit, fold2_bit]
  have b65 : bt ⟨#[65, 66]⟩ 0 = 65 := rfl
  simp only [con2_bit, V_bit, R0, List.mem_cons, List.not_mem_nil, or_false, exists_eq_or_imp, exists_eq_left]
  have e1 : ∀ c d : UInt8, (ByteArray.mk #[c, d]).size = 2 := fun _ _ => rfl
  have e2 : ∀ c d : UInt8, bt (ByteArray.mk #[c, d]) 0 = c.toNat := fun _ _ => rfl
  have e3 : ∀ c d : UInt8, bt (ByteArray.mk #[c, d]) 1 = d.toNat := fun _ _ => rfl
  have e4 : ∀ c : UInt8, ¬ (ByteArray.mk #[c]).size = 2 := fun _ h => by simp [ByteArray.size] at h
  simp only [e1, e2, e3, e4, true_and, false_and, or_false]
  simp only [UInt8.reduceToNat, Nat.reduceSub]
  constructor
  · rintro ⟨k, hk, h⟩
    have hx : i + (k + 1) + (n - (k + 1)) = i + n := by omega
    rcases h with ⟨h1, h2, rfl⟩ | ⟨h1, h2, rfl⟩ | ⟨h1, h2, rfl⟩ | ⟨h1, h2, rfl⟩
    · -- AB
      unfold nt at h1 h2 ⊢
      have k0 : k = 0 := by omega
      subst k0
      have n2 : n = 2 := by omega
      subst n2
      have h98 : f (i + 1 + 0) = 98 := by
        rcases h2 with h2 | h2 | h2 | h2
        · omega
        · exact h2.2.2
        · omega
        · omega
      have h97 : f i = 97 := by omega
      exact .inr (.inr (.inr ⟨rfl, by omega, bal_wrap (n := 0) h97 (bal0 _ _) h98⟩))
    · -- AC
      have k0 : k = 0 := by unfold nt at h1; omega
      subst k0
      have h3 : f i = 97 := by unfold nt at h1; omega
      have h4 : Bal f (i + 1) (n - 1 - 1) ∧ 2 ≤ n - 1 ∧ f (i + 1 + (n - 1) - 1) = 98 := by
        unfold nt at h2
        rcases h2 with h2 | h2 | h2 | h2
        · omega
        · omega
        · exact ⟨h2.2.2.1, h2.2.1, h2.2.2.2⟩
        · omega
      have := bal_wrap h3 h4.1 (by rw [← h4.2.2]; congr 1; omega)
      rw [show n - 1 - 1 + 2 = n by omega] at this
      exact .inr (.inr (.inr ⟨rfl, by omega, this⟩))
    · -- SB
      have h3 : Bal f i (k + 1) := by
        unfold nt at h1
        rcases h1 with h1 | h1 | h1 | h1
        · omega
        · omega
        · omega
        · exact h1.2.2
      have h4 : n - (k + 1) = 1 ∧ f (i + (k + 1)) = 98 := by unfold nt at h2; omega
      refine .inr (.inr (.inl ⟨rfl, hn, ?_, ?_⟩))
      · rw [show n - 1 = k + 1 by omega]; exact h3
      · rw [show i + n - 1 = i + (k + 1) by omega]; exact h4.2
    · -- SS
      have h3 : Bal f i (k + 1) := by
        unfold nt at h1
        rcases h1 with h1 | h1 | h1 | h1
        · omega
        · omega
        · omega
        · exact h1.2.2
      have h4 : Bal f (i + (k + 1)) (n - (k + 1)) := by
        unfold nt at h2
        rcases h2 with h2 | h2 | h2 | h2
        · omega
        · omega
        · omega
        · exact h2.2.2
      have := bal_join h3 h4
      rw [show k + 1 + (n - (k + 1)) = n by omega] at this
      exact .inr (.inr (.inr ⟨rfl, by omega, this⟩))
  · intro h
    have hj := nt_j h
    rcases h with h | h | ⟨rfl, h1, h2, h3⟩ | ⟨rfl, h1, h2⟩
    · omega
    · omega
    · refine ⟨n - 2, by omega, .inr (.inr (.inl ⟨.inr (.inr (.inr ⟨rfl, by omega, ?_⟩)), .inr (.inl ⟨rfl, by omega, ?_⟩), rfl⟩))⟩
      · rw [show n - 2 + 1 = n - 1 by omega]; exact h2
      · rw [show i + (n - 2 + 1) = i + n - 1 by omega]; exact h3
    · rcases bal_cases hl h2 (by omega) with ⟨k, k1, k2, k3, k4⟩ | ⟨k1, k2, k3, k4⟩
      · refine ⟨k - 1, by omega, .inr (.inr (.inr ⟨.inr (.inr (.inr ⟨rfl, by omega, ?_⟩)), .inr (.inr (.inr ⟨rfl, by omega, ?_⟩)), rfl⟩))⟩
        · rw [show k - 1 + 1 = k by omega]; exact k3
        · rw [show k - 1 + 1 = k by omega]; exact k4
      · by_cases e : n = 2
        · subst e
          refine ⟨0, by omega, .inl ⟨.inl ⟨rfl, rfl, k2⟩, .inr (.inl ⟨rfl, by omega, k4⟩), rfl⟩⟩
        · refine ⟨0, by omega, .inr (.inl ⟨.inl ⟨rfl, rfl, k2⟩, .inr (.inr (.inl ⟨rfl, by omega, ?_, ?_⟩)), rfl⟩)⟩
          · rw [show n - (0 + 1) - 1 = n - 2 by omega]; exact k3
          · rw [← k4]; congr 1; omega
end Go.Proofs.Ythdckapielbonaa
