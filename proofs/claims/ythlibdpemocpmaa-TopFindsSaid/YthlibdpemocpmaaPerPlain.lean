/- Plain words on periods of a text: borders and periods, multiples, Fine and Wilf; the root. No program is in sight here. -/
import Derived.Test.YthlibdpemocpmaaZetaPlain
namespace Go.Proofs.Ythlibdpemocpmaa
set_option linter.unusedVariables false
set_option linter.unusedSimpArgs false

/-- p is a period of the first n bytes. -/
def Per (f : Nat → Nat) (n p : Nat) : Prop := p ≤ n ∧ ∀ j, j + p < n → f j = f (j + p)

theorem per_bdr {f : Nat → Nat} {n p : Nat} (h0 : 0 < p) (hn : p ≤ n) : Per f n p ↔ Bdr f n (n - p) := by
  constructor
  · rintro ⟨h1, h2⟩
    refine ⟨by omega, fun j hj => ?_⟩
    rw [h2 j (by omega)]
    congr 1; omega
  · rintro ⟨h1, h2⟩
    refine ⟨hn, fun j hj => ?_⟩
    rw [h2 j (by omega)]
    congr 1; omega

theorem per_self (f : Nat → Nat) (n : Nat) : Per f n n := ⟨Nat.le_refl _, fun j hj => by omega⟩

theorem per_mul {f : Nat → Nat} {n d : Nat} (h : Per f n d) (m x : Nat) (hx : x + m * d < n) : f x = f (x + m * d) := by
  induction m with
  | zero => simp
  | succ m ih =>
    rw [Nat.succ_mul] at hx ⊢
    rw [ih (by omega), h.2 (x + m * d) (by omega)]
    congr 1; omega

theorem per_times {f : Nat → Nat} {n p m : Nat} (h : Per f n p) (hm : m * p ≤ n) : Per f n (m * p) :=
  ⟨hm, fun j hj => per_mul h m j hj⟩

theorem per_pre {f : Nat → Nat} {n m p : Nat} (h : Per f n p) (hm : m ≤ n) (hp : p ≤ m) : Per f m p := ⟨hp, fun j hj => h.2 j (by omega)⟩

/-- Two places as far apart as a multiple of a period hold the same. -/
theorem per_cong {f : Nat → Nat} {n d x y : Nat} (h : Per f n d) (hy : y < n) (hxy : x ≤ y) (hd : d ∣ (y - x)) : f x = f y := by
  obtain ⟨m, hm⟩ := hd
  have e : y = x + m * d := by rw [Nat.mul_comm]; omega
  rw [e]
  exact per_mul h m x (by omega)

/-- Fine and Wilf. -/
theorem per_gcd {f : Nat → Nat} : ∀ (k p q n : Nat), p + q ≤ k → 0 < p → 0 < q → Per f n p → Per f n q → p + q ≤ n + Nat.gcd p q → Per f n (Nat.gcd p q) := by
  intro k
  induction k with
  | zero => intro p q n h h0; omega
  | succ k ih =>
    have main : ∀ p q n, p + q ≤ k + 1 → 0 < p → p < q → Per f n p → Per f n q → p + q ≤ n + Nat.gcd p q → Per f n (Nat.gcd p q) := by
      intro p q n hk hp hpq h1 h2 hn
      have hg : Nat.gcd p (q - p) = Nat.gcd p q := by
        have := Nat.gcd_sub_self_right (m := p) (n := q) (by omega)
        exact this
      have hd1 : Nat.gcd p q ∣ p := Nat.gcd_dvd_left p q
      have hd2 : Nat.gcd p q ∣ (q - p) := by rw [← hg]; exact Nat.gcd_dvd_right p (q - p)
      have hle1 : Nat.gcd p q ≤ p := Nat.le_of_dvd hp hd1
      have hle2 : Nat.gcd p q ≤ q - p := Nat.le_of_dvd (by omega) hd2
      have hdpos : 0 < Nat.gcd p q := Nat.gcd_pos_of_pos_left _ hp
      have a1 : Per f (n - p) p := per_pre h1 (by omega) (by omega)
      have a2 : Per f (n - p) (q - p) := ⟨by omega, fun j hj => by
        have e1 := h2.2 j (by omega)
        have e2 := h1.2 (j + (q - p)) (by omega)
        rw [e1, e2]; congr 1; omega⟩
      have a3 := ih p (q - p) (n - p) (by omega) hp (by omega) a1 a2 (by rw [hg]; omega)
      rw [hg] at a3
      refine ⟨by omega, fun j hj => ?_⟩
      by_cases hj' : j + Nat.gcd p q < n - p
      · exact a3.2 j hj'
      · have e1 := h1.2 (j + Nat.gcd p q - p) (by omega)
        rw [show j + Nat.gcd p q - p + p = j + Nat.gcd p q from by omega] at e1
        rw [← e1]
        have hdd : Nat.gcd p q ∣ (j - (j + Nat.gcd p q - p)) := by
          rw [show j - (j + Nat.gcd p q - p) = p - Nat.gcd p q from by omega]
          exact Nat.dvd_sub hd1 (Nat.dvd_refl _)
        by_cases hjn : j < n - p
        · exact (per_cong a3 hjn (by omega) hdd).symm
        · have e2 := h1.2 (j - p) (by omega)
          rw [show j - p + p = j from by omega] at e2
          rw [← e2]
          have := a3.2 (j - p) (by omega)
          rw [this]; congr 1; omega
    intro p q n hk hp hq h1 h2 hn
    rcases Nat.lt_trichotomy p q with h | h | h
    · exact main p q n hk hp h h1 h2 hn
    · subst h; rw [Nat.gcd_self]; exact h1
    · rw [Nat.gcd_comm]
      exact main q p n (by omega) hq h h2 h1 (by rw [Nat.gcd_comm] at hn; omega)

/-- period.All, as the code makes it. -/
def perList (f : Nat → Nat) (n : Nat) : List Int := ((edgesAll f n).reverse.map fun x => (n : Int) - x) ++ [(n : Int)]

theorem mem_edgesAll {f : Nat → Nat} {n : Nat} {x : Int} : x ∈ edgesAll f n ↔ ∃ k : Nat, x = k ∧ 0 < k ∧ Bdr f n k := by
  unfold edgesAll
  simp only [List.mem_map, List.mem_filter, List.mem_range, decide_eq_true_eq]
  constructor
  · rintro ⟨k, ⟨h1, h2, h3⟩, rfl⟩; exact ⟨k, rfl, h2, h3⟩
  · rintro ⟨k, rfl, h2, h3⟩; exact ⟨k, ⟨h3.1, h2, h3⟩, rfl⟩

theorem mem_perList {f : Nat → Nat} {n : Nat} (hn : 0 < n) {x : Int} : x ∈ perList f n ↔ ∃ p : Nat, x = p ∧ 0 < p ∧ Per f n p := by
  unfold perList
  simp only [List.mem_append, List.mem_map, List.mem_reverse, List.mem_singleton]
  constructor
  · rintro (⟨y, hy, rfl⟩ | rfl)
    · obtain ⟨k, rfl, h1, h2⟩ := mem_edgesAll.1 hy
      have h3 := h2.1
      refine ⟨n - k, by omega, by omega, (per_bdr (by omega) (by omega)).2 ?_⟩
      rwa [show n - (n - k) = k from by omega]
    · exact ⟨n, rfl, hn, per_self _ _⟩
  · rintro ⟨p, rfl, h1, h2⟩
    by_cases e : p = n
    · right; rw [e]
    · left
      have h3 := h2.1
      refine ⟨((n - p : Nat) : Int), mem_edgesAll.2 ⟨n - p, rfl, by omega, (per_bdr h1 h3).1 h2⟩, by omega⟩

@[simp] theorem perList_len (f : Nat → Nat) (n : Nat) : (perList f n).length = (edgesAll f n).length + 1 := by simp [perList]

/-- The borders below m. -/
def edgesLow (f : Nat → Nat) (n m : Nat) : List Int := ((List.range m).filter fun k => decide (0 < k ∧ Bdr f n k)).map fun k : Nat => (k : Int)

theorem edgesLow_one (f : Nat → Nat) (n : Nat) : edgesLow f n 1 = [] := by
  unfold edgesLow
  rw [filter_none (fun k hk => by simp; omega)]; rfl

theorem edgesLow_hit {f : Nat → Nat} {n m : Nat} (h0 : 0 < m) (h : Bdr f n m) : edgesLow f n (m + 1) = edgesLow f n m ++ [(m : Int)] := by
  unfold edgesLow
  rw [List.range_succ, List.filter_append, List.map_append]
  simp [h0, h]

theorem edgesLow_miss {f : Nat → Nat} {n m : Nat} (h : ¬ Bdr f n m) : edgesLow f n (m + 1) = edgesLow f n m := by
  unfold edgesLow
  rw [List.range_succ, List.filter_append, List.map_append]
  simp [h]

theorem edgesLow_all {f : Nat → Nat} {n m : Nat} (h : m = n ∨ (n = 0 ∧ m = 1)) : edgesLow f n m = edgesAll f n := by
  rcases h with h | ⟨h1, h2⟩
  · rw [h]; rfl
  · subst h1 h2; rw [edgesLow_one]; rfl

theorem edgesLow_len (f : Nat → Nat) (n m : Nat) : (edgesLow f n m).length ≤ m := by
  unfold edgesLow
  simp only [List.length_map]
  exact Nat.le_trans (List.length_filter_le _ _) (by simp)

/-- An end goes to the text's end just if it is a border. -/
theorem zf_bdr {f : Nat → Nat} {n m : Nat} (h0 : 0 < m) (hm : m < n) : zf f n (n - m) = m ↔ Bdr f n m := by
  constructor
  · intro h
    refine ⟨hm, fun j hj => ?_⟩
    exact zf_same f n (n - m) j (by omega)
  · rintro ⟨h1, h2⟩
    exact zf_eq (by omega) h2 (fun h => by omega)

/-- The root's length. -/
def rootOf (f : Nat → Nat) (n : Nat) : Nat := if n = 0 then 0 else if n % (n - fail f n) = 0 then n - fail f n else n

theorem ext_bt {a b : ByteArray} (h : a.size = b.size) (hb : ∀ j, j < a.size → bt a j = bt b j) : a = b := by
  apply ByteArray.ext
  apply Array.ext'
  have la : a.data.toList.length = a.size := by simp
  have lb : b.data.toList.length = b.size := by simp
  refine List.ext_getElem (by omega) fun i h1 h2 => ?_
  have := hb i (by omega)
  unfold bt at this
  rw [List.getD_eq_getElem?_getD, List.getD_eq_getElem?_getD, List.getElem?_eq_getElem h1, List.getElem?_eq_getElem h2] at this
  exact UInt8.toNat_inj.1 this
end Go.Proofs.Ythlibdpemocpmaa
