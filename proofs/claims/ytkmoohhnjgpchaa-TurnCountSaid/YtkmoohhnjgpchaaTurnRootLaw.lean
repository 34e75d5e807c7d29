/- letterbecklaw1.TurnRoot returns true at all texts: the walk. -/
import Derived.Test.YtkmoohhnjgpchaaSame
import Derived.Test.YtkmoohhnjgpchaaIn
namespace Go.Proofs.Ytkmoohhnjgpchaa
set_option linter.unusedVariables false
set_option linter.unusedSimpArgs false
open Go.RowKit

theorem turnRoot_z (w : World) (s : ByteArray) (hs : s.size ≤ 24) :
    Calls Try.prog 17 #[.string s] w fun e w' => e = .returned (.tuple #[.int .i64 (rootOf (bt s) s.size), .nilIface]) ∧ Below w.heap.size w w' := by
  rcases Nat.eq_zero_or_pos s.size with h | h
  · have e : rootOf (bt s) s.size = 0 := by rw [h]; rfl
    rw [e]; exact turnRoot_none w s h
  · exact turnRoot_ok w s hs h

theorem per_congr {f g : Nat → Nat} {n p : Nat} (h : ∀ j, j < n → f j = g j) : Per f n p ↔ Per g n p := by
  unfold Per
  refine and_congr_right fun _ => ⟨fun h1 j hj => ?_, fun h1 j hj => ?_⟩
  · rw [← h j (by omega), ← h (j + p) hj]; exact h1 j hj
  · rw [h j (by omega), h (j + p) hj]; exact h1 j hj

theorem root_congr {f g : Nat → Nat} {n k : Nat} (h : ∀ j, j < n → f j = g j) (hk : IsRoot f n k) : IsRoot g n k :=
  ⟨hk.1, hk.2.1, (per_congr h).1 hk.2.2.1, fun d h0 hd hp => hk.2.2.2 d h0 hd ((per_congr h).2 hp)⟩

/-- A period of a part that is itself a period, and goes into it, is one of the whole. -/
theorem per_ext {f : Nat → Nat} {A d m : Nat} (hA : 0 < A) (hd0 : 0 < d) (hd : d ∣ A) (hp : Per f A d) (hm : m ∣ d) (hq : Per f d m) : Per f A m := by
  have hle := Nat.le_of_dvd hA hd
  have hml := Nat.le_of_dvd hd0 hm
  have key : ∀ j, j < A → f j = f (j % d) := fun j hj => (per_cong hp hj (Nat.mod_le _ _) (by
    have : j - j % d = d * (j / d) := by have := Nat.div_add_mod j d; omega
    rw [this]; exact Nat.dvd_mul_right _ _)).symm
  refine ⟨by omega, fun j hj => ?_⟩
  rw [key j (by omega), key (j + m) hj]
  exact ((per_turn hd0 hm).1 hq j).symm

/-- Two texts make the same in either order just if both are of one root. -/
theorem commute_root {a b : ByteArray} (ha : 0 < a.size) (hb : 0 < b.size) :
    a ++ b = b ++ a ↔ a.extract 0 (rootOf (bt a) a.size) = b.extract 0 (rootOf (bt b) b.size) := by
  have hra := rootOf_root (f := bt a) ha
  have hrb := rootOf_root (f := bt b) hb
  have hla := (rootOf_le (f := bt a) ha)
  have hlb := (rootOf_le (f := bt b) hb)
  generalize rootOf (bt a) a.size = n at hra hla
  generalize rootOf (bt b) b.size = m at hrb hlb
  have za : (a.extract 0 n).size = n := by simp; omega
  have zb : (b.extract 0 m).size = m := by simp; omega
  constructor
  · intro h
    have fa : ∀ j, j < a.size → bt a j = bt (a ++ b) j := fun j hj => by rw [bt_append, if_pos hj]
    have fb : ∀ j, j < b.size → bt b j = bt (a ++ b) j := fun j hj => by rw [h, bt_append, if_pos hj]
    have p1 : Per (bt (a ++ b)) (a.size + b.size) a.size := ⟨by omega, fun j hj => by
      rw [← fb j (by omega), bt_append, if_neg (by omega)]; congr 1; omega⟩
    have p2 : Per (bt (a ++ b)) (a.size + b.size) b.size := ⟨by omega, fun j hj => by
      rw [← fa j (by omega), h, bt_append, if_neg (by omega)]; congr 1; omega⟩
    have pg := per_gcd (a.size + b.size) a.size b.size (a.size + b.size) (Nat.le_refl _) ha hb p1 p2 (by omega)
    have hd1 : Nat.gcd a.size b.size ∣ a.size := Nat.gcd_dvd_left _ _
    have hd2 : Nat.gcd a.size b.size ∣ b.size := Nat.gcd_dvd_right _ _
    have hd0 : 0 < Nat.gcd a.size b.size := Nat.gcd_pos_of_pos_left _ ha
    generalize Nat.gcd a.size b.size = d at pg hd1 hd2 hd0
    have ra := root_congr fa hra
    have rb := root_congr fb hrb
    have pa : Per (bt (a ++ b)) a.size d := per_pre pg (by omega) (Nat.le_of_dvd ha hd1)
    have pb : Per (bt (a ++ b)) b.size d := per_pre pg (by omega) (Nat.le_of_dvd hb hd2)
    have hnd := ra.2.2.2 d hd0 hd1 pa
    have hmd := rb.2.2.2 d hd0 hd2 pb
    have qn : Per (bt (a ++ b)) d n := per_pre ra.2.2.1 (Nat.le_of_dvd ha hd1) (Nat.le_of_dvd hd0 hnd)
    have qm : Per (bt (a ++ b)) d m := per_pre rb.2.2.1 (Nat.le_of_dvd hb hd2) (Nat.le_of_dvd hd0 hmd)
    have e1 : n ∣ m := ra.2.2.2 m rb.1 (Nat.dvd_trans hmd hd1) (per_ext ha hd0 hd1 pa hmd qm)
    have e2 : m ∣ n := rb.2.2.2 n ra.1 (Nat.dvd_trans hnd hd2) (per_ext hb hd0 hd2 pb hnd qn)
    have e := Nat.dvd_antisymm e1 e2
    subst e
    refine ext_bt (by rw [za, zb]) fun j hj => ?_
    rw [za] at hj
    rw [bt_extract _ _ _ _ (by omega), bt_extract _ _ _ _ (by omega), Nat.zero_add, fa j (by omega), fb j (by omega)]
  · intro h
    have e : n = m := by have := congrArg ByteArray.size h; rwa [za, zb] at this
    subst e
    have hw : ∀ j, j < n → bt a j = bt b j := fun j hj => by
      have h1 : bt (a.extract 0 n) j = bt (b.extract 0 n) j := by rw [h]
      rw [bt_extract _ _ _ _ (by omega), bt_extract _ _ _ _ (by omega), Nat.zero_add] at h1
      exact h1
    have ka : ∀ j, j < a.size → bt a j = bt a (j % n) := fun j hj => (per_cong hra.2.2.1 hj (Nat.mod_le _ _) (by
      have : j - j % n = n * (j / n) := by have := Nat.div_add_mod j n; omega
      rw [this]; exact Nat.dvd_mul_right _ _)).symm
    have kb : ∀ j, j < b.size → bt b j = bt a (j % n) := fun j hj => by
      rw [hw (j % n) (Nat.mod_lt _ hra.1)]
      exact (per_cong hrb.2.2.1 hj (Nat.mod_le _ _) (by
        have : j - j % n = n * (j / n) := by have := Nat.div_add_mod j n; omega
        rw [this]; exact Nat.dvd_mul_right _ _)).symm
    have hmod : ∀ j y, n ∣ y → y ≤ j → (j - y) % n = j % n := fun j y ⟨c, hc⟩ hy => by
      have : j = (j - y) + n * c := by omega
      rw [this, Nat.add_mul_mod_self_left]; congr 1; omega
    refine ext_bt (by rw [ByteArray.size_append, ByteArray.size_append]; omega) fun j hj => ?_
    rw [ByteArray.size_append] at hj
    rw [bt_append, bt_append]
    have l1 : (if j < a.size then bt a j else bt b (j - a.size)) = bt a (j % n) := by
      split
      · exact ka j (by assumption)
      · rw [kb _ (by omega), hmod j a.size hra.2.1 (by omega)]
    have l2 : (if j < b.size then bt b j else bt a (j - b.size)) = bt a (j % n) := by
      split
      · exact kb j (by assumption)
      · rw [ka _ (by omega), hmod j b.size hrb.2.1 (by omega)]
    rw [l1, l2]

set_option maxHeartbeats 1000000 in
theorem walk_turnRoot_empty (a0 a1 : ByteArray) (W : World) (hs : a0.size ≤ 24) (ht : a1.size ≤ 24) (x y : Bool) (hx : a0.toList.isEmpty = x) (hy : a1.toList.isEmpty = y)
    (h1 : x = true → rootOf (bt a0) a0.size = 0) (h2 : y = true → rootOf (bt a1) a1.size = 0) (h3 : x = false → 0 < rootOf (bt a0) a0.size) (h4 : y = false → 0 < rootOf (bt a1) a1.size) (hxy : (x || y) = true)
    (hcF : Hid (Calls Try.prog 19 #[] W fun e w' => e = .returned (.bool true) ∧ Below W.heap.size W w')) :
    Calls Try.prog 7 #[.string a0, .string a1] W fun e w' => e = .returned (.bool true) ∧ Below W.heap.size W w' := by
  have hcA := hid (fun w => turnRoot_z w a0 hs)
  have hcB := hid (fun w => turnRoot_z w a1 ht)
  have hla : rootOf (bt a0) a0.size ≤ a0.size := by
    rcases Nat.eq_zero_or_pos a0.size with h | h
    · rw [h]; exact Nat.le_refl _
    · exact (rootOf_le h).2
  have hlb : rootOf (bt a1) a1.size ≤ a1.size := by
    rcases Nat.eq_zero_or_pos a1.size with h | h
    · rw [h]; exact Nat.le_refl _
    · exact (rootOf_le h).2
  generalize rootOf (bt a0) a0.size = n at hla hcA h1 h3
  generalize rootOf (bt a1) a1.size = m at hlb hcB h2 h4
  have e1 : ((n : Int) == 0) = x := by
    cases x
    · have := h3 rfl; rw [beq_eq_false_iff_ne]; omega
    · have := h1 rfl; rw [beq_iff_eq]; omega
  have e2 : ((m : Int) == 0) = y := by
    cases y
    · have := h4 rfl; rw [beq_eq_false_iff_ne]; omega
    · have := h2 rfl; rw [beq_iff_eq]; omega
  clear h1 h2 h3 h4
  cases x <;> cases y <;> simp only [Bool.or_self, Bool.or_true, Bool.true_or, Bool.false_eq_true] at hxy
  all_goals
    go_enter Try.func7, Try.ntmps7
    go_wp2_with fail
    refine hcF.out.mono ?_
    rintro e v1 ⟨rfl, hb1⟩
    go_wp2_with fail
    refine (hcA.out _).mono ?_
    rintro e v2 ⟨rfl, hb2⟩
    go_wp2_with fail
    refine (hcB.out _).mono ?_
    rintro e v3 ⟨rfl, hb3⟩
    go_wp2_with fail
    refine (in_true _ _ _ _ (by omega) (by omega)).mono ?_
    rintro e v4 ⟨rfl, rfl⟩
    go_wp2_with fail
    refine (in_true _ _ _ _ (by omega) (by omega)).mono ?_
    rintro e v4 ⟨rfl, rfl⟩
    go_wp2
    go_ret
    exact ⟨rfl, bch hb1 (bch hb2 hb3)⟩

set_option maxHeartbeats 1000000 in
theorem walk_turnRoot (a0 : ByteArray) (w0 : a0.size ≤ maxLen) (a1 : ByteArray) (w1 : a1.size ≤ maxLen) (W : World) (hM : HasMax W) :
    Calls Try.prog 7 #[.string a0, .string a1] W fun e w' => e = .returned (.bool true) ∧ Below W.heap.size W w' := by
  have hcF := hid (turnFact_true W hM)
  clear hM
  by_cases hs : a0.size ≤ 24
  · by_cases ht : a1.size ≤ 24
    · by_cases hp : 0 < a0.size
      · by_cases hq : 0 < a1.size
        · have hla := rootOf_le (f := bt a0) hp
          have hlb := rootOf_le (f := bt a1) hq
          have hcA := hid (fun w => turnRoot_z w a0 hs)
          have hcB := hid (fun w => turnRoot_z w a1 ht)
          have hcom := commute_root hp hq
          generalize rootOf (bt a0) a0.size = n at hla hcA hcom
          generalize rootOf (bt a1) a1.size = m at hlb hcB hcom
          have hem1 := emp_false hp
          have hem2 := emp_false hq
          obtain ⟨x, e1, e2⟩ : ∃ x : Bool, ((a0 ++ a1).toList == (a1 ++ a0).toList) = x ∧ ((a0.extract 0 n).toList == (a1.extract 0 m).toList) = x := by
            rcases Classical.em (a0 ++ a1 = a1 ++ a0) with h | h
            · exact ⟨true, eq_true' h, eq_true' (hcom.1 h)⟩
            · exact ⟨false, eq_false' h, eq_false' fun h' => h (hcom.2 h')⟩
          have e3 : (x == x) = true := by simp
          clear hcom
          go_enter Try.func7, Try.ntmps7
          go_wp2_with fail
          refine hcF.out.mono ?_
          rintro e v1 ⟨rfl, hb1⟩
          go_wp2_with fail
          refine (hcA.out _).mono ?_
          rintro e v2 ⟨rfl, hb2⟩
          go_wp2_with fail
          refine (hcB.out _).mono ?_
          rintro e v3 ⟨rfl, hb3⟩
          go_wp2_with fail
          refine (in_true _ _ _ _ (by omega) (by omega)).mono ?_
          rintro e v4 ⟨rfl, rfl⟩
          go_wp2_with fail
          refine (in_true _ _ _ _ (by omega) (by omega)).mono ?_
          rintro e v4 ⟨rfl, rfl⟩
          go_wp2_with fail
          go_quiet (fail)
          go_wp2
          go_ret
          exact ⟨rfl, bch hb1 (bch hb2 (below_dn hb3 _))⟩
        · exact walk_turnRoot_empty a0 a1 W hs ht false true (emp_false hp) (emp_true (by omega)) (fun h => by cases h) (fun _ => by rw [show a1.size = 0 from by omega]; rfl) (fun _ => (rootOf_le hp).1) (fun h => by cases h) rfl hcF
      · by_cases hq : 0 < a1.size
        · exact walk_turnRoot_empty a0 a1 W hs ht true false (emp_true (by omega)) (emp_false hq) (fun _ => by rw [show a0.size = 0 from by omega]; rfl) (fun h => by cases h) (fun h => by cases h) (fun _ => (rootOf_le hq).1) rfl hcF
        · exact walk_turnRoot_empty a0 a1 W hs ht true true (emp_true (by omega)) (emp_true (by omega)) (fun _ => by rw [show a0.size = 0 from by omega]; rfl) (fun _ => by rw [show a1.size = 0 from by omega]; rfl) (fun h => by cases h) (fun h => by cases h) rfl hcF
    · go_enter Try.func7, Try.ntmps7
      go_wp2_with fail
      refine hcF.out.mono ?_
      rintro e v1 ⟨rfl, hb1⟩
      go_wp2_with fail
      refine (turnRoot_z _ a0 hs).mono ?_
      rintro e v2 ⟨rfl, hb2⟩
      go_wp2_with fail
      refine (turnRoot_bad _ a1 (by omega) w1).mono ?_
      rintro e v3 ⟨rfl, hb3⟩
      go_wp2
      go_ret
      exact ⟨rfl, bch hb1 (bch hb2 hb3)⟩
  · obtain ⟨y, v, hcB⟩ : ∃ (y : Int) (v : Value), Hid ((v = .nilIface ∨ v = errv 4) ∧ ∀ w, Calls Try.prog 17 #[.string a1] w fun e w' => e = .returned (.tuple #[.int .i64 y, v]) ∧ Below w.heap.size w w') := by
      by_cases ht : a1.size ≤ 24
      · exact ⟨_, .nilIface, .inl rfl, fun w => turnRoot_z w a1 ht⟩
      · exact ⟨0, errv 4, .inr rfl, fun w => turnRoot_bad w a1 (by omega) w1⟩
    go_enter Try.func7, Try.ntmps7
    go_wp2_with fail
    refine hcF.out.mono ?_
    rintro e v1 ⟨rfl, hb1⟩
    go_wp2_with fail
    refine (turnRoot_bad _ a0 (by omega) w0).mono ?_
    rintro e v2 ⟨rfl, hb2⟩
    go_wp2_with fail
    refine (hcB.out.2 _).mono ?_
    rintro e v3 ⟨rfl, hb3⟩
    go_wp2
    go_ret
    exact ⟨rfl, bch hb1 (bch hb2 hb3)⟩
end Go.Proofs.Ytkmoohhnjgpchaa
