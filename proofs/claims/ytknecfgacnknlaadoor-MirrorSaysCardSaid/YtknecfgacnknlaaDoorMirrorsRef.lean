/- letterbeckref1.Mirrors and LongMirror: how many mirrors have a place in their middle; the longest one. -/
import Derived.Test.YtknecfgacnknlaaDoorMirRef
import Derived.Test.YtknecfgacnknlaaDoorMirFPlain
import Derived.Test.YtknecfgacnknlaaDoorTold
namespace Go.Proofs.YtknecfgacnknlaaDoor
set_option linter.unusedVariables false
set_option linter.unusedSimpArgs false
open Go.RowKit

/-- A mirror around a place, of an odd length. -/
theorem pal_mir0 {f : Nat → Nat} {n i k : Nat} (h1 : k ≤ i) (h2 : i + k < n) (h : IsPal f (i - k) (2 * k + 1)) : Mir f n 0 i (k + 1) := by
  intro j hj
  refine ⟨by omega, by omega, ?_⟩
  have := h (k - j) (by omega)
  rw [show i - k + (k - j) = i - j - 0 from by omega, show i - k + (2 * k + 1 - 1 - (k - j)) = i + j from by omega] at this
  exact this
theorem pal_mir1 {f : Nat → Nat} {n i k : Nat} (h1 : k + 1 ≤ i) (h2 : i + k < n) (h : IsPal f (i - k - 1) (2 * k + 2)) : Mir f n 1 i (k + 1) := by
  intro j hj
  refine ⟨by omega, by omega, ?_⟩
  have := h (k - j) (by omega)
  rw [show i - k - 1 + (k - j) = i - j - 1 from by omega, show i - k - 1 + (2 * k + 2 - 1 - (k - j)) = i + j from by omega] at this
  exact this

/-- What the k-th look around a place tells. -/
theorem mir_look {s : ByteArray} {i k e : Nat} (he : e ≤ 1) (hi : i < s.size) (h1 : k + e ≤ i) (h2 : i + k < s.size) : isMir (s.extract (i - k - e) (i + k + 1)) = decide (k < mir (bt s) s.size e i) := by
  have hsub := isMir_sub (s := s) (a := i - k - e) (b := i + k + 1) (by omega) (by omega)
  have hm := mir_mir (bt s) s.size e i
  rw [Bool.eq_iff_iff, hsub, decide_eq_true_eq]
  rcases Nat.lt_or_ge e 1 with h0 | h0
  · obtain rfl : e = 0 := by omega
    rw [show i + k + 1 - (i - k - 0) = 2 * k + 1 from by omega, Nat.sub_zero]
    constructor
    · intro h; exact mir_max (by omega) (pal_mir0 (by omega) h2 h)
    · intro h
      have := (mir_pal0 (k := k + 1) (fun t ht => hm t (by omega)) (by omega)).2.2
      rw [show i + 1 - (k + 1) = i - k from by omega, show 2 * (k + 1) - 1 = 2 * k + 1 from by omega] at this
      exact this
  · obtain rfl : e = 1 := by omega
    rw [show i + k + 1 - (i - k - 1) = 2 * k + 2 from by omega]
    constructor
    · intro h; exact mir_max (by omega) (pal_mir1 (by omega) h2 h)
    · intro h
      have := (mir_pal1 (k := k + 1) (fun t ht => hm t (by omega)) (by omega)).2.2
      rw [show i - (k + 1) = i - k - 1 from by omega, show 2 * (k + 1) = 2 * k + 2 from by omega] at this
      exact this

theorem mir_far {f : Nat → Nat} {n i k e : Nat} (hi : i < n) (h : k < mir f n e i) : k + e ≤ i ∧ i + k < n := by
  have := mir_bd (mir_mir f n e i) (by omega)
  omega

set_option maxRecDepth 100000 in
set_option maxHeartbeats 2000000 in
theorem mirrors_any (w : World) (s : ByteArray) (i : Nat) (b : Bool) (e : Nat) (he : (b = false ∧ e = 0) ∨ (b = true ∧ e = 1)) (hs : s.size ≤ 24) (hi : i < s.size) :
    Calls Tryd.prog 45 #[.string s, .int .i64 i, .bool b] w fun r w' => r = .returned (.int .i64 (mir (bt s) s.size e i)) ∧ ∃ m, w' = w.drewN m := by
  have he1 : e ≤ 1 := by rcases he with ⟨_, h⟩ | ⟨_, h⟩ <;> omega
  have hle := mir_le (bt s) s.size e i
  have Hlook := hid (fun k (h1 : k + e ≤ i) (h2 : i + k < s.size) => mir_look (s := s) he1 hi h1 h2)
  have Hfar := hid (fun k (h : k < mir (bt s) s.size e i) => mir_far hi h)
  generalize mir (bt s) s.size e i = M at *
  rcases he with ⟨rfl, rfl⟩ | ⟨rfl, rfl⟩
  · clear he1
    go_enter Tryd.func45, Tryd.ntmps45
    go_wp2_with fail
    go_loopw [7, 8] (fun c t wr => ∃ k q u : Nat, k ≤ s.size ∧ q ≤ k ∧ t = .int .i64 k ∧ c = .int .i64 q ∧ wr = w.drewN u ∧ Hid (q = min k M)) (fun _ t _ => s.size - (intOf t).toNat)
    case atStart => exact ⟨0, 0, 0, by omega, by omega, rfl, rfl, rfl, hid (by simp)⟩
    case round =>
      obtain ⟨k, q, u, hk, hq, rfl, rfl, rfl, hqm⟩ := hrel
      by_cases hlt : k < s.size
      · by_cases hM : k < M
        · obtain ⟨h1, h2⟩ := Hfar.out k hM
          have hl := Hlook.out k h1 h2
          rw [decide_eq_true hM] at hl
          have hnx : Hid (q + 1 = min (k + 1) M) := hid (by have := hqm.out; omega)
          clear hM
          obtain ⟨P, hP, hPn⟩ : ∃ P : Nat, (i : Int) - k = P ∧ P = i - k - 0 := ⟨i - k - 0, by omega, rfl⟩
          rw [← hPn] at hl
          obtain ⟨R, hR, hRn⟩ : ∃ R : Nat, (i : Int) + k + 1 = R ∧ R = i + k + 1 := ⟨i + k + 1, by omega, rfl⟩
          rw [← hRn] at hl
          have hPR : P ≤ R := by omega
          have hRs : R ≤ s.size := by omega
          have hRs' : (R : Int) ≤ s.size := by omega
          have hmc := hid (fun w => mirror_any w (s.extract P R) (by simp; omega))
          rw [hl] at hmc
          clear hl hPn hRn
          go_wp2_with fail
          refine (hmc.out _).mono ?_
          rintro r v2 ⟨m2, rfl, rfl⟩
          go_wp2
          go_roundw
          case rel => exact ⟨k + 1, q + 1, _, by omega, by omega, by go_num, by go_num, rfl, hnx⟩
          case measure => simp [intOf]; omega
        · have hnx : Hid (q = min (k + 1) M) := hid (by have := hqm.out; omega)
          have hsplit : (∃ (h1 : k + 0 ≤ i) (h2 : i + k < s.size), True) ∨ (k + 0 ≤ i ∧ ¬ i + k < s.size) ∨ ¬ k + 0 ≤ i := by
            by_cases c1 : k + 0 ≤ i
            · by_cases c2 : i + k < s.size
              · exact .inl ⟨c1, c2, trivial⟩
              · exact .inr (.inl ⟨c1, c2⟩)
            · exact .inr (.inr c1)
          rcases hsplit with ⟨hc1, hc2, _⟩ | ⟨hc1, hc2⟩ | hc1
          · have hl := Hlook.out k hc1 hc2
            rw [decide_eq_false hM] at hl
            clear hM
            obtain ⟨P, hP, hPn⟩ : ∃ P : Nat, (i : Int) - k = P ∧ P = i - k - 0 := ⟨i - k - 0, by omega, rfl⟩
            rw [← hPn] at hl
            obtain ⟨R, hR, hRn⟩ : ∃ R : Nat, (i : Int) + k + 1 = R ∧ R = i + k + 1 := ⟨i + k + 1, by omega, rfl⟩
            rw [← hRn] at hl
            have hPR : P ≤ R := by omega
            have hRs : R ≤ s.size := by omega
            have hRs' : (R : Int) ≤ s.size := by omega
            have hmc := hid (fun w => mirror_any w (s.extract P R) (by simp; omega))
            rw [hl] at hmc
            clear hl hPn hRn hc1 hc2
            go_wp2_with fail
            refine (hmc.out _).mono ?_
            rintro r v2 ⟨m2, rfl, rfl⟩
            go_wp2
            go_roundw
            case rel => exact ⟨k + 1, q, _, by omega, by omega, by go_num, by go_num, rfl, hnx⟩
            case measure => simp [intOf]; omega
          · obtain ⟨P, hP, hPn⟩ : ∃ P : Nat, (i : Int) - k = P ∧ P = i - k - 0 := ⟨i - k - 0, by omega, rfl⟩
            have hRs' : decide ((i : Int) + k + 1 ≤ s.size) = false := by simp; omega
            have hRs2 : ¬ (i : Int) + k + 1 ≤ s.size := by omega
            clear hPn hc1 hc2
            go_wp2
            go_roundw
            case rel => exact ⟨k + 1, q, _, by omega, by omega, by go_num, by go_num, rfl, hnx⟩
            case measure => simp [intOf]; omega
          · have hZ : (i : Int) - k < 0 := by omega
            have hZ2 : decide (0 ≤ (i : Int) - k) = false := by simp; omega
            clear hc1
            go_wp2
            go_roundw
            case rel => exact ⟨k + 1, q, _, by omega, by omega, by go_num, by go_num, rfl, hnx⟩
            case measure => simp [intOf]; omega
      · have hqM : q = M := by have := hqm.out; omega
        subst hqM
        go_wp2
        go_ret
        exact ⟨rfl, _, rfl⟩
  · clear he1
    go_enter Tryd.func45, Tryd.ntmps45
    go_wp2_with fail
    go_loopw [7, 8] (fun c t wr => ∃ k q u : Nat, k ≤ s.size ∧ q ≤ k ∧ t = .int .i64 k ∧ c = .int .i64 q ∧ wr = w.drewN u ∧ Hid (q = min k M)) (fun _ t _ => s.size - (intOf t).toNat)
    case atStart => exact ⟨0, 0, 0, by omega, by omega, rfl, rfl, rfl, hid (by simp)⟩
    case round =>
      obtain ⟨k, q, u, hk, hq, rfl, rfl, rfl, hqm⟩ := hrel
      by_cases hlt : k < s.size
      · by_cases hM : k < M
        · obtain ⟨h1, h2⟩ := Hfar.out k hM
          have hl := Hlook.out k h1 h2
          rw [decide_eq_true hM] at hl
          have hnx : Hid (q + 1 = min (k + 1) M) := hid (by have := hqm.out; omega)
          clear hM
          obtain ⟨P, hP, hPn⟩ : ∃ P : Nat, (i : Int) - k - 1 = P ∧ P = i - k - 1 := ⟨i - k - 1, by omega, rfl⟩
          rw [← hPn] at hl
          obtain ⟨R, hR, hRn⟩ : ∃ R : Nat, (i : Int) + k + 1 = R ∧ R = i + k + 1 := ⟨i + k + 1, by omega, rfl⟩
          rw [← hRn] at hl
          have hPR : P ≤ R := by omega
          have hRs : R ≤ s.size := by omega
          have hRs' : (R : Int) ≤ s.size := by omega
          have hmc := hid (fun w => mirror_any w (s.extract P R) (by simp; omega))
          rw [hl] at hmc
          clear hl hPn hRn
          go_wp2_with fail
          refine (hmc.out _).mono ?_
          rintro r v2 ⟨m2, rfl, rfl⟩
          go_wp2
          go_roundw
          case rel => exact ⟨k + 1, q + 1, _, by omega, by omega, by go_num, by go_num, rfl, hnx⟩
          case measure => simp [intOf]; omega
        · have hnx : Hid (q = min (k + 1) M) := hid (by have := hqm.out; omega)
          have hsplit : (∃ (h1 : k + 1 ≤ i) (h2 : i + k < s.size), True) ∨ (k + 1 ≤ i ∧ ¬ i + k < s.size) ∨ ¬ k + 1 ≤ i := by
            by_cases c1 : k + 1 ≤ i
            · by_cases c2 : i + k < s.size
              · exact .inl ⟨c1, c2, trivial⟩
              · exact .inr (.inl ⟨c1, c2⟩)
            · exact .inr (.inr c1)
          rcases hsplit with ⟨hc1, hc2, _⟩ | ⟨hc1, hc2⟩ | hc1
          · have hl := Hlook.out k hc1 hc2
            rw [decide_eq_false hM] at hl
            clear hM
            obtain ⟨P, hP, hPn⟩ : ∃ P : Nat, (i : Int) - k - 1 = P ∧ P = i - k - 1 := ⟨i - k - 1, by omega, rfl⟩
            rw [← hPn] at hl
            obtain ⟨R, hR, hRn⟩ : ∃ R : Nat, (i : Int) + k + 1 = R ∧ R = i + k + 1 := ⟨i + k + 1, by omega, rfl⟩
            rw [← hRn] at hl
            have hPR : P ≤ R := by omega
            have hRs : R ≤ s.size := by omega
            have hRs' : (R : Int) ≤ s.size := by omega
            have hmc := hid (fun w => mirror_any w (s.extract P R) (by simp; omega))
            rw [hl] at hmc
            clear hl hPn hRn hc1 hc2
            go_wp2_with fail
            refine (hmc.out _).mono ?_
            rintro r v2 ⟨m2, rfl, rfl⟩
            go_wp2
            go_roundw
            case rel => exact ⟨k + 1, q, _, by omega, by omega, by go_num, by go_num, rfl, hnx⟩
            case measure => simp [intOf]; omega
          · obtain ⟨P, hP, hPn⟩ : ∃ P : Nat, (i : Int) - k - 1 = P ∧ P = i - k - 1 := ⟨i - k - 1, by omega, rfl⟩
            have hRs' : decide ((i : Int) + k + 1 ≤ s.size) = false := by simp; omega
            have hRs2 : ¬ (i : Int) + k + 1 ≤ s.size := by omega
            clear hPn hc1 hc2
            go_wp2
            go_roundw
            case rel => exact ⟨k + 1, q, _, by omega, by omega, by go_num, by go_num, rfl, hnx⟩
            case measure => simp [intOf]; omega
          · have hZ : (i : Int) - k - 1 < 0 := by omega
            have hZ2 : decide (0 ≤ (i : Int) - k - 1) = false := by simp; omega
            clear hc1
            go_wp2
            go_roundw
            case rel => exact ⟨k + 1, q, _, by omega, by omega, by go_num, by go_num, rfl, hnx⟩
            case measure => simp [intOf]; omega
      · have hqM : q = M := by have := hqm.out; omega
        subst hqM
        go_wp2
        go_ret
        exact ⟨rfl, _, rfl⟩

/-- What the loops of LongMirror keep. -/
def LM (f : Nat → Nat) (n i k P Q : Nat) : Prop := P + Q ≤ n ∧ P ≤ i ∧ IsPal f P Q ∧ ∀ a l, 0 < l → a + l ≤ n → IsPal f a l → (a < i ∨ (a = i ∧ a + l < k)) → l < Q ∨ (l = Q ∧ P ≤ a)

section
variable {f : Nat → Nat} {n i k P Q : Nat}
theorem lm_start (f : Nat → Nat) (n : Nat) : LM f n 0 1 0 0 := ⟨by omega, by omega, fun j hj => by omega, fun a l h0 h1 _ h2 => by omega⟩
theorem lm_hit (h : LM f n i k P Q) (hik : i < k) (hk : k ≤ n) (hQ : Q < k - i) (hp : IsPal f i (k - i)) : LM f n i (k + 1) i (k - i) := by
  obtain ⟨h1, h2, h3, h4⟩ := h
  refine ⟨by omega, Nat.le_refl _, hp, fun a l h0 h5 h6 h7 => ?_⟩
  by_cases e : a = i ∧ a + l = k
  · exact .inr ⟨by omega, by omega⟩
  · have := h4 a l h0 h5 h6 (by omega)
    omega
theorem lm_miss (h : LM f n i k P Q) (hik : i < k) (hno : ¬ (Q < k - i ∧ IsPal f i (k - i))) : LM f n i (k + 1) P Q := by
  obtain ⟨h1, h2, h3, h4⟩ := h
  refine ⟨h1, h2, h3, fun a l h0 h5 h6 h7 => ?_⟩
  by_cases e : a = i ∧ a + l = k
  · obtain ⟨e1, e2⟩ := e
    subst e1
    have : ¬ Q < k - a := fun h => hno ⟨h, by rw [show k - a = l from by omega]; exact h6⟩
    omega
  · exact h4 a l h0 h5 h6 (by omega)
theorem lm_next (h : LM f n i (n + 1) P Q) : LM f n (i + 1) (i + 2) P Q := by
  obtain ⟨h1, h2, h3, h4⟩ := h
  exact ⟨h1, by omega, h3, fun a l h0 h5 h6 h7 => h4 a l h0 h5 h6 (by omega)⟩
theorem lm_end (h : LM f n n k P Q) : mAt f n = P ∧ mLong f n = Q := by
  obtain ⟨h1, h2, h3, h4⟩ := h
  rcases Nat.eq_zero_or_pos n with h0 | h0
  · have := (mLong_spec f n).1
    omega
  · have h5 := h4 0 1 (by omega) (by omega) (fun j hj => by
      obtain rfl : j = 0 := by omega
      rfl) (by omega)
    exact mLong_eq (by omega) h1 h3 fun a l h6 h7 h8 => h4 a l h6 h7 h8 (by omega)
end

set_option maxRecDepth 100000 in
set_option maxHeartbeats 2000000 in
theorem longMirror_any (w : World) (s : ByteArray) (hs : s.size ≤ 24) :
    Calls Tryd.prog 46 #[.string s] w fun r w' => r = .returned (.tuple #[.int .i64 (mAt (bt s) s.size), .int .i64 (mLong (bt s) s.size)]) ∧ ∃ m, w' = w.drewN m := by
  go_enter Tryd.func46, Tryd.ntmps46
  go_wp2_with fail
  go_loopw [4, 5, 6] (fun a b t wr => ∃ i P Q u : Nat, i ≤ s.size ∧ P ≤ 24 ∧ Q ≤ 24 ∧ t = .int .i64 i ∧ a = .int .i64 P ∧ b = .int .i64 Q ∧ wr = w.drewN u ∧ Hid (LM (bt s) s.size i (i + 1) P Q)) (fun _ _ t _ => s.size - (intOf t).toNat)
  case atStart => exact ⟨0, 0, 0, 0, by omega, by omega, by omega, rfl, rfl, rfl, rfl, lm_start _ _⟩
  case round =>
    obtain ⟨i, P, Q, u, hi, hP, hQ, rfl, rfl, rfl, rfl, hL⟩ := hrel
    by_cases hlt : i < s.size
    · go_wp2_with fail
      go_loopw [4, 5, 7] (fun a b t wr => ∃ k P Q u : Nat, i < k ∧ k ≤ s.size + 1 ∧ P ≤ 24 ∧ Q ≤ 24 ∧ t = .int .i64 k ∧ a = .int .i64 P ∧ b = .int .i64 Q ∧ wr = w.drewN u ∧ Hid (LM (bt s) s.size i k P Q)) (fun _ _ t _ => s.size + 1 - (intOf t).toNat)
      case atStart => exact ⟨i + 1, P, Q, u, by omega, by omega, hP, hQ, by go_num, rfl, rfl, rfl, hL⟩
      case round =>
        clear hL hP hQ
        obtain ⟨k, P', Q', u', hik, hk, hP, hQ, rfl, rfl, rfl, rfl, hL⟩ := hrel
        by_cases hkn : k ≤ s.size
        · by_cases hbig : Q' < k - i
          · have hbig' : (Q' : Int) < (k : Int) - i := by omega
            have hik2 : i ≤ k := by omega
            have hsub := isMir_sub (s := s) hik2 hkn
            have hmc := hid (fun w => mirror_any w (s.extract i k) (by simp; omega))
            by_cases hm : isMir (s.extract i k) = true
            · have Hn := hid (lm_hit hL.out hik hkn hbig (hsub.1 hm))
              rw [hm] at hmc
              clear hm hsub
              obtain ⟨Z, hZ, hZn⟩ : ∃ Z : Nat, (k : Int) - i = Z ∧ Z = k - i := ⟨k - i, by omega, rfl⟩
              rw [← hZn] at Hn
              go_wp2_with fail
              refine (hmc.out _).mono ?_
              rintro r v2 ⟨m2, rfl, rfl⟩
              go_wp2
              go_roundw
              case rel => exact ⟨k + 1, i, Z, _, by omega, by omega, by omega, by omega, by go_num, rfl, by go_num, rfl, Hn⟩
              case measure => simp [intOf]; omega
            · have Hn := hid (lm_miss hL.out hik (fun h => hm (hsub.2 h.2)))
              have hm' : isMir (s.extract i k) = false := by
                cases e : isMir (s.extract i k)
                · rfl
                · exact absurd e hm
              rw [hm'] at hmc
              clear hm hm' hsub
              go_wp2_with fail
              refine (hmc.out _).mono ?_
              rintro r v2 ⟨m2, rfl, rfl⟩
              go_wp2
              go_roundw
              case rel => exact ⟨k + 1, P', Q', _, by omega, by omega, by omega, by omega, by go_num, rfl, rfl, rfl, Hn⟩
              case measure => simp [intOf]; omega
          · have Hn := hid (lm_miss hL.out hik (fun h => hbig h.1))
            have hbig' : decide ((Q' : Int) < (k : Int) - i) = false := by simp; omega
            have hbig2 : ¬ (Q' : Int) < (k : Int) - i := by omega
            go_wp2
            go_roundw
            case rel => exact ⟨k + 1, P', Q', _, by omega, by omega, by omega, by omega, by go_num, rfl, rfl, rfl, Hn⟩
            case measure => simp [intOf]; omega
        · have hk1 : k = s.size + 1 := by omega
          have hL2 := hL.out
          rw [hk1] at hL2
          have Hn := hid (lm_next hL2)
          clear hL2 hk1
          go_wp2
          go_roundw
          case rel => exact ⟨i + 1, P', Q', _, by omega, by omega, by omega, by go_num, rfl, rfl, rfl, Hn⟩
          case measure => simp [intOf]; omega
    · have hin : i = s.size := by omega
      have hL2 := hL.out
      rw [hin] at hL2
      obtain ⟨e1, e2⟩ := lm_end hL2
      have E1 := hid e1
      have E2 := hid e2
      clear e1 e2 hL2 hin
      go_wp2
      go_ret2
      exact ⟨by rw [E1.out, E2.out]; rfl, _, rfl⟩
end Go.Proofs.YtknecfgacnknlaaDoor
