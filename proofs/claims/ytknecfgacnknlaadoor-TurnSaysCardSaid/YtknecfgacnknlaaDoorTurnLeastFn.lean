/- turn.Least: where the least turn begins. -/
import Derived.Test.YtknecfgacnknlaaDoorStrs
import Derived.Test.YtknecfgacnknlaaDoorEdgesOf
import Derived.Test.YtknecfgacnknlaaDoorRootPlain
namespace Go.Proofs.YtknecfgacnknlaaDoor
set_option linter.unusedVariables false
set_option linter.unusedSimpArgs false
open Go.RowKit

attribute [local go_sem] get_bt

set_option maxHeartbeats 400000 in
theorem turnLeast_bad (w : World) (s : ByteArray) (hs : 24 < s.size) (hm : s.size ≤ maxLen) :
    Calls Tryd.prog 41 #[.string s] w fun e w' => e = .returned (.tuple #[.int .i64 0, errv 4]) ∧ Below w.heap.size w w' := by
  go_enter Tryd.func41, Tryd.ntmps41
  go_wp2_with (go_at_call 63; refine (long1_bad _ s hs hm _ _ (by simp)).mono ?_; rintro e w' ⟨rfl, rfl⟩)
  go_ret2
  exact ⟨rfl, (Below.refl _ _).alloc (Nat.le_refl _) _⟩

set_option maxHeartbeats 1000000 in
theorem turnLeast_ok (w : World) (s : ByteArray) (hs : s.size ≤ 24) (r : Nat) (hr : s.size = 0 ∧ r = 0 ∨ IsLeast (bt s) s.size r) :
    Calls Tryd.prog 41 #[.string s] w fun e w' => e = .returned (.tuple #[.int .i64 r, .nilIface]) ∧ Below w.heap.size w w' := by
  have Hr := hid hr
  clear hr
  go_enter Tryd.func41, Tryd.ntmps41
  go_wp2_with (go_at_call 63; refine (long1_ok _ s hs _ _ (by simp)).mono ?_; rintro e w' ⟨rfl, rfl⟩)
  have hb0 : Below w.heap.size w (w.alloc (.cells #[.string s] 9)) := (Below.refl _ _).alloc (Nat.le_refl _) _
  obtain ⟨w1, hw1⟩ : ∃ w1, w1 = w.alloc (.cells #[.string s] 9) := ⟨_, rfl⟩
  rw [← hw1] at hb0 ⊢
  clear hw1
  go_loopw [5, 6, 7] (fun i j k wr => ∃ a b c m : Nat, a ≤ 60 ∧ b ≤ 60 ∧ c ≤ 24 ∧ i = .int .i64 a ∧ j = .int .i64 b ∧ k = .int .i64 c ∧ wr = w1.drewN m ∧ Hid (s.size = 0 ∧ a = 0 ∧ b = 1 ∨ 0 < s.size ∧ Race (bt s) s.size a b c)) (fun i j k _ => 200 - (intOf i + intOf j + intOf k).toNat)
  case atStart => exact ⟨0, 1, 0, 0, by omega, by omega, by omega, rfl, rfl, rfl, rfl, hid (by
    rcases Nat.eq_zero_or_pos s.size with h | h
    · exact .inl ⟨h, rfl, rfl⟩
    · exact .inr ⟨h, race_start _ _⟩)⟩
  case round =>
    obtain ⟨a, b, c, m, ha, hb, hc, rfl, rfl, rfl, rfl, hR⟩ := hrel
    by_cases hgo : a < s.size ∧ b < s.size ∧ c < s.size
    · obtain ⟨h1, h2, h3⟩ := hgo
      have hrace : Race (bt s) s.size a b c := by
        rcases hR.out with h | h
        · omega
        · exact h.2
      have Hrace := hid hrace
      have hne := hrace.1
      clear hrace
      obtain ⟨P, hP, HP, hPn⟩ : ∃ P : Nat, (((a : Int) + c) % s.size) = P ∧ Hid (P = (a + c) % s.size) ∧ P < s.size := ⟨(a + c) % s.size, by simp, rfl, Nat.mod_lt _ (by omega)⟩
      obtain ⟨Q, hQ, HQ, hQn⟩ : ∃ Q : Nat, (((b : Int) + c) % s.size) = Q ∧ Hid (Q = (b + c) % s.size) ∧ Q < s.size := ⟨(b + c) % s.size, by simp, rfl, Nat.mod_lt _ (by omega)⟩
      have hP' : (P : Int) < s.size := by omega
      have hQ' : (Q : Int) < s.size := by omega
      have eP : rot (bt s) s.size a c = bt s P := by unfold rot; rw [HP.out]
      have eQ : rot (bt s) s.size b c = bt s Q := by unfold rot; rw [HQ.out]
      have HeP := hid eP
      have HeQ := hid eQ
      clear eP eQ
      rcases Nat.lt_trichotomy (bt s P) (bt s Q) with hcmp | hcmp | hcmp
      · have hj := race_jump (race_swap Hrace.out) h3 (by rw [HeP.out, HeQ.out]; exact hcmp)
        have hj1 := hid (fun h => race_swap (hj.1 h))
        have hj2 := hid hj.2
        clear hj
        go_wp2
        go_quiet (fail)
        go_wp2
        · have he : ((a : Int) == (b : Int) + ((c : Int) + 1)) = true := by assumption
          have he' : b + c + 1 = a := by simp at he; omega
          go_roundw
          case rel => exact ⟨a, b + c + 1 + 1, 0, _, ha, by omega, by omega, rfl, by congr 1 <;> omega, rfl, rfl, hid (.inr ⟨by omega, by have := hj2.out he'; rw [he'] at this ⊢; exact this⟩)⟩
          case measure => simp [intOf]; omega
        · have he : ((a : Int) == (b : Int) + ((c : Int) + 1)) = false := by assumption
          have he' : b + c + 1 ≠ a := by simp at he; omega
          go_roundw
          case rel => exact ⟨a, b + c + 1, 0, _, ha, by omega, by omega, rfl, by congr 1 <;> omega, rfl, rfl, hid (.inr ⟨by omega, hj1.out he'⟩)⟩
          case measure => simp [intOf]; omega
      · have hj := hid (race_same Hrace.out h3 (by rw [HeP.out, HeQ.out]; exact hcmp))
        have e1 : ((bt s P : Int) == bt s Q) = true := by simp [hcmp]
        have e2 : (bt s P == bt s Q) = true := by simp [hcmp]
        clear hcmp
        go_wp2
        go_quiet (fail)
        go_wp2
        go_roundw
        case rel => exact ⟨a, b, c + 1, _, ha, hb, by omega, rfl, rfl, by go_num, rfl, hid (.inr ⟨by omega, hj.out⟩)⟩
        case measure => simp [intOf]; omega
      · have hj := race_jump Hrace.out h3 (by rw [HeP.out, HeQ.out]; exact hcmp)
        have hj1 := hid hj.1
        have hj2 := hid hj.2
        clear hj
        go_wp2
        go_quiet (fail)
        go_wp2
        · have he : ((a : Int) + ((c : Int) + 1) == (b : Int)) = true := by assumption
          have he' : a + c + 1 = b := by simp at he; omega
          go_roundw
          case rel => exact ⟨a + c + 1, b + 1, 0, _, by omega, by omega, by omega, by congr 1 <;> omega, by go_num, rfl, rfl, hid (.inr ⟨by omega, hj2.out he'⟩)⟩
          case measure => simp [intOf]; omega
        · have he : ((a : Int) + ((c : Int) + 1) == (b : Int)) = false := by assumption
          have he' : a + c + 1 ≠ b := by simp at he; omega
          go_roundw
          case rel => exact ⟨a + c + 1, b, 0, _, by omega, hb, by omega, by congr 1 <;> omega, rfl, rfl, rfl, hid (.inr ⟨by omega, hj1.out he'⟩)⟩
          case measure => simp [intOf]; omega
    · have hmin : (r = a ∧ a < b) ∨ (r = b ∧ b < a) := by
        rcases hR.out with ⟨h1, h2, h3⟩ | ⟨h1, h2⟩
        · rcases Hr.out with ⟨_, h4⟩ | h4
          · left; omega
          · have := h4.1; omega
        · rcases Hr.out with ⟨h4, _⟩ | h4
          · omega
          · have hnb := race_not_both h1 h2
            rcases Nat.lt_or_ge a s.size with ha' | ha'
            · rcases Nat.lt_or_ge b s.size with hb' | hb'
              · have hcn : c = s.size := by have := h2.2.1; omega
                rw [hcn] at h2
                rcases Nat.lt_or_ge a b with h5 | h5
                · exact .inl ⟨least_unique h4 (race_end_same h2 h5 hb'), h5⟩
                · have h6 : b < a := by have := h2.1; omega
                  exact .inr ⟨least_unique h4 (race_end_same (race_swap h2) h6 ha'), h6⟩
              · exact .inl ⟨least_unique h4 (race_end_out (race_swap h2) hb' ha'), by omega⟩
            · exact .inr ⟨least_unique h4 (race_end_out h2 ha' (by omega)), by omega⟩
      have hexit : ¬ a < s.size ∨ (a < s.size ∧ ¬ b < s.size) ∨ (a < s.size ∧ b < s.size ∧ ¬ c < s.size) := by
        by_cases h1 : a < s.size
        · by_cases h2 : b < s.size
          · exact .inr (.inr ⟨h1, h2, fun h3 => hgo ⟨h1, h2, h3⟩⟩)
          · exact .inr (.inl ⟨h1, h2⟩)
        · exact .inl h1
      clear hgo
      rcases hmin with ⟨hra, hab⟩ | ⟨hra, hab⟩
      all_goals
        have Hra := hid hra
        clear hra
        rcases hexit with h1 | ⟨h1, h2⟩ | ⟨h1, h2, h3⟩
      all_goals
        go_wp2
        go_ret2
        exact ⟨by rw [Hra.out]; rfl, bch hb0 (below_dn (Below.refl _ _) m)⟩
end Go.Proofs.YtknecfgacnknlaaDoor
