/- letterbeckref1.Before: is a text less than another one? -/
import Derived.Test.YtknecfgacnknlaaDoorBase
import Derived.Test.YtknecfgacnknlaaDoorLynPlain
namespace Go.Proofs.YtknecfgacnknlaaDoor
set_option linter.unusedVariables false
set_option linter.unusedSimpArgs false
open Go.RowKit

attribute [local go_sem] get_bt

set_option maxHeartbeats 400000 in
theorem before_any (w : World) (s t : ByteArray) (hs : s.size ≤ 1000) (ht : t.size ≤ 1000) (b : Bool) (hb : b = true ↔ Bef (bt s) s.size (bt t) t.size) :
    Calls Tryd.prog 69 #[.string s, .string t] w fun e w' => e = .returned (.bool b) ∧ ∃ m, w' = w.drewN m := by
  have Hb := hid hb
  clear hb
  go_enter Tryd.func69, Tryd.ntmps69
  go_wp2
  go_loopw [5] (fun i wr => ∃ k m : Nat, k ≤ s.size ∧ k ≤ t.size ∧ i = .int .i64 k ∧ wr = w.drewN m ∧ Hid (∀ j, j < k → bt s j = bt t j)) (fun i _ => s.size - (intOf i).toNat)
  case atStart => exact ⟨0, 0, Nat.zero_le _, Nat.zero_le _, rfl, rfl, hid fun j hj => by omega⟩
  case round =>
    obtain ⟨k, m, hk, hk', rfl, rfl, hsame⟩ := hrel
    by_cases h1 : k < s.size
    · by_cases h2 : k < t.size
      · have h1' : (k : Int) < s.size := by omega
        have h2' : (k : Int) < t.size := by omega
        by_cases he : bt s k = bt t k
        · have e1 : ((bt s k : Int) != bt t k) = false := by simp [he]
          have He := hid he
          clear he
          go_wp2
          go_quiet (fail)
          go_wp2
          go_roundw
          case rel =>
            refine ⟨k + 1, _, h1, h2, by go_num, rfl, hid fun j hj => ?_⟩
            by_cases e : j = k
            · rw [e]; exact He.out
            · exact hsame.out j (by omega)
          case measure => simp [intOf]; omega
        · have e1 : ((bt s k : Int) != bt t k) = true := by simp; omega
          have hfin : Hid (decide (bt s k < bt t k) = b) := by
            have hh : (bt s k < bt t k) ↔ b = true := by
              rw [Hb.out]
              constructor
              · intro h; exact .inl ⟨k, h1, h2, hsame.out, by omega⟩
              · rintro (⟨l, h3, h4, h5, h6⟩ | ⟨h3, h4⟩)
                · rcases Nat.lt_trichotomy l k with h | h | h
                  · have := hsame.out l h; omega
                  · subst h; omega
                  · have := h5 k h; omega
                · exact absurd (h4 k h1) he
            cases b
            · simp only [decide_eq_false_iff_not]
              exact fun h => absurd (hh.1 h) (by decide)
            · simp only [decide_eq_true_eq]; exact hh.2 rfl
          clear he
          go_wp2
          go_quiet (fail)
          go_wp2
          go_quiet (fail)
          go_wp2
          go_ret
          exact ⟨by rw [← hfin.out]; rfl, _, by rw [World.drewN_drewN, World.drewN_drewN]⟩
      · have h2' : decide ((k : Int) < t.size) = false := by simp; omega
        have hbf : b = false := by
          cases b
          · rfl
          · rcases Hb.out.1 rfl with ⟨l, h3, h4, h5, h6⟩ | ⟨h3, h4⟩
            · have := hsame.out l (by omega); omega
            · omega
        have hd : decide (s.size < t.size) = false := by simp; omega
        subst hbf
        go_wp2
        go_ret
        exact ⟨rfl, m, rfl⟩
    · have hks : k = s.size := by omega
      have hfin : Hid (decide (s.size < t.size) = b) := by
        have hh : (s.size < t.size) ↔ b = true := by
          rw [Hb.out]
          constructor
          · intro h; exact .inr ⟨by omega, by rw [← hks]; exact hsame.out⟩
          · rintro (⟨l, h3, h4, h5, h6⟩ | ⟨h3, h4⟩)
            · have := hsame.out l (by omega); omega
            · omega
        cases b
        · simp only [decide_eq_false_iff_not]
          exact fun h => absurd (hh.1 h) (by decide)
        · simp only [decide_eq_true_eq]; exact hh.2 rfl
      have Hks := hid hks
      clear hks
      go_wp2
      go_ret
      exact ⟨by rw [← hfin.out]; rfl, m, rfl⟩
end Go.Proofs.YtknecfgacnknlaaDoor
