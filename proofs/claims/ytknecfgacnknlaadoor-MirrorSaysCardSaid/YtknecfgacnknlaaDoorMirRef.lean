/- letterbeckref1.Mirror: does a text read the same from both ends? -/
import Derived.Test.YtknecfgacnknlaaDoorBase
import Derived.Test.YtknecfgacnknlaaDoorMirLPlain
namespace Go.Proofs.YtknecfgacnknlaaDoor
set_option linter.unusedVariables false
set_option linter.unusedSimpArgs false
open Go.RowKit

attribute [local go_sem] get_bt

/-- Does the text read the same from both ends? -/
def isMir (s : ByteArray) : Bool := decide (∀ j, j < s.size → bt s j = bt s (s.size - 1 - j))

theorem isMir_true {s : ByteArray} : isMir s = true ↔ ∀ j, j < s.size → bt s j = bt s (s.size - 1 - j) := by simp [isMir]

set_option maxHeartbeats 400000 in
theorem mirror_any (w : World) (s : ByteArray) (hs : s.size ≤ 1000) :
    Calls Tryd.prog 72 #[.string s] w fun e w' => ∃ m, e = .returned (.bool (isMir s)) ∧ w' = w.drewN m := by
  obtain ⟨b, hb, Hb⟩ : ∃ b, isMir s = b ∧ Hid (isMir s = b) := ⟨_, rfl, rfl⟩
  rw [hb]
  clear hb
  go_enter Tryd.func72, Tryd.ntmps72
  go_wp2
  go_loopw [3] (fun i wr => ∃ k m : Nat, k ≤ s.size ∧ i = .int .i64 k ∧ wr = w.drewN m ∧ Hid (∀ j, j < k → bt s j = bt s (s.size - 1 - j))) (fun i _ => s.size - (intOf i).toNat)
  case atStart => exact ⟨0, 0, Nat.zero_le _, rfl, rfl, hid fun j hj => by omega⟩
  case round =>
    obtain ⟨k, m, hk, rfl, rfl, hK⟩ := hrel
    by_cases hlt : k < s.size
    · obtain ⟨P, hP, hPn, hPl⟩ : ∃ P : Nat, (s.size : Int) - 1 - k = P ∧ Hid (P = s.size - 1 - k) ∧ P < s.size := ⟨s.size - 1 - k, by omega, rfl, by omega⟩
      by_cases he : bt s k = bt s P
      · have hnx : Hid (∀ j, j < k + 1 → bt s j = bt s (s.size - 1 - j)) := hid fun j hj => by
          by_cases h : j = k
          · rw [h, ← hPn.out]; exact he
          · exact hK.out j (by omega)
        have h1 : ((bt s k : Int) == bt s P) = true := by rw [beq_iff_eq, he]
        clear he
        go_wp2
        go_quiet (fail)
        go_wp2
        go_roundw
        case rel => exact ⟨k + 1, _, by omega, by go_num, rfl, hnx⟩
        case measure => simp [intOf]; omega
      · have hbf : b = false := by
          have hn : ¬ isMir s = true := fun h => he (by rw [hPn.out]; exact isMir_true.1 h k hlt)
          have := Hb.out
          cases b
          · rfl
          · exact absurd this hn
        have h1 : ((bt s k : Int) == bt s P) = false := by rw [beq_eq_false_iff_ne]; omega
        subst hbf
        clear he
        go_wp2
        go_quiet (fail)
        go_wp2
        go_ret
        exact ⟨_, rfl, World.drewN_drewN _ _ _⟩
    · have hbt : b = true := by rw [← Hb.out]; exact isMir_true.2 fun j hj => hK.out j (by omega)
      subst hbt
      go_wp2
      go_ret
      exact ⟨_, rfl, rfl⟩

theorem isMir_sub {s : ByteArray} {a b : Nat} (hab : a ≤ b) (hb : b ≤ s.size) : isMir (s.extract a b) = true ↔ IsPal (bt s) a (b - a) := by
  have hsz : (s.extract a b).size = b - a := by simp; omega
  rw [isMir_true, hsz]
  unfold IsPal
  constructor
  · intro h j hj
    have := h j hj
    rw [bt_extract _ _ _ _ (by omega), bt_extract _ _ _ _ (by omega)] at this
    exact this
  · intro h j hj
    rw [bt_extract _ _ _ _ (by omega), bt_extract _ _ _ _ (by omega)]
    exact h j hj
end Go.Proofs.YtknecfgacnknlaaDoor
