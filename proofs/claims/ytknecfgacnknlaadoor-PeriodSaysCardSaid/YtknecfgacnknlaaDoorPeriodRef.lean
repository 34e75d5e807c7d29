/- letterbeckref1.Period: is a number a period of a text? -/
import Derived.Test.YtknecfgacnknlaaDoorIn
import Derived.Test.YtknecfgacnknlaaDoorPerPlain
import Derived.Test.YtknecfgacnknlaaDoorEdgesOf
namespace Go.Proofs.YtknecfgacnknlaaDoor
set_option linter.unusedVariables false
set_option linter.unusedSimpArgs false
open Go.RowKit

attribute [local go_sem] get_bt

set_option maxHeartbeats 400000 in
theorem inr_true (w : World) (n low high : Int) (h1 : low ≤ n) (h2 : n ≤ high) :
    Calls Tryd.prog 66 #[.int .i64 n, .int .i64 low, .int .i64 high] w fun e w' => e = .returned (.bool true) ∧ w = w' := by
  go_enter Tryd.func66, Tryd.ntmps66
  go_wp2
  go_ret
  exact ⟨rfl, rfl⟩

set_option maxHeartbeats 400000 in
theorem inr_false (w : World) (n low high : Int) (h : ¬ (low ≤ n ∧ n ≤ high)) :
    Calls Tryd.prog 66 #[.int .i64 n, .int .i64 low, .int .i64 high] w fun e w' => e = .returned (.bool false) ∧ w = w' := by
  by_cases h1 : low ≤ n
  · have h2 : decide (n ≤ high) = false := by simp; omega
    clear h
    go_enter Tryd.func66, Tryd.ntmps66
    go_wp2
    go_ret
    exact ⟨rfl, rfl⟩
  · clear h
    have h2 : decide (low ≤ n) = false := by simp; omega
    go_enter Tryd.func66, Tryd.ntmps66
    go_wp2
    go_ret
    exact ⟨rfl, rfl⟩

set_option maxHeartbeats 400000 in
theorem periodRef_in (w : World) (s : ByteArray) (k : Nat) (hs : s.size ≤ 1000) (h0 : 0 < k) (hk : k ≤ s.size) (b : Bool) (hb : Hid (b = true ↔ Per (bt s) s.size k)) :
    Calls Tryd.prog 23 #[.string s, .int .i64 k] w fun e w' => e = .returned (.bool b) ∧ ∃ m, w' = w.drewN m := by
  go_enter Tryd.func23, Tryd.ntmps23
  go_wp2_with fail
  refine (inr_true _ _ _ _ (by omega) (by omega)).mono ?_
  rintro e w' ⟨rfl, rfl⟩
  go_wp2_with fail
  go_loopw [5] (fun i wr => ∃ j m : Nat, k ≤ j ∧ j ≤ s.size ∧ i = .int .i64 j ∧ wr = w.drewN m ∧ Hid (∀ x, k ≤ x → x < j → bt s (x - k) = bt s x)) (fun i _ => s.size - (intOf i).toNat)
  case atStart => exact ⟨k, 0, Nat.le_refl _, hk, rfl, rfl, hid fun x h1 h2 => by omega⟩
  case round =>
    obtain ⟨j, m, hj1, hj2, rfl, rfl, hall⟩ := hrel
    by_cases hlt : j < s.size
    · obtain ⟨P, hP, hPn⟩ : ∃ P : Nat, (j : Int) - k = P ∧ P = j - k := ⟨j - k, by omega, rfl⟩
      have hPs : P < s.size := by omega
      have HP := hid hPn
      clear hPn
      by_cases he : bt s j = bt s P
      · have e1 : ((bt s j : Int) != bt s P) = false := by simp [he]
        have He := hid he
        clear he
        go_wp2
        go_quiet (fail)
        go_wp2
        go_roundw
        case rel =>
          refine ⟨j + 1, _, by omega, hlt, by go_num, rfl, hid fun x h1 h2 => ?_⟩
          by_cases e : x = j
          · rw [e, He.out, HP.out]
          · exact hall.out x h1 (by omega)
        case measure => simp [intOf]; omega
      · have e1 : ((bt s j : Int) != bt s P) = true := by simp; omega
        have hbf : b = false := by
          cases b
          · rfl
          · exfalso
            have := (hb.out.1 rfl).2 (j - k) (by omega)
            rw [show j - k + k = j from by omega, ← HP.out] at this
            exact he this.symm
        subst hbf
        clear he
        go_wp2
        go_quiet (fail)
        go_wp2
        go_ret
        exact ⟨rfl, m + nq, World.drewN_drewN _ _ _⟩
    · have hbt : b = true := by
        rw [hb.out]
        refine ⟨hk, fun x hx => ?_⟩
        have := hall.out (x + k) (by omega) (by omega)
        rwa [Nat.add_sub_cancel] at this
      subst hbt
      go_wp2
      go_ret
      exact ⟨rfl, _, rfl⟩

set_option maxHeartbeats 400000 in
theorem periodRef_out (w : World) (s : ByteArray) (k : Int) (hs : s.size ≤ 1000) (h : ¬ (1 ≤ k ∧ k ≤ s.size)) :
    Calls Tryd.prog 23 #[.string s, .int .i64 k] w fun e w' => e = .returned (.bool false) ∧ ∃ m, w' = w.drewN m := by
  have H := hid h
  clear h
  go_enter Tryd.func23, Tryd.ntmps23
  go_wp2_with fail
  refine (inr_false _ _ _ _ H.out).mono ?_
  rintro e w' ⟨rfl, rfl⟩
  go_wp2
  go_ret
  exact ⟨rfl, 0, rfl⟩
end Go.Proofs.YtknecfgacnknlaaDoor
