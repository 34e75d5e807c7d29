/- letterbecklaw1.Names returns true: the constants and the errors' names of package api have the specified values. No condition. -/
import Derived.Test.YtocbkapoibddaaaBase
namespace Go.Proofs.Ytocbkapoibddaaa
open Go.RowKit

set_option maxHeartbeats 1000000 in
theorem walk_names (W : World) : Calls Try.prog 3 #[] W fun e w' => e = .returned (.bool true) ∧ Below W.heap.size W w' := by
  go_enter Try.func3, Try.ntmps3
  go_wp2
  go_loop [3] (fun i => ∃ k : Nat, k ≤ 8 ∧ i = .int .i64 k) (fun i => 8 - (intOf i).toNat)
  case atStart => exact ⟨0, Nat.zero_le _, rfl⟩
  case round =>
    obtain ⟨k, hk, rfl⟩ := hrel
    have h9 : k = 0 ∨ k = 1 ∨ k = 2 ∨ k = 3 ∨ k = 4 ∨ k = 5 ∨ k = 6 ∨ k = 7 ∨ k = 8 := by omega
    clear hk
    rcases h9 with rfl | rfl | rfl | rfl | rfl | rfl | rfl | rfl | rfl
    case inr.inr.inr.inr.inr.inr.inr.inr =>
      go_wp2
      go_ret
      exact ⟨rfl, (Below.refl _ _).alloc (Nat.le_refl _) _⟩
    all_goals
      go_wp2
      go_round
      case rel => exact ⟨_, by decide, rfl⟩
      case measure => simp [intOf]
end Go.Proofs.Ytocbkapoibddaaa
