/- The helper 'in' of the law packages: low <= n <= high. -/
import Derived.Test.YthlibdpemocpmaaBase
namespace Go.Proofs.Ythlibdpemocpmaa
set_option linter.unusedVariables false
set_option linter.unusedSimpArgs false
open Go.RowKit

set_option maxHeartbeats 400000 in
theorem in_true (w : World) (n low high : Int) (h1 : low ≤ n) (h2 : n ≤ high) :
    Calls Try.prog 13 #[.int .i64 n, .int .i64 low, .int .i64 high] w fun e w' => e = .returned (.bool true) ∧ w = w' := by
  go_enter Try.func13, Try.ntmps13
  go_wp2
  go_ret
  exact ⟨rfl, rfl⟩

set_option maxHeartbeats 400000 in
theorem in_false (w : World) (n low high : Int) (h : ¬ (low ≤ n ∧ n ≤ high)) :
    Calls Try.prog 13 #[.int .i64 n, .int .i64 low, .int .i64 high] w fun e w' => e = .returned (.bool false) ∧ w = w' := by
  by_cases h1 : low ≤ n
  · have h2 : decide (n ≤ high) = false := by simp; omega
    clear h
    go_enter Try.func13, Try.ntmps13
    go_wp2
    go_ret
    exact ⟨rfl, rfl⟩
  · clear h
    have h2 : decide (low ≤ n) = false := by simp; omega
    go_enter Try.func13, Try.ntmps13
    go_wp2
    go_ret
    exact ⟨rfl, rfl⟩

theorem in_in (w : World) (q : Nat) (n low high : Int) (h1 : low ≤ n) (h2 : n ≤ high) :
    Calls Try.prog 13 #[.int .i64 n, .int .i64 low, .int .i64 high] (w.drewN q) fun e w' => e = .returned (.bool true) ∧ ∃ m, w' = w.drewN m :=
  (in_true (w.drewN q) n low high h1 h2).mono fun _ _ ⟨h, h'⟩ => ⟨h, q, h'.symm⟩

theorem Own.cap {w : World} {base n c : Nat} {A : Option Addr} {l : List Int} (h : Own w base (.slice A n c) l) : n ≤ c ∧ c ≤ 9223372036854775807 := by
  rcases h.2 with ⟨e, h0⟩ | ⟨g, cap, cur, hv, hg, hh, h1, h2, r⟩
  · injection e with e1 e2 e3
    subst e2 e3
    exact ⟨Nat.le_refl _, by decide⟩
  · injection hv with e1 e2 e3
    subst e3
    rw [e2]
    exact ⟨h1, h2⟩
end Go.Proofs.Ythlibdpemocpmaa
