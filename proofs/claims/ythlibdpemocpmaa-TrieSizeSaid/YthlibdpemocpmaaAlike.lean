/- letterbeckref1.Alike: how many bytes two texts begin with alike. -/
import Derived.Test.YthlibdpemocpmaaLong2
import Derived.Test.YthlibdpemocpmaaZetaPlain
namespace Go.Proofs.Ythlibdpemocpmaa
set_option linter.unusedVariables false
set_option linter.unusedSimpArgs false
open Go.RowKit

attribute [local go_sem] get_bt

/-- r is how long the longest common beginning is. -/
def Al (f g : Nat → Nat) (p q r : Nat) : Prop := r ≤ p ∧ r ≤ q ∧ (∀ j, j < r → f j = g j) ∧ ¬ (r < p ∧ r < q ∧ f r = g r)

set_option maxRecDepth 100000 in
set_option maxHeartbeats 1000000 in
theorem alike_any (w : World) (a b : ByteArray) (r : Nat) (ha : a.size ≤ 1000) (hb : b.size ≤ 1000) (h : Al (bt a) (bt b) a.size b.size r) :
    Calls Try.prog 15 #[.string a, .string b] w fun e w' => e = .returned (.int .i64 r) ∧ ∃ m, w' = w.drewN m := by
  obtain ⟨h1, h2, h3, h4⟩ := h
  have H3 := hid h3
  have H4 := hid h4
  clear h3 h4
  go_enter Try.func15, Try.ntmps15
  go_wp2_with fail
  go_loopw [5] (fun t wr => ∃ v m : Nat, v ≤ r ∧ t = .int .i64 v ∧ wr = w.drewN m) (fun t _ => r - (intOf t).toNat)
  case atStart => exact ⟨0, 0, Nat.zero_le _, rfl, rfl⟩
  case round =>
    obtain ⟨v, m, hv, rfl, rfl⟩ := hrel
    by_cases hlt : v < r
    · have e1 : ((bt a v : Int) == bt b v) = true := by rw [beq_iff_eq, H3.out v hlt]
      have l1 : v < a.size := by omega
      have l2 : v < b.size := by omega
      have l3 : (v : Int) < a.size := by omega
      have l4 : (v : Int) < b.size := by omega
      go_wp2
      go_quiet (fail)
      go_wp2
      go_roundw
      case rel => exact ⟨v + 1, _, by omega, by go_num, rfl⟩
      case measure => simp [intOf]; omega
    · have hvr : v = r := by omega
      have hcase : (v < a.size ∧ v < b.size ∧ ((bt a v : Int) == bt b v) = false) ∨ (v < a.size ∧ ¬ v < b.size) ∨ ¬ v < a.size := by
        by_cases c1 : v < a.size
        · by_cases c2 : v < b.size
          · refine .inl ⟨c1, c2, ?_⟩
            rw [beq_eq_false_iff_ne]
            intro e
            have e : bt a v = bt b v := by omega
            rw [hvr] at c1 c2 e
            exact H4.out ⟨c1, c2, e⟩
          · exact .inr (.inl ⟨c1, c2⟩)
        · exact .inr (.inr c1)
      clear hlt
      subst hvr
      rcases hcase with ⟨l1, l2, e1⟩ | ⟨l1, l2⟩ | l1
      · have l3 : (v : Int) < a.size := by omega
        have l4 : (v : Int) < b.size := by omega
        go_wp2
        go_quiet (fail)
        go_wp2
        go_ret
        exact ⟨rfl, _, World.drewN_drewN _ _ _⟩
      · have l3 : (v : Int) < a.size := by omega
        have l4 : decide ((v : Int) < b.size) = false := by simp; omega
        go_wp2
        go_quiet (fail)
        go_wp2
        go_ret
        exact ⟨rfl, _, World.drewN_drewN _ _ _⟩
      · have l3 : decide ((v : Int) < a.size) = false := by simp; omega
        go_wp2
        go_quiet (fail)
        go_wp2
        go_ret
        exact ⟨rfl, _, World.drewN_drewN _ _ _⟩
end Go.Proofs.Ythlibdpemocpmaa
