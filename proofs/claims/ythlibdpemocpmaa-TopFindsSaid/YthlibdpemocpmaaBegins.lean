/- letterbeckref1.Begins: does a text begin with another one? -/
import Derived.Test.YthlibdpemocpmaaStrs
import Derived.Test.YthlibdpemocpmaaLong2
import Derived.Test.YthlibdpemocpmaaFindPlain
namespace Go.Proofs.Ythlibdpemocpmaa
set_option linter.unusedVariables false
set_option linter.unusedSimpArgs false
open Go.RowKit

/-- The text t, of n bytes, begins the text s, of m bytes. -/
def Beg (g : Nat → Nat) (n : Nat) (f : Nat → Nat) (m : Nat) : Prop := n ≤ m ∧ ∀ j, j < n → g j = f j

theorem beg_extract {s t : ByteArray} (h : t.size ≤ s.size) : Beg (bt t) t.size (bt s) s.size ↔ s.extract 0 t.size = t := by
  have hz : (s.extract 0 t.size).size = t.size := by simp; omega
  constructor
  · rintro ⟨_, h2⟩
    exact ext_bt hz fun j hj => by rw [bt_extract _ _ _ _ (by omega), Nat.zero_add]; exact (h2 j (by omega)).symm
  · intro e
    refine ⟨h, fun j hj => ?_⟩
    have := bt_extract s 0 t.size j (by omega)
    rw [e, Nat.zero_add] at this
    exact this

set_option maxHeartbeats 400000 in
theorem begins_any (w : World) (s t : ByteArray) (hs : s.size ≤ maxLen) (ht : t.size ≤ maxLen) (b : Bool) (hb : b = true ↔ Beg (bt t) t.size (bt s) s.size) :
    Calls Try.prog 17 #[.string s, .string t] w fun e w' => e = .returned (.bool b) ∧ w = w' := by
  unfold maxLen at hs ht
  by_cases hle : t.size ≤ s.size
  · have hle' : (t.size : Int) ≤ s.size := by omega
    rw [beg_extract hle] at hb
    cases b
    · have e1 := eq_false' (a := s.extract 0 t.size) (b := t) (fun h => by have := hb.2 h; cases this)
      clear hb
      go_enter Try.func17, Try.ntmps17
      go_wp2
      go_ret
      exact ⟨rfl, rfl⟩
    · have e1 := eq_true' (hb.1 rfl)
      clear hb
      go_enter Try.func17, Try.ntmps17
      go_wp2
      go_ret
      exact ⟨rfl, rfl⟩
  · have hf : b = false := by
      cases b
      · rfl
      · exact absurd (hb.1 rfl).1 hle
    have hle' : decide ((t.size : Int) ≤ s.size) = false := by simp; omega
    subst hf
    clear hb
    go_enter Try.func17, Try.ntmps17
    go_wp2
    go_ret
    exact ⟨rfl, rfl⟩

/-- .. at an end of the text. -/
theorem begins_at (w : World) (t s : ByteArray) (i : Nat) (hi : i ≤ t.size) (ht : t.size ≤ maxLen) (hs : s.size ≤ maxLen) (b : Bool) (hb : b = true ↔ At (bt s) s.size (bt t) t.size i) :
    Calls Try.prog 17 #[.string (t.extract i t.size), .string s] w fun e w' => e = .returned (.bool b) ∧ w = w' := by
  have hz : (t.extract i t.size).size = t.size - i := by simp
  refine begins_any w _ s (by omega) hs b (hb.trans ?_)
  unfold At Beg
  rw [hz]
  constructor
  · rintro ⟨h1, h2⟩
    exact ⟨by omega, fun j hj => by rw [bt_extract _ _ _ _ (by omega)]; exact h2 j hj⟩
  · rintro ⟨h1, h2⟩
    exact ⟨by omega, fun j hj => by rw [← bt_extract t i t.size j (by omega)]; exact h2 j hj⟩
end Go.Proofs.Ythlibdpemocpmaa
