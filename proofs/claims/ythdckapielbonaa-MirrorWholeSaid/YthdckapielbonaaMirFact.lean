/- letterbecklaw1.mirrorFact returns true; letterbeckref1.Mirror. -/
import Derived.Test.YthdckapielbonaaMirLongest
import Derived.Test.YthdckapielbonaaIntsLit
namespace Go.Proofs.Ythdckapielbonaa
set_option linter.unusedVariables false
set_option linter.unusedSimpArgs false
open Go.RowKit

theorem odd_at (w : World) (s : ByteArray) (hs : s.size ≤ 24) (l : List Int) (h : mAll (bt s) s.size 0 = l) :
    Calls Try.prog 10 #[.string s] w (RetInts w l) := h ▸ odd_ok w s hs

theorem even_at (w : World) (s : ByteArray) (hs : s.size ≤ 24) (l : List Int) (h : mAll (bt s) s.size 1 = l) :
    Calls Try.prog 12 #[.string s] w (RetInts w l) := h ▸ even_ok w s hs

theorem longest_at (w : World) (s : ByteArray) (hs : s.size ≤ 24) (a b : Int) (h : (mAt (bt s) s.size : Int) = a) (h' : (mLong (bt s) s.size : Int) = b) :
    Calls Try.prog 15 #[.string s] w fun e w' => e = .returned (.tuple #[.int .i64 a, .int .i64 b, .nilIface]) ∧ Below w.heap.size w w' := by
  subst h h'; exact longest_ok w s hs

set_option maxHeartbeats 400000 in
theorem mirrorFact_true (w : World) : Calls Try.prog 9 #[] w fun e w' => e = .returned (.bool true) ∧ Below w.heap.size w w' := by
  go_enter Try.func9, Try.ntmps9
  go_wp2_with fail
  refine (odd_at _ ⟨#[97, 98, 97]⟩ (by decide) [1, 2, 1] (by decide)).mono ?_
  rintro e w1 ⟨A, c, rfl, ho, hb⟩
  go_wp2_with fail
  refine (even_at _ ⟨#[97, 98, 98, 97]⟩ (by decide) [0, 0, 2, 0] (by decide)).mono ?_
  rintro e w2 ⟨A2, c2, rfl, ho2, hb2⟩
  go_wp2_with fail
  refine (longest_at _ ⟨#[120, 97, 98, 98, 97, 121]⟩ (by decide) 1 4 (by decide) (by decide)).mono ?_
  rintro e w2' ⟨rfl, hb2'⟩
  go_wp2_with fail
  refine (ints_lit _ A c _ _ _ [1, 2, 1] [1, 2, 1] ((ho.below hb2).below hb2') rfl rfl (by decide) (by decide) true (by decide)).mono ?_
  rintro e w3 ⟨rfl, hb3⟩
  go_wp2_with fail
  refine (ints_lit _ A2 c2 _ _ _ [0, 0, 2, 0] [0, 0, 2, 0] ((ho2.below hb2').below hb3) rfl rfl (by decide) (by decide) true (by decide)).mono ?_
  rintro e w4 ⟨rfl, hb4⟩
  go_wp2
  go_ret
  exact ⟨rfl, bch (bch (bch (bch hb hb2) hb2') hb3) hb4⟩

attribute [local go_sem] get_bt

/-- Does the text read the same from both ends? -/
def isMir (s : ByteArray) : Bool := decide (∀ j, j < s.size → bt s j = bt s (s.size - 1 - j))

theorem isMir_true {s : ByteArray} : isMir s = true ↔ ∀ j, j < s.size → bt s j = bt s (s.size - 1 - j) := by simp [isMir]

set_option maxHeartbeats 400000 in
theorem mirror_any (w : World) (s : ByteArray) (hs : s.size ≤ 1000) :
    Calls Try.prog 17 #[.string s] w fun e w' => ∃ m, e = .returned (.bool (isMir s)) ∧ w' = w.drewN m := by
  obtain ⟨b, hb, Hb⟩ : ∃ b, isMir s = b ∧ Hid (isMir s = b) := ⟨_, rfl, rfl⟩
  rw [hb]
  clear hb
  go_enter Try.func17, Try.ntmps17
  go_wp2
  go_loopw [3] (fun i wr => ∃ k m : Nat, k ≤ s.size ∧ i = .int .i64 k ∧ wr = w.drewN m ∧ Hid (∀ j, j < k → bt s j = bt s (s.size - 1 - j))) (fun i _ => s.size - (intOf i).toNat)
  case atStart => exact ⟨0, 0, Nat.zero_le _, rfl, rfl, hid fun j hj => by omega⟩
  case round =>
    obtain ⟨k, m, hk, rfl, rfl, hK⟩ := hrel
    by_cases hlt : k < s.size
    · obtain ⟨P, hP, hPn, hPl⟩ : ∃ P : Nat, (s.size : Int) - 1 - k = P ∧ Hid (P = s.size - 1 - k) ∧ P < s.size := ⟨s.size - 1 - k, by omega, rfl, by omega⟩
      by_cases he : bt s k = bt s P
      · have hnx : Hid (∀ j, j < k + 1 → bt s j = bt s (s.size - 1 - j)) := hid fun j hj => by
          by_cases h : j = k
          · rw [h, ← hPn.out]; exact he
          · exact hK.out j (by omega)
        have h1 : ((bt s k : Int) == bt s P) = true := by rw [beq_iff_eq, he]
        clear he
        go_wp2
        go_quiet (fail)
        go_wp2
        go_roundw
        case rel => exact ⟨k + 1, _, by omega, by go_num, rfl, hnx⟩
        case measure => simp [intOf]; omega
      · have hbf : b = false := by
          have hn : ¬ isMir s = true := fun h => he (by rw [hPn.out]; exact isMir_true.1 h k hlt)
          have := Hb.out
          cases b
          · rfl
          · exact absurd this hn
        have h1 : ((bt s k : Int) == bt s P) = false := by rw [beq_eq_false_iff_ne]; omega
        subst hbf
        clear he
        go_wp2
        go_quiet (fail)
        go_wp2
        go_ret
        exact ⟨_, rfl, World.drewN_drewN _ _ _⟩
    · have hbt : b = true := by rw [← Hb.out]; exact isMir_true.2 fun j hj => hK.out j (by omega)
      subst hbt
      go_wp2
      go_ret
      exact ⟨_, rfl, rfl⟩
end Go.Proofs.Ythdckapielbonaa
