/- mirror.Odd and mirror.Even. -/
import Derived.Test.YthdckapielbonaaEdgesOf
import Derived.Test.YthdckapielbonaaMirGrow
namespace Go.Proofs.Ythdckapielbonaa
set_option linter.unusedVariables false
set_option linter.unusedSimpArgs false
open Go.RowKit

theorem grow_ret {w w1 : World} {s : ByteArray} {e : Nat} (w0 : World) (h0 : Below w0.heap.size w0 w) {r : Ending} (h : ∃ A c, r = .returned (.slice A s.size c) ∧ Own w1 w.heap.size (.slice A s.size c) (mAll (bt s) s.size e) ∧ Below w.heap.size w w1) :
    ∃ A c, r = .returned (.slice A s.size c) ∧ RetInts w0 (mAll (bt s) s.size e) (.returned (.tuple #[.slice A s.size c, .nilIface])) w1 := by
  obtain ⟨A, c, h1, h2, h3⟩ := h
  refine ⟨A, c, h1, A, c, ?_, ?_, bch h0 h3⟩
  · rw [mAll_len]
  · rw [mAll_len]; exact h2.mono h0.size

theorem odd_ok (w : World) (s : ByteArray) (hs : s.size ≤ 24) : Calls Try.prog 10 #[.string s] w (RetInts w (mAll (bt s) s.size 0)) := by
  go_enter Try.func10, Try.ntmps10
  go_wp2_with (first
    | (go_at_call 25; refine (long1_ok _ s hs _ _ (by simp)).mono ?_; rintro e w' ⟨rfl, rfl⟩)
    | (go_at_call 26; refine (grow_i _ s _ (.inl rfl) hs).mono ?_; intro e w' h; obtain ⟨A, c, rfl, hr⟩ := grow_ret w ((Below.refl _ _).alloc (Nat.le_refl _) _) h))
  go_ret2
  exact hr

theorem even_ok (w : World) (s : ByteArray) (hs : s.size ≤ 24) : Calls Try.prog 12 #[.string s] w (RetInts w (mAll (bt s) s.size 1)) := by
  go_enter Try.func12, Try.ntmps12
  go_wp2_with (first
    | (go_at_call 25; refine (long1_ok _ s hs _ _ (by simp)).mono ?_; rintro e w' ⟨rfl, rfl⟩)
    | (go_at_call 26; refine (grow_i _ s _ (.inr rfl) hs).mono ?_; intro e w' h; obtain ⟨A, c, rfl, hr⟩ := grow_ret w ((Below.refl _ _).alloc (Nat.le_refl _) _) h))
  go_ret2
  exact hr

theorem odd_bad (w : World) (s : ByteArray) (hs : 24 < s.size) (hm : s.size ≤ maxLen) :
    Calls Try.prog 10 #[.string s] w fun e w' => e = .returned (.tuple #[.slice none 0 0, errv 4]) ∧ Below w.heap.size w w' := by
  go_enter Try.func10, Try.ntmps10
  go_wp2_with (go_at_call 25; refine (long1_bad _ s hs hm _ _ (by simp)).mono ?_; rintro e w' ⟨rfl, rfl⟩)
  go_ret2
  exact ⟨rfl, (Below.refl _ _).alloc (Nat.le_refl _) _⟩

theorem even_bad (w : World) (s : ByteArray) (hs : 24 < s.size) (hm : s.size ≤ maxLen) :
    Calls Try.prog 12 #[.string s] w fun e w' => e = .returned (.tuple #[.slice none 0 0, errv 4]) ∧ Below w.heap.size w w' := by
  go_enter Try.func12, Try.ntmps12
  go_wp2_with (go_at_call 25; refine (long1_bad _ s hs hm _ _ (by simp)).mono ?_; rintro e w' ⟨rfl, rfl⟩)
  go_ret2
  exact ⟨rfl, (Below.refl _ _).alloc (Nat.le_refl _) _⟩
end Go.Proofs.Ythdckapielbonaa
