/- turn.Root: the length of the shortest text of which this one is several; letterbeckref1.Turn. -/
import Derived.Test.YtknecfgacnknlaaDoorEdgesOf
import Derived.Test.YtknecfgacnknlaaDoorStrs
namespace Go.Proofs.YtknecfgacnknlaaDoor
set_option linter.unusedVariables false
set_option linter.unusedSimpArgs false
open Go.RowKit

set_option maxHeartbeats 400000 in
theorem turnRoot_bad (w : World) (s : ByteArray) (hs : 24 < s.size) (hm : s.size ≤ maxLen) :
    Calls Tryd.prog 42 #[.string s] w fun e w' => e = .returned (.tuple #[.int .i64 0, errv 4]) ∧ Below w.heap.size w w' := by
  go_enter Tryd.func42, Tryd.ntmps42
  go_wp2_with fail
  refine (edgesOf_bad _ s hs hm).mono ?_
  rintro e w' ⟨rfl, hb⟩
  go_wp2
  go_ret2
  exact ⟨rfl, hb⟩

set_option maxHeartbeats 400000 in
theorem turnRoot_none (w : World) (s : ByteArray) (hs : s.size = 0) :
    Calls Tryd.prog 42 #[.string s] w fun e w' => e = .returned (.tuple #[.int .i64 0, .nilIface]) ∧ Below w.heap.size w w' := by
  have hemp := emp_true hs
  go_enter Tryd.func42, Tryd.ntmps42
  go_wp2_with fail
  refine (edgesOf_ok w s (by omega)).mono ?_
  rintro e w1 ⟨A, c, rfl, ho1, hb1⟩
  go_wp2
  go_ret2
  exact ⟨rfl, hb1⟩

set_option maxHeartbeats 400000 in
theorem turnRoot_ok (w : World) (s : ByteArray) (hs : s.size ≤ 24) (hpos : 0 < s.size) :
    Calls Tryd.prog 42 #[.string s] w fun e w' => e = .returned (.tuple #[.int .i64 (rootOf (bt s) s.size), .nilIface]) ∧ Below w.heap.size w w' := by
  have hemp := emp_false hpos
  have hfl := fail_lt (f := bt s) hpos
  go_enter Tryd.func42, Tryd.ntmps42
  go_wp2_with fail
  refine (edgesOf_ok w s hs).mono ?_
  rintro e w1 ⟨A, c, rfl, ho1, hb1⟩
  have hsl := ho1.sl
  obtain ⟨g, o, hA, hg, hc⟩ := hsl (ints_ne (by rw [edgesOf_len]; omega))
  subst hA
  have q1 := hc _ _ (ints_get' (edgesOf_get (bt s) s.size s.size hpos (Nat.le_refl _)))
  clear hc
  by_cases hr : s.size % (s.size - fail (bt s) s.size) = 0
  · have hro : rootOf (bt s) s.size = s.size - fail (bt s) s.size := by unfold rootOf; rw [if_neg (by omega), if_pos hr]
    have Hro := hid hro
    have ec : ((s.size : Int) - (fail (bt s) s.size : Int)) = ((s.size - fail (bt s) s.size : Nat) : Int) := by omega
    have e1 : (((s.size : Int) % ((s.size : Int) - fail (bt s) s.size)) != 0) = false := by
      rw [ec, ← Int.natCast_emod, hr]; rfl
    have Ec := hid ec
    clear hro hr ec
    go_wp2
    go_ret2
    exact ⟨by rw [Hro.out, ← Ec.out]; rfl, hb1⟩
  · have hro : rootOf (bt s) s.size = s.size := by unfold rootOf; rw [if_neg (by omega), if_neg hr]
    have Hro := hid hro
    have ec : ((s.size : Int) - (fail (bt s) s.size : Int)) = ((s.size - fail (bt s) s.size : Nat) : Int) := by omega
    have e1 : (((s.size : Int) % ((s.size : Int) - fail (bt s) s.size)) != 0) = true := by
      rw [ec, ← Int.natCast_emod]; simp; omega
    clear hro hr ec
    go_wp2
    go_ret2
    exact ⟨by rw [Hro.out]; rfl, hb1⟩

set_option maxHeartbeats 400000 in
theorem turn_any (w : World) (s : ByteArray) (k : Nat) (hk : k ≤ s.size) (hs : s.size ≤ 24) :
    Calls Tryd.prog 70 #[.string s, .int .i64 k] w fun e w' => e = .returned (.string (s.extract k s.size ++ s.extract 0 k)) ∧ Below w.heap.size w w' := by
  go_enter Tryd.func70, Tryd.ntmps70
  go_wp2
  go_quiet (fail)
  go_wp2
  go_ret
  exact ⟨rfl, below_drewN _ _⟩
end Go.Proofs.YtknecfgacnknlaaDoor
