/- letterbecklaw1.TurnSays returns true at all texts: the walk. -/
import Derived.Test.YtknecfgacnknlaaDoorTurnSRefs
namespace Go.Proofs.YtknecfgacnknlaaDoor
set_option linter.unusedVariables false
set_option linter.unusedSimpArgs false
open Go.RowKit

theorem least_any (s : ByteArray) : ∃ r, s.size = 0 ∧ r = 0 ∨ IsLeast (bt s) s.size r := by
  rcases Nat.eq_zero_or_pos s.size with h | h
  · exact ⟨0, .inl ⟨h, rfl⟩⟩
  · obtain ⟨r, hr⟩ := least_exists (bt s) s.size h
    exact ⟨r, .inr hr⟩

set_option maxRecDepth 100000 in
set_option maxHeartbeats 1000000 in
theorem walk_turnSays (a0 : ByteArray) (w0 : a0.size ≤ maxLen) (a1 : ByteArray) (w1 : a1.size ≤ maxLen) (W : World) (hET : HasET W) (hM : HasMax W) :
    Calls Tryd.prog 9 #[.string a0, .string a1] W fun e w' => e = .returned (.bool true) ∧ Below W.heap.size W w' := by
  have HT := hid (fun w (h : Below W.heap.size W w) => hET.below h)
  have HM := hid (fun w (h : Below W.heap.size W w) => hM.below h)
  clear hET hM
  by_cases hs : a0.size ≤ 24
  · obtain ⟨r, hr⟩ := least_any a0
    have Hl := hid (fun w => leastRef_any w a0 hs r hr)
    have Hlt := hid (fun w => turnLeast_ok w a0 hs r hr)
    have Hro := hid (fun w => rootRef_any w a0 hs _ rfl)
    have Hrt := hid (fun w => rootOf_z w a0 hs)
    clear hr
    generalize rootOf (bt a0) a0.size = k at *
    have hrr : ((r : Int) == r) = true := by simp
    have hkk : ((k : Int) == k) = true := by simp
    by_cases ht : a1.size ≤ 24
    · obtain ⟨x, hx⟩ : ∃ x : Bool, x = true ↔ ∃ i, i ≤ a0.size ∧ a1 = turnB a0 i := by
        rcases Classical.em (∃ i, i ≤ a0.size ∧ a1 = turnB a0 i) with h | h
        · exact ⟨true, fun _ => h, fun _ => rfl⟩
        · exact ⟨false, fun h => absurd h (by decide), fun h2 => absurd h2 h⟩
      have Hs := hid (fun w hM => same_ok w a0 a1 hs ht hM x hx)
      have Hsr := hid (fun w => sameRef_any w a0 a1 hs x hx)
      have hxx : (x == x) = true := by simp
      clear hx
      go_enter Tryd.func9, Tryd.ntmps9
      go_wp2_with fail
      refine (lawLong_ok _ a0 hs).mono ?_
      rintro e v1 ⟨rfl, rfl⟩
      go_wp2_with fail
      refine (Hl.out _).mono ?_
      rintro e v1 ⟨rfl, m1, rfl⟩
      go_wp2_with fail
      refine (Hro.out _).mono ?_
      rintro e v1 ⟨rfl, m2, rfl⟩
      have hB2 : Below W.heap.size W (W.drewN (m1 + m2)) := below_drewN W _
      go_wp2_with fail
      refine (Hlt.out _).mono ?_
      rintro e w3 ⟨rfl, hb3⟩
      have hB3 : Below W.heap.size W w3 := bch hB2 hb3
      go_wp2_with fail
      refine (error_ok _ _ 0 (HT.out _ hB3) (.inl ⟨rfl, rfl⟩)).mono ?_
      rintro e w4 ⟨rfl, hb4⟩
      have hB4 := bch hB3 hb4
      go_wp2_with fail
      refine (Hrt.out _).mono ?_
      rintro e w5 ⟨rfl, hb5⟩
      have hB5 := bch hB4 hb5
      go_wp2_with fail
      refine (error_ok _ _ 0 (HT.out _ hB5) (.inl ⟨rfl, rfl⟩)).mono ?_
      rintro e w6 ⟨rfl, hb6⟩
      have hB6 := bch hB5 hb6
      go_wp2_with fail
      refine (lawLong_ok _ a1 ht).mono ?_
      rintro e w7 ⟨rfl, rfl⟩
      go_wp2_with fail
      refine (Hs.out _ (HM.out _ hB6)).mono ?_
      rintro e w8 ⟨rfl, hb8⟩
      have hB8 := bch hB6 hb8
      go_wp2_with fail
      refine (error_ok _ _ 0 (HT.out _ hB8) (.inl ⟨rfl, rfl⟩)).mono ?_
      rintro e w9 ⟨rfl, hb9⟩
      have hB9 := bch hB8 hb9
      go_wp2_with fail
      refine (Hsr.out _).mono ?_
      rintro e w10 ⟨rfl, m10, rfl⟩
      go_wp2_with fail
      go_ret
      exact ⟨rfl, below_dn hB9 _⟩
    · have Hs := hid (fun w => same_bad w a0 a1 (.inr (by omega)) w0 w1)
      go_enter Tryd.func9, Tryd.ntmps9
      go_wp2_with fail
      refine (lawLong_ok _ a0 hs).mono ?_
      rintro e v1 ⟨rfl, rfl⟩
      go_wp2_with fail
      refine (Hl.out _).mono ?_
      rintro e v1 ⟨rfl, m1, rfl⟩
      go_wp2_with fail
      refine (Hro.out _).mono ?_
      rintro e v1 ⟨rfl, m2, rfl⟩
      have hB2 : Below W.heap.size W (W.drewN (m1 + m2)) := below_drewN W _
      go_wp2_with fail
      refine (Hlt.out _).mono ?_
      rintro e w3 ⟨rfl, hb3⟩
      have hB3 : Below W.heap.size W w3 := bch hB2 hb3
      go_wp2_with fail
      refine (error_ok _ _ 0 (HT.out _ hB3) (.inl ⟨rfl, rfl⟩)).mono ?_
      rintro e w4 ⟨rfl, hb4⟩
      have hB4 := bch hB3 hb4
      go_wp2_with fail
      refine (Hrt.out _).mono ?_
      rintro e w5 ⟨rfl, hb5⟩
      have hB5 := bch hB4 hb5
      go_wp2_with fail
      refine (error_ok _ _ 0 (HT.out _ hB5) (.inl ⟨rfl, rfl⟩)).mono ?_
      rintro e w6 ⟨rfl, hb6⟩
      have hB6 := bch hB5 hb6
      go_wp2_with fail
      refine (lawLong_bad _ a1 (by omega)).mono ?_
      rintro e w7 ⟨rfl, rfl⟩
      go_wp2_with fail
      refine (Hs.out _).mono ?_
      rintro e w8 ⟨rfl, hb8⟩
      have hB8 := bch hB6 hb8
      go_wp2_with fail
      refine (error_ok _ _ 4 (HT.out _ hB8) (.inr rfl)).mono ?_
      rintro e w9 ⟨rfl, hb9⟩
      have hB9 := bch hB8 hb9
      go_wp2_with fail
      go_ret
      exact ⟨rfl, hB9⟩
  · have Hs := hid (fun w => same_bad w a0 a1 (.inl (by omega)) w0 w1)
    have Hlt := hid (fun w => turnLeast_bad w a0 (by omega) w0)
    have Hrt := hid (fun w => turnRoot_bad w a0 (by omega) w0)
    go_enter Tryd.func9, Tryd.ntmps9
    go_wp2_with fail
    refine (lawLong_bad _ a0 (by omega)).mono ?_
    rintro e v1 ⟨rfl, rfl⟩
    go_wp2_with fail
    refine (Hlt.out _).mono ?_
    rintro e w3 ⟨rfl, hB3⟩
    go_wp2_with fail
    refine (error_ok _ _ 4 (HT.out _ hB3) (.inr rfl)).mono ?_
    rintro e w4 ⟨rfl, hb4⟩
    have hB4 := bch hB3 hb4
    go_wp2_with fail
    refine (Hrt.out _).mono ?_
    rintro e w5 ⟨rfl, hb5⟩
    have hB5 := bch hB4 hb5
    go_wp2_with fail
    refine (error_ok _ _ 4 (HT.out _ hB5) (.inr rfl)).mono ?_
    rintro e w6 ⟨rfl, hb6⟩
    have hB6 := bch hB5 hb6
    go_wp2_with fail
    refine (Hs.out _).mono ?_
    rintro e w8 ⟨rfl, hb8⟩
    have hB8 := bch hB6 hb8
    go_wp2_with fail
    refine (error_ok _ _ 4 (HT.out _ hB8) (.inr rfl)).mono ?_
    rintro e w9 ⟨rfl, hb9⟩
    have hB9 := bch hB8 hb9
    go_wp2_with fail
    go_ret
    exact ⟨rfl, hB9⟩
end Go.Proofs.YtknecfgacnknlaaDoor
