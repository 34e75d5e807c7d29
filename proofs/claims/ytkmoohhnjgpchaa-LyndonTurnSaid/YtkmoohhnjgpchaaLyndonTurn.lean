/- letterbecklaw1.LyndonTurn returns true at every text: the walk. -/
import Derived.Test.YtkmoohhnjgpchaaLynRef
import Derived.Test.YtkmoohhnjgpchaaIn
import Derived.Test.YtkmoohhnjgpchaaTurnLeastFn
import Derived.Test.YtkmoohhnjgpchaaTurnRoot
import Derived.Test.YtkmoohhnjgpchaaTurnB
namespace Go.Proofs.Ytkmoohhnjgpchaa
set_option linter.unusedVariables false
set_option linter.unusedSimpArgs false
open Go.RowKit

theorem lynTurn_is {s : ByteArray} {r : Nat} (h : IsLeast (bt s) s.size r) : Lyn (bt (turnB s r)) (turnB s r).size ↔ rootOf (bt s) s.size = s.size := by
  have hn : 0 < s.size := by have := h.1; omega
  have hr : r ≤ s.size := by have := h.1; omega
  rw [turnB_size hr, lyn_ext (fun j hj => turnB_bt hr j hj)]
  have hk := rootOf_root (f := bt s) hn
  constructor
  · intro hl
    have h1 := rootOf_root (f := rot (bt s) s.size r) hn
    rw [root_unique hk h1 (fun d _ hd => (per_rot hn hd).symm)]
    exact lyn_root hl h1
  · intro h1
    rw [h1] at hk
    exact least_lyn h hk

theorem lynTurn_ok {s : ByteArray} {r : Nat} (h : IsLeast (bt s) s.size r) : Lyn (bt s) s.size ↔ (r = 0 ∧ rootOf (bt s) s.size = s.size) := by
  have hn : 0 < s.size := by have := h.1; omega
  constructor
  · intro hl
    exact ⟨least_unique h (lyn_least hl), lyn_root hl (rootOf_root hn)⟩
  · rintro ⟨rfl, h2⟩
    have := (lynTurn_is h).2 h2
    rwa [turnB_zero] at this

set_option maxHeartbeats 1000000 in
theorem walk_lyndonTurn (a0 : ByteArray) (w0 : a0.size ≤ maxLen) (W : World) :
    Calls Try.prog 5 #[.string a0] W fun e w' => e = .returned (.bool true) ∧ Below W.heap.size W w' := by
  by_cases hs : a0.size ≤ 24
  · by_cases hpos : 0 < a0.size
    · obtain ⟨r, hr⟩ := least_exists (bt a0) a0.size hpos
      have hrn := hr.1
      have hcL := hid (fun w => turnLeast_ok w a0 hs r (.inr hr))
      have hkk := rootOf_le (f := bt a0) hpos
      have hcR := hid (fun w => turnRoot_ok w a0 hs hpos)
      have his := lynTurn_is hr
      have hok := lynTurn_ok hr
      have hz := turnB_size (s := a0) (k := r) (by omega)
      have hz' : (turnB a0 r).size ≤ 24 := by omega
      have hcT : Hid (∀ w, Calls Try.prog 18 #[.string a0, .int .i64 r] w fun e w' => e = .returned (.string (turnB a0 r)) ∧ Below w.heap.size w w') := fun w => turn_any w a0 r (by omega) hs
      generalize rootOf (bt a0) a0.size = k at hkk hcR his hok
      obtain ⟨x, y, hx, hy⟩ : ∃ x y : Bool, (x = true ↔ k = a0.size) ∧ (y = true ↔ r = 0) := ⟨decide (k = a0.size), decide (r = 0), by simp, by simp⟩
      have hcI := hid (fun w => lynIs_ok w a0 hs (y && x) (by rw [hok, ← hx, ← hy]; simp))
      have hcJ := hid (fun w => lynIs_ok w (turnB a0 r) hz' x (by rw [his, hx]))
      have e1 : ((k : Int) == a0.size) = x := by
        cases x
        · simp only [beq_eq_false_iff_ne]; intro h; exact absurd (hx.2 (by omega)) (by decide)
        · have := hx.1 rfl; simp [this]
      have e2 : ((r : Int) == 0) = y := by
        cases y
        · simp only [beq_eq_false_iff_ne]; intro h; exact absurd (hy.2 (by omega)) (by decide)
        · have := hy.1 rfl; simp [this]
      have e3 : ((a0.size : Int) == 0) = false := by rw [beq_eq_false_iff_ne]; omega
      clear his hok hx hy hz hz' hr
      go_enter Try.func5, Try.ntmps5
      go_wp2_with fail
      refine (lyndonFact_true _).mono ?_
      rintro e w1 ⟨rfl, hb1⟩
      go_wp2_with fail
      refine (hcL.out _).mono ?_
      rintro e w2 ⟨rfl, hb2⟩
      go_wp2_with fail
      refine (hcR.out _).mono ?_
      rintro e w3 ⟨rfl, hb3⟩
      go_wp2_with fail
      refine (hcI.out _).mono ?_
      rintro e w4 ⟨rfl, hb4⟩
      go_wp2_with fail
      refine (in_true _ _ _ _ (by omega) (by omega)).mono ?_
      rintro e w5 ⟨rfl, rfl⟩
      go_wp2_with fail
      refine (hcT.out _).mono ?_
      rintro e w5 ⟨rfl, hb5⟩
      go_wp2_with fail
      refine (hcJ.out _).mono ?_
      rintro e w6 ⟨rfl, hb6⟩
      cases x <;> cases y
      all_goals
        go_wp2
        go_ret
        exact ⟨rfl, bch hb1 (bch hb2 (bch hb3 (bch hb4 (bch hb5 hb6))))⟩
    · have hz : a0.size = 0 := by omega
      have hcI := hid (fun w => lynIs_ok w a0 hs false ⟨fun h => absurd h (by decide), fun h => absurd h.1 (by omega)⟩)
      have hcL := hid (fun w => turnLeast_ok w a0 hs 0 (.inl ⟨hz, rfl⟩))
      have hcR := hid (fun w => turnRoot_none w a0 hz)
      have e3 : ((a0.size : Int) == 0) = true := by rw [beq_iff_eq]; omega
      clear hz
      go_enter Try.func5, Try.ntmps5
      go_wp2_with fail
      refine (lyndonFact_true _).mono ?_
      rintro e w1 ⟨rfl, hb1⟩
      go_wp2_with fail
      refine (hcL.out _).mono ?_
      rintro e w2 ⟨rfl, hb2⟩
      go_wp2_with fail
      refine (hcR.out _).mono ?_
      rintro e w3 ⟨rfl, hb3⟩
      go_wp2_with fail
      refine (hcI.out _).mono ?_
      rintro e w4 ⟨rfl, hb4⟩
      go_wp2
      go_ret
      exact ⟨rfl, bch hb1 (bch hb2 (bch hb3 hb4))⟩
  · go_enter Try.func5, Try.ntmps5
    go_wp2_with fail
    refine (lyndonFact_true _).mono ?_
    rintro e w1 ⟨rfl, hb1⟩
    go_wp2_with fail
    refine (turnLeast_bad _ a0 (by omega) w0).mono ?_
    rintro e w2 ⟨rfl, hb2⟩
    go_wp2_with fail
    refine (turnRoot_bad _ a0 (by omega) w0).mono ?_
    rintro e w3 ⟨rfl, hb3⟩
    go_wp2_with fail
    refine (lynIs_bad _ a0 (by omega) w0).mono ?_
    rintro e w4 ⟨rfl, hb4⟩
    go_wp2
    go_ret
    exact ⟨rfl, bch hb1 (bch hb2 (bch hb3 hb4))⟩
end Go.Proofs.Ytkmoohhnjgpchaa
