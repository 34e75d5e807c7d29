/- letterbecklaw1.TurnLeast returns true at all arguments: the walk. -/
import Derived.Test.YtkmoohhnjgpchaaTurnTurns
namespace Go.Proofs.Ytkmoohhnjgpchaa
set_option linter.unusedVariables false
set_option linter.unusedSimpArgs false
open Go.RowKit

set_option maxHeartbeats 1000000 in
theorem walk_turnLeast (a0 : ByteArray) (w0 : a0.size ≤ maxLen) (a1 : Int) (w1 : (Lit.int .i64 a1).wf = true) (W : World) (hM : HasMax W) :
    Calls Try.prog 6 #[.string a0, .int .i64 a1] W fun e w' => e = .returned (.bool true) ∧ Below W.heap.size W w' := by
  have hcF := hid (turnFact_true W hM)
  have HM := hid hM
  clear hM w1
  by_cases hs : a0.size ≤ 24
  · by_cases hn : 0 < a0.size
    · obtain ⟨r, hr⟩ := least_exists (bt a0) a0.size hn
      have hrn := hr.1
      have hcL := hid (fun w => turnLeast_ok w a0 hs r (.inr hr))
      have ez : ((a0.size : Int) == 0) = false := by rw [beq_eq_false_iff_ne]; omega
      by_cases hi : 0 ≤ a1 ∧ a1 ≤ (a0.size : Int) - 1
      · obtain ⟨i, rfl⟩ := Int.eq_ofNat_of_zero_le hi.1
        have hin : i < a0.size := by omega
        have hz := turnB_size (s := a0) (k := i) (by omega)
        have hzr := turnB_size (s := a0) (k := r) (by omega)
        obtain ⟨k, hk⟩ := least_exists (bt (turnB a0 i)) a0.size hn
        have hkn := hk.1
        have hlt := least_turn hn hin hr hk
        have hk' : IsLeast (bt (turnB a0 i)) (turnB a0 i).size k := by rw [hz]; exact hk
        have hcK := hid (fun w => turnLeast_ok w (turnB a0 i) (by omega) k (.inr hk'))
        have hcS := hid (fun w hw => same_ok w a0 (turnB a0 i) hs (by omega) hw true ⟨fun _ => ⟨i, by omega, rfl⟩, fun _ => rfl⟩)
        have hcT := hid (fun w => turn_q w a0 i (by omega) hs)
        have hcT2 := hid (fun w => turn_q w (turnB a0 i) k (by omega) (by omega))
        have hcT3 := hid (fun w => turn_q w a0 r (by omega) hs)
        have hcB := hid (fun w => before_any w (turnB a0 i) (turnB a0 r) (by omega) (by omega) false ⟨fun h => absurd h (by decide), fun h => absurd h hlt.2⟩)
        have e1 := eq_true' hlt.1
        have hz1 : a0.size ≤ (turnB a0 i).size := by omega
        have hz2 : (turnB a0 i).size ≤ a0.size := by omega
        clear hr hk hk' hlt hz hzr
        go_enter Try.func6, Try.ntmps6
        go_wp2_with fail
        refine hcF.out.mono ?_
        rintro e v1 ⟨rfl, hb1⟩
        go_wp2_with fail
        refine (hcL.out _).mono ?_
        rintro e v2 ⟨rfl, hb2⟩
        go_wp2_with fail
        refine (in_true _ _ _ _ (by omega) (by omega)).mono ?_
        rintro e v3 ⟨rfl, rfl⟩
        go_wp2_with fail
        refine (in_true _ _ _ _ hi.1 hi.2).mono ?_
        rintro e v3 ⟨rfl, rfl⟩
        go_wp2_with fail
        refine (hcT.out _).mono ?_
        rintro e v3 ⟨rfl, m, rfl⟩
        go_wp2_with fail
        refine (hcK.out _).mono ?_
        rintro e v4 ⟨rfl, hb4⟩
        have HB4 := hid (bch hb1 (bch (below_dn hb2 m) hb4))
        go_wp2_with fail
        refine (hcS.out _ (HM.out.below HB4.out)).mono ?_
        rintro e v5 ⟨rfl, hb5⟩
        have HB5 := hid (bch HB4.out hb5)
        clear hb1 hb2 hb4 hb5
        go_wp2_with fail
        refine (in_true _ _ _ _ (by omega) (by omega)).mono ?_
        rintro e v6 ⟨rfl, rfl⟩
        go_wp2_with fail
        refine (hcT2.out _).mono ?_
        rintro e v6 ⟨rfl, m2, rfl⟩
        go_wp2_with fail
        refine (hcT3.out _).mono ?_
        rintro e v6 ⟨rfl, m3, rfl⟩
        go_wp2_with fail
        refine (hcT3.out _).mono ?_
        rintro e v6 ⟨rfl, m4, rfl⟩
        go_wp2_with fail
        refine (hcB.out _).mono ?_
        rintro e v6 ⟨rfl, m5, rfl⟩
        go_wp2
        go_ret
        exact ⟨rfl, below_dn HB5.out _⟩
      · clear hr
        go_enter Try.func6, Try.ntmps6
        go_wp2_with fail
        refine hcF.out.mono ?_
        rintro e v1 ⟨rfl, hb1⟩
        go_wp2_with fail
        refine (hcL.out _).mono ?_
        rintro e v2 ⟨rfl, hb2⟩
        go_wp2_with fail
        refine (in_true _ _ _ _ (by omega) (by omega)).mono ?_
        rintro e v3 ⟨rfl, rfl⟩
        go_wp2_with fail
        refine (in_false _ _ _ _ hi).mono ?_
        rintro e v3 ⟨rfl, rfl⟩
        clear hi
        go_wp2
        go_ret
        exact ⟨rfl, bch hb1 hb2⟩
    · have hcL := hid (fun w => turnLeast_ok w a0 hs 0 (.inl ⟨by omega, rfl⟩))
      have ez : ((a0.size : Int) == 0) = true := by rw [beq_iff_eq]; omega
      clear hn
      go_enter Try.func6, Try.ntmps6
      go_wp2_with fail
      refine hcF.out.mono ?_
      rintro e v1 ⟨rfl, hb1⟩
      go_wp2_with fail
      refine (hcL.out _).mono ?_
      rintro e v2 ⟨rfl, hb2⟩
      go_wp2
      go_ret
      exact ⟨rfl, bch hb1 hb2⟩
  · go_enter Try.func6, Try.ntmps6
    go_wp2_with fail
    refine hcF.out.mono ?_
    rintro e v1 ⟨rfl, hb1⟩
    go_wp2_with fail
    refine (turnLeast_bad _ a0 (by omega) w0).mono ?_
    rintro e v2 ⟨rfl, hb2⟩
    go_wp2
    go_ret
    exact ⟨rfl, bch hb1 hb2⟩
end Go.Proofs.Ytkmoohhnjgpchaa
