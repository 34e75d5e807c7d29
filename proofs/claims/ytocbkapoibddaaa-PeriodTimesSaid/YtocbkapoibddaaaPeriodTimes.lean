/- letterbecklaw1.PeriodTimes returns true at all arguments: the walk. -/
import Derived.Test.YtocbkapoibddaaaPeriodFact
namespace Go.Proofs.Ytocbkapoibddaaa
set_option linter.unusedVariables false
set_option linter.unusedSimpArgs false
open Go.RowKit

set_option maxHeartbeats 800000 in
set_option maxRecDepth 100000 in
theorem walk_periodTimes (a0 : ByteArray) (w0 : a0.size ≤ maxLen) (a1 : Int) (w1 : (Lit.int .i64 a1).wf = true) (a2 : Int) (w2 : (Lit.int .i64 a2).wf = true) (a3 : Int) (w3 : (Lit.int .i64 a3).wf = true) (W : World) :
    Calls Try.prog 9 #[.string a0, .int .i64 a1, .int .i64 a2, .int .i64 a3] W fun e w' => e = .returned (.bool true) ∧ Below W.heap.size W w' := by
  clear w1 w2 w3
  by_cases hs : a0.size ≤ 24
  · by_cases hp : HasP (bt a0) a0.size a1
    · obtain ⟨p, rfl, hp0, hper⟩ := id hp
      have hpn := hper.1
      have Hp := hid hp
      have Hper := hid hper
      clear hp hper
      go_enter Try.func9, Try.ntmps9
      go_wp2_with fail
      refine (periodFact_true _).mono ?_
      rintro e v1 ⟨rfl, hb1⟩
      go_wp2_with fail
      refine (periodHas_yes _ a0 p hs Hp.out).mono ?_
      rintro e v2 ⟨rfl, hb2⟩
      go_wp2_with fail
      refine (in_true _ _ _ _ (by omega) (by omega)).mono ?_
      rintro e v3 ⟨rfl, rfl⟩
      have hq : ((a0.size : Int) / (p : Int)) = ((a0.size / p : Nat) : Int) := rfl
      have hqn := Nat.div_le_self a0.size p
      have hq1 : 0 ≤ ((a0.size : Int) / (p : Int)) := by rw [hq]; exact Int.natCast_nonneg _
      have hq2 : ((a0.size : Int) / (p : Int)) ≤ 24 := by rw [hq]; omega
      have Hq := hid hq
      clear hq
      go_wp2_with fail
      rcases Classical.em (1 ≤ a2 ∧ a2 ≤ ((a0.size : Int) / (p : Int))) with hn | hn
      case' inl =>
        obtain ⟨m, rfl⟩ := Int.eq_ofNat_of_zero_le (show 0 ≤ a2 by omega)
        obtain ⟨hn1, hn2⟩ := hn
        refine (in_true _ _ _ _ hn1 hn2).mono ?_
        rintro e v3 ⟨rfl, rfl⟩
        have hmq : m ≤ a0.size / p := by
          have := Hq.out
          have h2 := hn2
          rw [this] at h2
          omega
        have hmp : m * p ≤ a0.size := Nat.le_trans (Nat.mul_le_mul_right p hmq) (Nat.div_mul_le_self a0.size p)
        have hc : ((m : Int) * (p : Int)) = ((m * p : Nat) : Int) := by simp
        have hc1 : 0 ≤ ((m : Int) * (p : Int)) := by rw [hc]; omega
        have hc2 : ((m : Int) * (p : Int)) ≤ 24 := by rw [hc]; omega
        have Hc := hid hc
        clear hc
        go_wp2_with fail
        refine (periodHas_yes _ a0 _ hs ⟨m * p, Hc.out, Nat.mul_pos (by omega) hp0, per_times Hper.out hmp⟩).mono ?_
        rintro e v3 ⟨rfl, hb3⟩
        have HB := bch hb1 (bch hb2 hb3)
        clear hb1 hb2 hb3 hc1 hc2 hmp hmq
        go_wp2_with fail
      case' inr =>
        refine (in_false _ _ _ _ hn).mono ?_
        rintro e v3 ⟨rfl, rfl⟩
        have HB := bch hb1 hb2
        clear hn hb1 hb2
        go_wp2_with fail
      all_goals
        by_cases hi : 0 ≤ a3 ∧ a3 ≤ (a0.size : Int) - p
        · obtain ⟨i, rfl⟩ := Int.eq_ofNat_of_zero_le hi.1
          have hi2 : i + p ≤ a0.size := by omega
          refine (in_true _ _ _ _ hi.1 hi.2).mono ?_
          rintro e v4 ⟨rfl, rfl⟩
          clear hi
          have hz1 : (a0.extract i a0.size).size = a0.size - i := by simp
          have hz2 : (a0.extract 0 (a0.size - i)).size = a0.size - i := by simp
          have hp1 : HasP (bt (a0.extract i a0.size)) (a0.extract i a0.size).size p := ⟨p, rfl, hp0, by
            rw [hz1]
            refine ⟨by omega, fun j hj => ?_⟩
            rw [bt_extract _ _ _ _ (by omega), bt_extract _ _ _ _ (by omega), ← Nat.add_assoc]
            exact Hper.out.2 (i + j) (by omega)⟩
          have hp2 : HasP (bt (a0.extract 0 (a0.size - i))) (a0.extract 0 (a0.size - i)).size p := ⟨p, rfl, hp0, by
            rw [hz2]
            refine ⟨by omega, fun j hj => ?_⟩
            rw [bt_extract _ _ _ _ (by omega), bt_extract _ _ _ _ (by omega), Nat.zero_add, Nat.zero_add]
            exact Hper.out.2 j (by omega)⟩
          have Hp1 := hid hp1
          have Hp2 := hid hp2
          have hy1 : (a0.extract i a0.size).size ≤ 24 := by omega
          have hy2 : (a0.extract 0 (a0.size - i)).size ≤ 24 := by omega
          clear hp1 hp2 hz1 hz2
          have Hy1 := hid hy1
          have Hy2 := hid hy2
          clear hy1 hy2
          go_wp2_with fail
          refine (periodHas_yes _ _ p Hy1.out Hp1.out).mono ?_
          rintro e v5 ⟨rfl, hb5⟩
          go_wp2_with fail
          refine (periodHas_yes _ _ p Hy2.out Hp2.out).mono ?_
          rintro e v6 ⟨rfl, hb6⟩
          go_wp2
          go_ret
          exact ⟨rfl, bch HB (bch hb5 hb6)⟩
        · refine (in_false _ _ _ _ hi).mono ?_
          rintro e v4 ⟨rfl, rfl⟩
          clear hi
          go_wp2
          go_ret
          exact ⟨rfl, HB⟩
    · go_enter Try.func9, Try.ntmps9
      go_wp2_with fail
      refine (periodFact_true _).mono ?_
      rintro e v1 ⟨rfl, hb1⟩
      go_wp2_with fail
      refine (periodHas_no _ a0 a1 hs hp).mono ?_
      rintro e v2 ⟨rfl, hb2⟩
      go_wp2
      go_ret
      exact ⟨rfl, bch hb1 hb2⟩
  · go_enter Try.func9, Try.ntmps9
    go_wp2_with fail
    refine (periodFact_true _).mono ?_
    rintro e v1 ⟨rfl, hb1⟩
    go_wp2_with fail
    refine (periodHas_bad _ a0 a1 (by omega) w0).mono ?_
    rintro e v2 ⟨rfl, hb2⟩
    go_wp2
    go_ret
    exact ⟨rfl, bch hb1 hb2⟩
end Go.Proofs.Ytocbkapoibddaaa
