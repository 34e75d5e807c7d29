/- letterbecklaw1.MirrorLongest returns true at all arguments: the walk. -/
import Derived.Test.YthdckapielbonaaMirFact
import Derived.Test.YthdckapielbonaaIn
namespace Go.Proofs.Ythdckapielbonaa
set_option linter.unusedVariables false
set_option linter.unusedSimpArgs false
open Go.RowKit

theorem isMir_sub {s : ByteArray} {a b : Nat} (hab : a ≤ b) (hb : b ≤ s.size) : isMir (s.extract a b) = true ↔ IsPal (bt s) a (b - a) := by
  have hsz : (s.extract a b).size = b - a := by simp; omega
  rw [isMir_true, hsz]
  unfold IsPal
  constructor
  · intro h j hj
    have := h j hj
    rw [bt_extract _ _ _ _ (by omega), bt_extract _ _ _ _ (by omega)] at this
    exact this
  · intro h j hj
    rw [bt_extract _ _ _ _ (by omega), bt_extract _ _ _ _ (by omega)]
    exact h j hj

set_option maxHeartbeats 1000000 in
set_option maxRecDepth 100000 in
theorem walk_mirrorLongest (a0 : ByteArray) (w0 : a0.size ≤ maxLen) (a1 : Int) (w1 : (Lit.int .i64 a1).wf = true) (a2 : Int) (w2 : (Lit.int .i64 a2).wf = true) (W : World) :
    Calls Try.prog 4 #[.string a0, .int .i64 a1, .int .i64 a2] W fun e w' => e = .returned (.bool true) ∧ Below W.heap.size W w' := by
  by_cases hs : a0.size ≤ 24
  · obtain ⟨h1, h2, h3⟩ := mLong_spec (bt a0) a0.size
    have h4 := mLong_pos (f := bt a0) (n := a0.size)
    have Hl := hid (fun w => longest_ok w a0 hs)
    generalize mAt (bt a0) a0.size = P at h1 h2 h3 Hl
    generalize mLong (bt a0) a0.size = Q at h1 h2 h3 h4 Hl
    by_cases h0 : a0.size = 0
    · have hP : P = 0 := by omega
      have hQ : Q = 0 := by omega
      subst hP hQ
      have e0 : ((a0.size : Int) == 0) = true := by rw [beq_iff_eq]; omega
      clear h2 h3 h4 w1 w2
      go_enter Try.func4, Try.ntmps4
      go_wp2_with fail
      refine (mirrorFact_true _).mono ?_
      rintro e v1 ⟨rfl, hb1⟩
      go_wp2_with fail
      refine (Hl.out _).mono ?_
      rintro e v2 ⟨rfl, hb2⟩
      go_wp2
      go_ret
      exact ⟨rfl, bch hb1 hb2⟩
    · have h4 := h4 (by omega)
      have e0 : ((a0.size : Int) == 0) = false := by rw [beq_eq_false_iff_ne]; omega
      have hpal : Hid (isMir (a0.extract P (P + Q)) = true) := (isMir_sub (by omega) h1).2 (by rw [show P + Q - P = Q from by omega]; exact h2)
      have H3 := hid h3
      have hsz1 : (a0.extract P (P + Q)).size ≤ 24 := by simp; omega
      clear h2 h3 w1 w2
      go_enter Try.func4, Try.ntmps4
      go_wp2_with fail
      refine (mirrorFact_true _).mono ?_
      rintro e v1 ⟨rfl, hb1⟩
      go_wp2_with fail
      refine (Hl.out _).mono ?_
      rintro e v2 ⟨rfl, hb2⟩
      go_wp2_with fail
      refine (in_true _ _ _ _ (by omega) (by omega)).mono ?_
      rintro e v3 ⟨rfl, rfl⟩
      go_wp2_with fail
      refine (in_true _ _ _ _ (by omega) (by omega)).mono ?_
      rintro e v3 ⟨rfl, rfl⟩
      go_wp2_with fail
      refine (mirror_any _ _ (by omega)).mono ?_
      rw [hpal.out]
      rintro e v3 ⟨m, rfl, rfl⟩
      go_wp2_with fail
      have HB := bch hb1 hb2
      clear hb1 hb2
      rcases Classical.em ((0 : Int) ≤ a1 ∧ a1 ≤ (a0.size : Int) - 1) with hi | hi
      case' inr =>
        refine (in_false _ _ _ _ hi).mono ?_
        rintro e v3 ⟨rfl, rfl⟩
        clear hi
        go_wp2
        go_ret
        exact ⟨rfl, below_dn HB _⟩
      obtain ⟨hi1, hi2⟩ := hi
      refine (in_true _ _ _ _ hi1 hi2).mono ?_
      rintro e v3 ⟨rfl, rfl⟩
      obtain ⟨I, rfl⟩ := Int.eq_ofNat_of_zero_le hi1
      go_wp2_with fail
      rcases Classical.em ((I : Int) + 1 ≤ a2 ∧ a2 ≤ (a0.size : Int)) with hk | hk
      case' inr =>
        refine (in_false _ _ _ _ hk).mono ?_
        rintro e v3 ⟨rfl, rfl⟩
        clear hk
        go_wp2
        go_ret
        exact ⟨rfl, below_dn HB _⟩
      obtain ⟨hk1, hk2⟩ := hk
      refine (in_true _ _ _ _ hk1 hk2).mono ?_
      rintro e v3 ⟨rfl, rfl⟩
      obtain ⟨K, rfl⟩ := Int.eq_ofNat_of_zero_le (show 0 ≤ a2 by omega)
      have hIK : I ≤ K := by omega
      have hKs : K ≤ a0.size := by omega
      have hsz2 : (a0.extract I K).size ≤ 24 := by simp; omega
      go_wp2_with fail
      refine (mirror_any _ _ (by omega)).mono ?_
      rintro e v3 ⟨m2, rfl, rfl⟩
      cases hb : isMir (a0.extract I K)
      case' false =>
        go_wp2
        go_ret
        exact ⟨rfl, below_dn HB _⟩
      have hres := H3.out I (K - I) (by omega) (by omega) ((isMir_sub hIK hKs).1 hb)
      have hd : (K : Int) - I < Q ∨ ((¬ (K : Int) - I < Q) ∧ decide ((K : Int) - I < Q) = false ∧ ((K : Int) - I == Q) = true ∧ (P : Int) ≤ I) := by
        rcases hres with h | ⟨h, h'⟩
        · exact .inl (by omega)
        · refine .inr ⟨by omega, by simp; omega, by rw [beq_iff_eq]; omega, by omega⟩
      clear hres
      rcases hd with hd | ⟨hd1, hd2, hd3, hd4⟩
      · go_wp2
        go_ret
        exact ⟨rfl, below_dn HB _⟩
      · go_wp2
        go_ret
        exact ⟨rfl, below_dn HB _⟩
  · clear w1 w2
    go_enter Try.func4, Try.ntmps4
    go_wp2_with fail
    refine (mirrorFact_true _).mono ?_
    rintro e v1 ⟨rfl, hb1⟩
    go_wp2_with fail
    refine (longest_bad _ a0 (by omega) w0).mono ?_
    rintro e v2 ⟨rfl, hb2⟩
    go_wp2
    go_ret
    exact ⟨rfl, bch hb1 hb2⟩
end Go.Proofs.Ythdckapielbonaa
