/- letterbecklaw1.EdgesGrow returns true at every text: the walk. -/
import Derived.Test.YtocbkapoibddaaaEdgesFact
import Derived.Test.YtocbkapoibddaaaIn
namespace Go.Proofs.Ytocbkapoibddaaa
set_option linter.unusedVariables false
set_option linter.unusedSimpArgs false
open Go.RowKit

attribute [local go_sem] get_bt

set_option maxHeartbeats 400000 in
theorem walk_edgesGrow (a0 : ByteArray) (w0 : a0.size ≤ maxLen) (W : World) :
    Calls Try.prog 5 #[.string a0] W fun e w' => e = .returned (.bool true) ∧ Below W.heap.size W w' := by
  by_cases hs : a0.size ≤ 24
  · have hne : ((a0.size : Int) != a0.size) = false := by simp
    go_enter Try.func5, Try.ntmps5
    go_wp2_with fail
    refine (edgesFact_true _).mono ?_
    rintro e w1 ⟨rfl, hb1⟩
    go_wp2_with fail
    refine (edgesOf_ok _ a0 hs).mono ?_
    rintro e w2 ⟨A, c, rfl, ho, hb2⟩
    go_wp2_with fail
    have hsl := ho.slB w2.heap.size (Nat.le_refl _)
    go_loopw [6] (fun i wr => ∃ k : Nat, k ≤ a0.size ∧ i = .int .i64 k ∧ Sl wr w2.heap.size A (ints (edgesOf (bt a0) a0.size)) ∧ Below w1.heap.size w1 wr) (fun i _ => a0.size - (intOf i).toNat)
    case atStart => exact ⟨0, Nat.zero_le _, rfl, hsl, hb2⟩
    case round =>
      obtain ⟨k, hk, rfl, hs2, hbr⟩ := hrel
      by_cases hlt : k < a0.size
      · obtain ⟨g, o, hA, hg, hc⟩ := hs2 (ints_ne (by rw [edgesOf_len]; omega))
        subst hA
        have hfl := fail_lt (f := bt a0) (n := k + 1) (by omega)
        have q1 := hc k _ (ints_get' (edgesOf_get (bt a0) a0.size (k + 1) (by omega) (by omega)))
        by_cases h0 : 0 < k
        · have q2 := hc (k - 1) _ (ints_get' (edgesOf_get (bt a0) a0.size k (by omega) (by omega)))
          have hgr := fail_grow (f := bt a0) (n := k) (by omega)
          have hyl := fail_lt (f := bt a0) (n := k) h0
          have hlast := @fail_last (bt a0) k
          clear hc
          generalize fail (bt a0) (k + 1) = x at q1 hfl hgr hlast
          generalize fail (bt a0) k = y at q2 hgr hyl
          by_cases hx : 0 < x
          · have h3 := hlast hx
            clear hlast
            have hd : ((bt a0 (x - 1) : Int) != bt a0 k) = false := by simp [h3]
            have h4 : decide ((y : Int) + 1 < x) = false := by simp; omega
            go_wp2_with fail
            go_quiet ((go_at_call 16; exact in_in _ _ _ _ _ (by omega) (by omega)))
            go_wp2
            go_quiet (fail)
            go_wp2
            go_roundw
            case rel => exact ⟨k + 1, by omega, by go_num, hs2, below_dn hbr _⟩
            case measure => simp [intOf]; omega
          · clear hlast
            have h4 : decide ((y : Int) + 1 < x) = false := by simp; omega
            go_wp2_with fail
            go_quiet ((go_at_call 16; exact in_in _ _ _ _ _ (by omega) (by omega)))
            go_wp2
            go_quiet (fail)
            go_wp2
            go_roundw
            case rel => exact ⟨k + 1, by omega, by go_num, hs2, below_dn hbr _⟩
            case measure => simp [intOf]; omega
        · have hx : fail (bt a0) (k + 1) = 0 := by
            rw [show k = 0 from by omega]
            exact fail_one _
          rw [hx] at q1
          clear hc hx
          go_wp2_with fail
          go_quiet ((go_at_call 16; exact in_in _ _ _ _ _ (by omega) (by omega)))
          go_wp2
          go_quiet (fail)
          go_wp2
          go_roundw
          case rel => exact ⟨k + 1, by omega, by go_num, hs2, below_dn hbr _⟩
          case measure => simp [intOf]; omega
      · go_wp2
        go_ret
        exact ⟨rfl, bch hb1 hbr⟩
  · go_enter Try.func5, Try.ntmps5
    go_wp2_with fail
    refine (edgesFact_true _).mono ?_
    rintro e w1 ⟨rfl, hb1⟩
    go_wp2_with fail
    refine (edgesOf_bad _ a0 (by omega) w0).mono ?_
    rintro e w2 ⟨rfl, hb2⟩
    go_wp2
    go_ret
    exact ⟨rfl, bch hb1 hb2⟩
end Go.Proofs.Ytocbkapoibddaaa
