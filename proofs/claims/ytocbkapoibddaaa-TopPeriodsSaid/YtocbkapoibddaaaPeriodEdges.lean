/- letterbecklaw1.PeriodEdges returns true at every text: the walk. -/
import Derived.Test.YtocbkapoibddaaaPeriodFact
namespace Go.Proofs.Ytocbkapoibddaaa
set_option linter.unusedVariables false
set_option linter.unusedSimpArgs false
open Go.RowKit

theorem perList_get {f : Nat → Nat} {n i : Nat} (hi : i < (edgesAll f n).length) :
    ∃ x : Int, 0 < x ∧ x < n ∧ (edgesAll f n)[(edgesAll f n).length - 1 - i]? = some x ∧ (perList f n)[i]? = some ((n : Int) - x) := by
  have h1 : (edgesAll f n).length - 1 - i < (edgesAll f n).length := by omega
  refine ⟨(edgesAll f n)[(edgesAll f n).length - 1 - i], ?_⟩
  have hg := List.getElem?_eq_getElem h1
  have hb := edgesAll_bd hg
  refine ⟨hb.1, hb.2, hg, ?_⟩
  unfold perList
  rw [List.getElem?_append_left (by simpa using hi), List.getElem?_map, List.getElem?_reverse hi, hg]
  rfl

theorem perList_last (f : Nat → Nat) (n : Nat) : (perList f n)[(edgesAll f n).length]? = some (n : Int) := by
  unfold perList
  rw [List.getElem?_append_right (by simp)]
  simp

set_option maxHeartbeats 800000 in
theorem walk_periodEdges (a0 : ByteArray) (w0 : a0.size ≤ maxLen) (W : World) :
    Calls Try.prog 11 #[.string a0] W fun e w' => e = .returned (.bool true) ∧ Below W.heap.size W w' := by
  by_cases hs : a0.size ≤ 24
  · by_cases hpos : 0 < a0.size
    · have hemp := emp_false hpos
      have hlen := edgesAll_len (bt a0) a0.size
      have hget := hid (fun i hi => perList_get (f := bt a0) (n := a0.size) (i := i) hi)
      have hlast := hid (perList_last (bt a0) a0.size)
      have hpl := perList_len (bt a0) a0.size
      have hcA := hid (fun w => periodAll_ok w a0 hs hpos)
      have hcE := hid (fun w => edgesAll_ok w a0 hs)
      generalize edgesAll (bt a0) a0.size = L at hlen hget hlast hpl hcE
      generalize perList (bt a0) a0.size = P at hget hlast hpl hcA
      have Hpl := hid hpl
      have hP : P.length ≤ 25 := by omega
      clear hpl
      go_enter Try.func11, Try.ntmps11
      go_wp2_with fail
      refine (periodFact_true _).mono ?_
      rintro e w1 ⟨rfl, hb1⟩
      go_wp2_with fail
      refine (hcA.out _).mono ?_
      rintro e w2 ⟨A2, c2, rfl, ho2, hb2⟩
      go_wp2_with fail
      refine (hcE.out _).mono ?_
      rintro e w3 ⟨A3, c3, rfl, ho3, hb3⟩
      have hB := hb3.size
      have hs2 := (ho2.below hb3).slB w3.heap.size (Nat.le_refl _)
      have hs3 := ho3.slB w3.heap.size (Nat.le_refl _)
      have e0 : ((P.length : Int) != (L.length : Int) + 1) = false := by have := Hpl.out; simp; omega
      obtain ⟨g, o, hA, hg, hc⟩ := hs2 (ints_ne (by have := Hpl.out; omega))
      subst hA
      have qlast := hc _ _ (ints_get' hlast.out)
      have hl1 : (L.length : Int) < P.length := by have := Hpl.out; omega
      have hl2 : L.length < P.length := by have := Hpl.out; omega
      have Hc := hid hc
      clear hc
      go_wp2_with fail
      go_loopw [8] (fun i wr => ∃ k m : Nat, k ≤ L.length ∧ i = .int .i64 k ∧ wr = w3.drewN m) (fun i _ => L.length - (intOf i).toNat)
      case atStart => exact ⟨0, 0, Nat.zero_le _, rfl, rfl⟩
      case round =>
        obtain ⟨k, m, hk, rfl, rfl⟩ := hrel
        by_cases hlt : k < L.length
        · obtain ⟨x, hx1, hx2, hx3, hx4⟩ := hget.out k hlt
          obtain ⟨g3, o3, hA3, hg3, hc3⟩ := hs3 (ints_ne (by omega))
          subst hA3
          have q1 := Hc.out _ _ (ints_get' hx4)
          have q2 := hc3 _ _ (ints_get' hx3)
          have e1 : (((a0.size : Int) - x + x) != a0.size) = false := by simp
          have hk2 : k < P.length := by omega
          clear hc3 hx3 hx4
          go_wp2
          go_quiet (fail)
          go_wp2
          go_roundw
          case rel => exact ⟨k + 1, _, hlt, by go_num, rfl⟩
          case measure => simp [intOf]; omega
        · go_wp2
          go_ret
          exact ⟨rfl, bch hb1 (bch hb2 (below_dn hb3 m))⟩
    · have hemp := emp_true (s := a0) (by omega)
      have hcA := hid (fun w => periodAll_none w a0 (by omega))
      have hcE := hid (fun w => edgesAll_at w a0 hs [] (by rw [show a0.size = 0 from by omega]; rfl))
      go_enter Try.func11, Try.ntmps11
      go_wp2_with fail
      refine (periodFact_true _).mono ?_
      rintro e w1 ⟨rfl, hb1⟩
      go_wp2_with fail
      refine (hcA.out _).mono ?_
      rintro e w2 ⟨A2, c2, rfl, ho2, hb2⟩
      go_wp2_with fail
      refine (hcE.out _).mono ?_
      rintro e w3 ⟨A3, c3, rfl, ho3, hb3⟩
      go_wp2
      go_ret
      exact ⟨rfl, bch hb1 (bch hb2 hb3)⟩
  · go_enter Try.func11, Try.ntmps11
    go_wp2_with fail
    refine (periodFact_true _).mono ?_
    rintro e w1 ⟨rfl, hb1⟩
    go_wp2_with fail
    refine (periodAll_bad _ a0 (by omega) w0).mono ?_
    rintro e w2 ⟨rfl, hb2⟩
    go_wp2_with fail
    refine (edgesAll_bad _ a0 (by omega) w0).mono ?_
    rintro e w3 ⟨rfl, hb3⟩
    go_wp2
    go_ret
    exact ⟨rfl, bch hb1 (bch hb2 hb3)⟩
end Go.Proofs.Ytocbkapoibddaaa
