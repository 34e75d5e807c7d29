/- letterbecktop.TopMirrors returns true at every text: the walk. -/
import Derived.Test.YthdckapielbonaaFar
import Derived.Test.YthdckapielbonaaTopMPlain
import Derived.Test.YthdckapielbonaaMirLongest
namespace Go.Proofs.Ythdckapielbonaa
set_option linter.unusedVariables false
set_option linter.unusedSimpArgs false
open Go.RowKit

theorem tin_true (w : World) (n low high : Int) (h1 : low ≤ n) (h2 : n ≤ high) :
    Calls Try.prog 22 #[.int .i64 n, .int .i64 low, .int .i64 high] w fun e w' => e = .returned (.bool true) ∧ w = w' := by
  go_enter Try.func22, Try.ntmps22
  go_wp2
  go_ret
  exact ⟨rfl, rfl⟩

theorem longest_aa (w : World) : Calls Try.prog 15 #[.string ⟨#[97, 97]⟩] w fun e w' => e = .returned (.tuple #[.int .i64 0, .int .i64 2, .nilIface]) ∧ Below w.heap.size w w' := by
  have h := longest_ok w ⟨#[97, 97]⟩ (by decide)
  have e := mLong_eq (f := bt ⟨#[97, 97]⟩) (n := 2) (at' := 0) (most := 2) (by omega) (by omega) (fun j hj => by
    match j, hj with
    | 0, _ => decide
    | 1, _ => decide) (fun a l h1 h2 h3 => by omega)
  rw [show (ByteArray.mk #[97, 97]).size = 2 from rfl, e.1, e.2] at h
  exact h

set_option maxRecDepth 100000 in
set_option maxHeartbeats 1000000 in
theorem walk_topMirrors (a0 : ByteArray) (w0 : a0.size ≤ maxLen) (W : World) :
    Calls Try.prog 7 #[.string a0] W fun e w' => e = .returned (.bool true) ∧ Below W.heap.size W w' := by
  have Haa := hid longest_aa
  have hbk := back_size a0
  have Hb := hid (fun w => back_any w a0 w0)
  by_cases hs : a0.size ≤ 24
  · have Hl := hid (fun w => longest_ok w a0 hs)
    have Hc := hid (fun w => commonLong_ok w a0 (back a0) hs (by omega))
    have Hf := hid (fun w => far_ok w a0 (back a0) hs (by omega))
    obtain ⟨p1, p2, p3, p4⟩ := top_mirrors a0
    rw [hbk] at Hc Hf
    generalize mLong (bt a0) a0.size = M at *
    generalize mAt (bt a0) a0.size = P at *
    generalize lcs (bt a0) (bt (back a0)) a0.size a0.size a0.size a0.size = X at *
    generalize far (bt a0) (bt (back a0)) a0.size a0.size = K at *
    have e1 : (M : Int) ≤ (X : Int) := by omega
    have e2 : ((((K : Int) == 0) == ((M : Int) == a0.size))) = true := by
      by_cases h : K = 0
      · have := p3.1 h
        simp [h, this]
      · have h2 : M ≠ a0.size := fun h2 => h (p3.2 h2)
        have e1 : ((K : Int) == 0) = false := by rw [beq_eq_false_iff_ne]; omega
        have e2 : ((M : Int) == (a0.size : Int)) = false := by rw [beq_eq_false_iff_ne]; omega
        rw [e1, e2]; rfl
    have e3 : ((((X : Int) == a0.size) == ((K : Int) == 0))) = true := by
      by_cases h : K = 0
      · have := p4.2 h
        simp [h, this]
      · have h2 : X ≠ a0.size := fun h2 => h (p4.1 h2)
        have e1 : ((K : Int) == 0) = false := by rw [beq_eq_false_iff_ne]; omega
        have e2 : ((X : Int) == (a0.size : Int)) = false := by rw [beq_eq_false_iff_ne]; omega
        rw [e1, e2]; rfl
    have hp1 : (M : Int) ≤ a0.size := by omega
    have Hin := hid (fun w => tin_true w M 0 a0.size (by omega) hp1)
    generalize back a0 = Y at *
    clear p1 p2 p3 p4 hbk hp1
    go_enter Try.func7, Try.ntmps7
    go_wp2_with fail
    refine (Hl.out _).mono ?_
    rintro e w1 ⟨rfl, hb1⟩
    go_wp2_with fail
    refine (Haa.out _).mono ?_
    rintro e w2 ⟨rfl, hb2⟩
    have hB2 := bch hb1 hb2
    go_wp2_with fail
    refine (Hb.out _).mono ?_
    rintro e w3 ⟨rfl, rfl⟩
    go_wp2_with fail
    refine (Hc.out _).mono ?_
    rintro e w3 ⟨rfl, hb3⟩
    have hB3 := bch hB2 hb3
    go_wp2_with fail
    refine (Hb.out _).mono ?_
    rintro e w4 ⟨rfl, rfl⟩
    go_wp2_with fail
    refine (Hf.out _).mono ?_
    rintro e w4 ⟨rfl, hb4⟩
    have hB4 := bch hB3 hb4
    go_wp2_with fail
    refine (Hin.out _).mono ?_
    rintro e w5 ⟨rfl, rfl⟩
    go_wp2_with fail
    go_ret
    exact ⟨rfl, hB4⟩
  · have Hl := hid (fun w => longest_bad w a0 (by omega) w0)
    have Hc := hid (fun w => commonLong_bad w a0 (back a0) (.inl (by omega)) w0 (by omega))
    generalize back a0 = Y at *
    clear hbk
    go_enter Try.func7, Try.ntmps7
    go_wp2_with fail
    refine (Hl.out _).mono ?_
    rintro e w1 ⟨rfl, hb1⟩
    go_wp2_with fail
    refine (Haa.out _).mono ?_
    rintro e w2 ⟨rfl, hb2⟩
    have hB2 := bch hb1 hb2
    go_wp2_with fail
    refine (Hb.out _).mono ?_
    rintro e w3 ⟨rfl, rfl⟩
    go_wp2_with fail
    refine (Hc.out _).mono ?_
    rintro e w3 ⟨rfl, hb3⟩
    have hB3 := bch hB2 hb3
    go_wp2_with fail
    go_ret
    exact ⟨rfl, hB3⟩
end Go.Proofs.Ythdckapielbonaa
