/- letterbecklaw1.MirrorBack returns true at every text: the walk. -/
import Derived.Test.YthdckapielbonaaMirFact
import Derived.Test.YthdckapielbonaaBack
import Derived.Test.YthdckapielbonaaTurned
import Derived.Test.YthdckapielbonaaMirBPlain
namespace Go.Proofs.Ythdckapielbonaa
set_option linter.unusedVariables false
set_option linter.unusedSimpArgs false
open Go.RowKit

set_option maxRecDepth 100000 in
set_option maxHeartbeats 1000000 in
theorem walk_mirrorBack (a0 : ByteArray) (w0 : a0.size ≤ maxLen) (W : World) :
    Calls Try.prog 3 #[.string a0] W fun e w' => e = .returned (.bool true) ∧ Below W.heap.size W w' := by
  have hbs := back_size a0
  by_cases hs : a0.size ≤ 24
  · have hbk : ∀ j, j < a0.size → bt (back a0) j = bt a0 (a0.size - 1 - j) := fun j hj => back_bt a0 j hj
    have HR := hid (mAll_back hbk)
    have HY := hid (fun i h0 hi => mir_back1 (i := i) hbk h0 hi)
    have H0 := hid (fun w => odd_at w (back a0) (by omega) (mAll (bt (back a0)) a0.size 0) (by rw [hbs]))
    have H1 := hid (fun w => even_at w (back a0) (by omega) (mAll (bt (back a0)) a0.size 1) (by rw [hbs]))
    have hne : ((a0.size : Int) != a0.size) = false := by simp
    clear hbk hbs
    go_enter Try.func3, Try.ntmps3
    go_wp2_with fail
    refine (mirrorFact_true _).mono ?_
    rintro e w1 ⟨rfl, hb1⟩
    go_wp2_with fail
    refine (odd_ok _ a0 hs).mono ?_
    rintro e w2 ⟨A2, c2, rfl, ho2, hb2⟩
    rw [mAll_len] at ho2 ⊢
    go_wp2_with fail
    refine (back_any _ a0 w0).mono ?_
    rintro e w3 ⟨rfl, rfl⟩
    go_wp2_with fail
    refine (H0.out _).mono ?_
    rintro e w3 ⟨A3, c3, rfl, ho3, hb3⟩
    rw [mAll_len] at ho3 ⊢
    go_wp2_with fail
    refine (even_ok _ a0 hs).mono ?_
    rintro e w4 ⟨A4, c4, rfl, ho4, hb4⟩
    rw [mAll_len] at ho4 ⊢
    go_wp2_with fail
    refine (back_any _ a0 w0).mono ?_
    rintro e w5 ⟨rfl, rfl⟩
    go_wp2_with fail
    refine (H1.out _).mono ?_
    rintro e w5 ⟨A5, c5, rfl, ho5, hb5⟩
    rw [mAll_len] at ho5 ⊢
    go_wp2_with fail
    refine (turned_any w5 A2 c2 _ _ w5.heap.size (((((ho2.below hb3).below hb4).below hb5)).slB _ (Nat.le_refl _)) (Nat.le_refl _) (mAll_len _ _ _) (by omega)).mono ?_
    rintro e w6 ⟨A6, c6, rfl, ho6, hb6⟩
    rw [HR.out] at ho6
    go_wp2_with fail
    refine (ints_eq w6 A6 A3 c6 c3 _ _ _ _ w6.heap.size (ho6.slB _ (Nat.le_refl _)) ((((ho3.below hb4).below hb5).below hb6).slB _ (Nat.le_refl _)) (mAll_len _ _ _) (mAll_len _ _ _) (by omega) (by omega) true (by simp)).mono ?_
    rintro e w7 ⟨rfl, hb7⟩
    have hx : Sl w7 w7.heap.size A4 (ints (mAll (bt a0) a0.size 1)) := (((ho4.below hb5).below hb6).below hb7).slB _ (Nat.le_refl _)
    have hy : Sl w7 w7.heap.size A5 (ints (mAll (bt (back a0)) a0.size 1)) := ((ho5.below hb6).below hb7).slB _ (Nat.le_refl _)
    have HB := bch (bch (bch (bch (bch (bch hb1 hb2) hb3) hb4) hb5) hb6) hb7
    clear ho2 ho3 ho4 ho5 ho6 hb1 hb2 hb3 hb4 hb5 hb6 hb7
    go_wp2
    go_loopw [12] (fun i wr => ∃ k m : Nat, 1 ≤ k ∧ (k ≤ a0.size ∨ k = 1) ∧ i = .int .i64 k ∧ wr = w7.drewN m) (fun i _ => a0.size - (intOf i).toNat)
    case atStart => exact ⟨1, 0, by omega, by omega, rfl, rfl⟩
    case round =>
      obtain ⟨k, m, hk1, hk2, rfl, rfl⟩ := hrel
      by_cases hlt : k < a0.size
      · obtain ⟨g4, o4, hA4, hg4, hc4⟩ := hx (ints_ne (by simp; omega))
        obtain ⟨g5, o5, hA5, hg5, hc5⟩ := hy (ints_ne (by simp; omega))
        have q4 := hc4 k _ (ints_get' (mAll_get (bt a0) a0.size 1 k hlt))
        have q5 := hc5 (a0.size - k) _ (ints_get' (mAll_get (bt (back a0)) a0.size 1 (a0.size - k) (by omega)))
        rw [HY.out k (by omega) hlt] at q5
        generalize mir (bt a0) a0.size 1 k = x at q4 q5
        obtain ⟨P, hP, hPn⟩ : ∃ P : Nat, (a0.size : Int) - k = P ∧ P = a0.size - k := ⟨a0.size - k, by omega, rfl⟩
        have hPl : P < a0.size := by omega
        rw [← hPn] at q5
        have hxx : ((x : Int) != x) = false := by simp
        subst hA4 hA5
        clear hc4 hc5 hPn
        go_wp2
        go_quiet (fail)
        go_wp2
        go_roundw
        case rel => exact ⟨k + 1, _, by omega, by omega, by go_num, rfl⟩
        case measure => simp [intOf] <;> omega
      · go_wp2
        go_ret
        exact ⟨rfl, below_dn HB _⟩
  · have Hbs := hid hbs
    have hw : (back a0).size ≤ maxLen := by rw [hbs]; exact w0
    clear hbs
    go_enter Try.func3, Try.ntmps3
    go_wp2_with fail
    refine (mirrorFact_true _).mono ?_
    rintro e w1 ⟨rfl, hb1⟩
    go_wp2_with fail
    refine (odd_bad _ a0 (by omega) w0).mono ?_
    rintro e w2 ⟨rfl, hb2⟩
    go_wp2_with fail
    refine (back_any _ a0 w0).mono ?_
    rintro e w3 ⟨rfl, rfl⟩
    go_wp2_with fail
    refine (odd_bad _ (back a0) (by have := Hbs.out; omega) hw).mono ?_
    rintro e w3 ⟨rfl, hb3⟩
    go_wp2_with fail
    refine (even_bad _ a0 (by omega) w0).mono ?_
    rintro e w4 ⟨rfl, hb4⟩
    go_wp2_with fail
    refine (back_any _ a0 w0).mono ?_
    rintro e w5 ⟨rfl, rfl⟩
    go_wp2_with fail
    refine (even_bad _ (back a0) (by have := Hbs.out; omega) hw).mono ?_
    rintro e w5 ⟨rfl, hb5⟩
    go_wp2
    go_ret
    exact ⟨rfl, bch (bch (bch (bch hb1 hb2) hb3) hb4) hb5⟩
end Go.Proofs.Ythdckapielbonaa
