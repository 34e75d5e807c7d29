/- letterbecklaw1.LyndonParts returns true at every text: the walk. -/
import Derived.Test.YtkmoohhnjgpchaaLynRef
import Derived.Test.YtkmoohhnjgpchaaIn
namespace Go.Proofs.Ytkmoohhnjgpchaa
set_option linter.unusedVariables false
set_option linter.unusedSimpArgs false
open Go.RowKit

/-- The next factor is not greater. -/
theorem no_rise {f : Nat → Nat} {n a c d : Nat} (h1 : IsLong (sh f a) (n - a) c) (h2 : IsLong (sh f (a + c)) (n - (a + c)) d) (hn : a + c < n) : ¬ Bef (sh f a) c (sh f (a + c)) d := by
  intro hB
  have e : sh (sh f a) c = sh f (a + c) := by funext x; unfold sh; congr 1; omega
  have hj := lyn_join h1.1 (by rw [e]; exact h2.1) (by rw [e]; exact hB)
  have := h2.1.1
  have := h2.2.1
  exact h1.2.2 (c + d) (by omega) (by omega) hj

/-- What is left of the factors, and which one was the last. -/
def LRel (s : ByteArray) (L : List Int) (r a : Nat) (v : ByteArray) : Prop :=
  FacAt (bt s) s.size a (L.drop r) s.size ∧ (0 < r → ∃ c, c ≤ a ∧ v = s.extract (a - c) a ∧ IsLong (sh (bt s) (a - c)) (s.size - (a - c)) c)

theorem lrel_next {s : ByteArray} {L : List Int} {r a : Nat} {v : ByteArray} (h : LRel s L r a v) (hr : r < L.length) :
    ∃ c : Nat, L[r]? = some (c : Int) ∧ 0 < c ∧ a + c ≤ s.size ∧ Lyn (bt (s.extract a (a + c))) (s.extract a (a + c)).size ∧ (0 < r → v.size ≤ 24 ∨ s.size > 24) ∧
      (0 < r → ¬ Bef (bt v) v.size (bt (s.extract a (a + c))) (s.extract a (a + c)).size) ∧ LRel s L (r + 1) (a + c) (s.extract a (a + c)) := by
  obtain ⟨h1, h2⟩ := h
  rw [← List.getElem_cons_drop hr] at h1
  obtain ⟨c, h3, h4, h5, h6⟩ := h1
  have hc := h5.1.1
  have hcn := h5.2.1
  have hz : (s.extract a (a + c)).size = c := by simp; omega
  have hsh : ∀ j, j < c → bt (s.extract a (a + c)) j = sh (bt s) a j := fun j hj => bt_extract _ _ _ _ (by omega)
  refine ⟨c, by rw [List.getElem?_eq_getElem hr, h3], hc, by omega, ?_, fun h0 => ?_, fun h0 => ?_, h6, fun _ => ⟨c, by omega, by rw [Nat.add_sub_cancel], by rw [Nat.add_sub_cancel]; exact h5⟩⟩
  · rw [hz]; exact (lyn_ext hsh).2 h5.1
  · obtain ⟨d, h7, h8, h9⟩ := h2 h0
    rcases Nat.lt_or_ge 24 s.size with h | h
    · exact .inr h
    · left; rw [h8]; simp; omega
  · obtain ⟨d, h7, h8, h9⟩ := h2 h0
    have hd := h9.1.1
    have hz2 : v.size = d := by rw [h8]; simp; omega
    have h10 := no_rise (f := bt s) (n := s.size) (a := a - d) (c := d) (d := c) h9 (by rw [show a - d + d = a from by omega]; exact h5) (by omega)
    rw [show a - d + d = a from by omega] at h10
    rw [hz, hz2]
    intro hB
    refine h10 ((bef_congr (fun j hj => ?_) hsh).1 hB)
    rw [h8]
    exact bt_extract _ _ _ _ (by omega)

set_option maxHeartbeats 1000000 in
theorem walk_lyndonParts (a0 : ByteArray) (w0 : a0.size ≤ maxLen) (W : World) :
    Calls Try.prog 3 #[.string a0] W fun e w' => e = .returned (.bool true) ∧ Below W.heap.size W w' := by
  by_cases hs : a0.size ≤ 24
  · obtain ⟨L, hL⟩ := fac_exists (bt a0) a0.size a0.size 0 (by omega) (by omega)
    have hlen := facAt_len hL
    have hcL := hid (fun w => lynParts_ok w a0 hs L hL)
    have hstart : Hid (LRel a0 L 0 0 ByteArray.empty) := hid ⟨by simpa using hL, fun h => absurd h (by omega)⟩
    clear hL
    go_enter Try.func3, Try.ntmps3
    go_wp2_with fail
    refine (lyndonFact_true _).mono ?_
    rintro e w1 ⟨rfl, hb1⟩
    go_wp2_with fail
    refine (hcL.out _).mono ?_
    rintro e w2 ⟨A, c, rfl, ho, hb2⟩
    have hsl := ho.slB w2.heap.size (Nat.le_refl _)
    go_wp2_with fail
    go_loopw [6, 7, 8] (fun t v i wr => ∃ (r a m : Nat) (u : ByteArray), r ≤ L.length ∧ a ≤ a0.size ∧ t = .int .i64 a ∧ v = .string u ∧ i = .int .i64 r ∧ wr = w2.drewN m ∧ Hid (LRel a0 L r a u)) (fun _ _ i _ => L.length - (intOf i).toNat)
    case atStart => exact ⟨0, 0, 0, ByteArray.empty, Nat.zero_le _, Nat.zero_le _, rfl, rfl, rfl, rfl, hstart⟩
    case round =>
      obtain ⟨r, a, m, u, hr, ha, rfl, rfl, rfl, rfl, hR⟩ := hrel
      by_cases hlt : r < L.length
      · obtain ⟨d, hd1, hd2, hd3, hd4, hd5, hd6, hd7⟩ := lrel_next hR.out hlt
        obtain ⟨g, o, hA, hg, hc⟩ := hsl (ints_ne (by omega))
        subst hA
        have q := hc r _ (ints_get' hd1)
        have hz : (a0.extract a (a + d)).size ≤ 24 := by simp; omega
        have hcl := hid (fun w => lynRef_any w (a0.extract a (a + d)) (by omega) true ⟨fun _ => hd4, fun _ => rfl⟩)
        have hnx := hid hd7
        have Hd6 := hid hd6
        have Hd5 := hid hd5
        have Hz := hid hz
        clear hc hd1 hd4 hd5 hd6 hd7 hz
        have hsum : (a : Int) + d ≤ a0.size := by omega
        go_wp2_with fail
        refine (in_true _ _ _ _ (by omega) (by omega)).mono ?_
        rintro e w3 ⟨rfl, rfl⟩
        by_cases hr0 : 0 < r
        · have hcB := hid (fun w => before_any w u (a0.extract a (a + d)) (by have := Hd5.out hr0; omega) (by have := Hz.out; omega) false ⟨fun h => absurd h (by decide), fun h => absurd h (Hd6.out hr0)⟩)
          go_wp2_with fail
          refine (hcl.out _).mono ?_
          rintro e w3 ⟨rfl, m1, rfl⟩
          go_wp2_with fail
          refine (hcB.out _).mono ?_
          rintro e w3 ⟨rfl, m2, rfl⟩
          go_wp2
          go_roundw
          case rel => exact ⟨r + 1, a + d, _, _, by omega, by omega, by go_num, rfl, by go_num, rfl, hnx⟩
          case measure => simp [intOf]; omega
        · go_wp2_with fail
          refine (hcl.out _).mono ?_
          rintro e w3 ⟨rfl, m1, rfl⟩
          go_wp2
          go_roundw
          case rel => exact ⟨r + 1, a + d, _, _, by omega, by omega, by go_num, rfl, by go_num, rfl, hnx⟩
          case measure => simp [intOf]; omega
      · have hal : a = a0.size := by
          have h := hR.out.1
          rw [List.drop_of_length_le (by omega)] at h
          exact h
        have e1 : ((a : Int) == a0.size) = true := by simp [hal]
        have Hal := hid hal
        clear hal
        go_wp2
        go_ret
        exact ⟨rfl, bch hb1 (below_dn hb2 m)⟩
  · go_enter Try.func3, Try.ntmps3
    go_wp2_with fail
    refine (lyndonFact_true _).mono ?_
    rintro e w1 ⟨rfl, hb1⟩
    go_wp2_with fail
    refine (lynParts_bad _ a0 (by omega) w0).mono ?_
    rintro e w2 ⟨rfl, hb2⟩
    go_wp2
    go_ret
    exact ⟨rfl, bch hb1 hb2⟩
end Go.Proofs.Ytkmoohhnjgpchaa
