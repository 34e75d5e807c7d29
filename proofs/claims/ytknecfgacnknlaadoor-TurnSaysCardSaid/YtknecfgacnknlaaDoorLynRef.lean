/- letterbeckref1.Lyndon; lyndon.Is; letterbecklaw1.lyndonFact. -/
import Derived.Test.YtknecfgacnknlaaDoorLyndon
import Derived.Test.YtknecfgacnknlaaDoorInts
namespace Go.Proofs.YtknecfgacnknlaaDoor
set_option linter.unusedVariables false
set_option linter.unusedSimpArgs false
open Go.RowKit

theorem bef_congr {f f' g g' : Nat → Nat} {p q : Nat} (hf : ∀ j, j < p → f j = f' j) (hg : ∀ j, j < q → g j = g' j) : Bef f p g q ↔ Bef f' p g' q := by
  constructor
  · rintro (⟨l, h1, h2, h3, h4⟩ | ⟨h1, h2⟩)
    · exact .inl ⟨l, h1, h2, fun j hj => by rw [← hf j (by omega), ← hg j (by omega)]; exact h3 j hj, by rw [← hf l h1, ← hg l h2]; exact h4⟩
    · exact .inr ⟨h1, fun j hj => by rw [← hf j hj, ← hg j (by omega)]; exact h2 j hj⟩
  · rintro (⟨l, h1, h2, h3, h4⟩ | ⟨h1, h2⟩)
    · exact .inl ⟨l, h1, h2, fun j hj => by rw [hf j (by omega), hg j (by omega)]; exact h3 j hj, by rw [hf l h1, hg l h2]; exact h4⟩
    · exact .inr ⟨h1, fun j hj => by rw [hf j hj, hg j (by omega)]; exact h2 j hj⟩

theorem lyn_ext {f g : Nat → Nat} {n : Nat} (h : ∀ j, j < n → f j = g j) : Lyn f n ↔ Lyn g n := ⟨lyn_congr h, lyn_congr fun j hj => (h j hj).symm⟩

theorem size_tail (s : ByteArray) (k : Nat) : (s.extract k s.size).size = s.size - k := by simp

set_option maxHeartbeats 400000 in
theorem lynRef_any (w : World) (s : ByteArray) (hs : s.size ≤ 1000) (b : Bool) (hb : b = true ↔ Lyn (bt s) s.size) :
    Calls Tryd.prog 38 #[.string s] w fun e w' => e = .returned (.bool b) ∧ ∃ m, w' = w.drewN m := by
  have Hb := hid (hb.trans lyn_iff)
  clear hb
  go_enter Tryd.func38, Tryd.ntmps38
  go_wp2
  go_loopw [3] (fun i wr => ∃ k m : Nat, 1 ≤ k ∧ (k ≤ s.size ∨ k = 1) ∧ i = .int .i64 k ∧ wr = w.drewN m ∧ Hid (∀ i, 0 < i → i < k → Bef (bt s) s.size (sh (bt s) i) (s.size - i))) (fun i _ => s.size - (intOf i).toNat)
  case atStart => exact ⟨1, 0, Nat.le_refl _, .inr rfl, rfl, rfl, hid fun i h1 h2 => by omega⟩
  case round =>
    obtain ⟨k, m, hk1, hk, rfl, rfl, hall⟩ := hrel
    by_cases hlt : k < s.size
    · have hz := size_tail s k
      have hzz : (s.extract k s.size).size ≤ 1000 := by omega
      have hiff : Bef (bt s) s.size (bt (s.extract k s.size)) (s.extract k s.size).size ↔ Bef (bt s) s.size (sh (bt s) k) (s.size - k) := by
        rw [hz]
        exact bef_congr (fun j hj => rfl) (fun j hj => bt_extract _ _ _ _ hj)
      have Hiff := hid hiff
      clear hz hiff
      rcases Classical.em (Bef (bt s) s.size (sh (bt s) k) (s.size - k)) with hB | hB
      · have hc := hid (fun w' => before_any w' s (s.extract k s.size) hs hzz true ⟨fun _ => Hiff.out.2 hB, fun _ => rfl⟩)
        have HB := hid hB
        clear hB
        go_wp2_with (go_at_call 69; refine (hc.out _).mono ?_; rintro e w' ⟨rfl, m', rfl⟩)
        go_roundw
        case rel =>
          refine ⟨k + 1, _, by omega, .inl hlt, by go_num, rfl, hid fun i h1 h2 => ?_⟩
          by_cases e : i = k
          · rw [e]; exact HB.out
          · exact hall.out i h1 (by omega)
        case measure => simp [intOf]; omega
      · have hc := hid (fun w' => before_any w' s (s.extract k s.size) hs hzz false ⟨fun h => absurd h (by decide), fun h => absurd (Hiff.out.1 h) hB⟩)
        have hbf : b = false := by
          cases b
          · rfl
          · exact absurd ((Hb.out.1 rfl).2 k (by omega) hlt) hB
        clear hB
        subst hbf
        go_wp2_with (go_at_call 69; refine (hc.out _).mono ?_; rintro e w' ⟨rfl, m', rfl⟩)
        go_ret
        exact ⟨rfl, _, rfl⟩
    · have hfin : Hid (decide (0 < s.size) = b) := by
        have hh : 0 < s.size ↔ b = true := by
          rw [Hb.out]
          exact ⟨fun h => ⟨h, fun i h1 h2 => hall.out i h1 (by omega)⟩, fun h => h.1⟩
        cases b
        · simp only [decide_eq_false_iff_not]
          exact fun h => absurd (hh.1 h) (by decide)
        · simp only [decide_eq_true_eq]; exact hh.2 rfl
      go_wp2
      go_ret
      exact ⟨by rw [← hfin.out]; rfl, m, rfl⟩

set_option maxHeartbeats 400000 in
theorem lynIs_bad (w : World) (s : ByteArray) (hs : 24 < s.size) (hm : s.size ≤ maxLen) :
    Calls Tryd.prog 37 #[.string s] w fun e w' => e = .returned (.tuple #[.bool false, errv 4]) ∧ Below w.heap.size w w' := by
  go_enter Tryd.func37, Tryd.ntmps37
  go_wp2_with fail
  refine (lynParts_bad _ s hs hm).mono ?_
  rintro e w1 ⟨rfl, hb⟩
  go_wp2
  go_ret2
  exact ⟨rfl, hb⟩

set_option maxHeartbeats 400000 in
theorem lynIs_ok (w : World) (s : ByteArray) (hs : s.size ≤ 24) (b : Bool) (hb : b = true ↔ Lyn (bt s) s.size) :
    Calls Tryd.prog 37 #[.string s] w fun e w' => e = .returned (.tuple #[.bool b, .nilIface]) ∧ Below w.heap.size w w' := by
  obtain ⟨L, hL⟩ := fac_exists (bt s) s.size s.size 0 (by omega) (by omega)
  have hlen := facAt_len hL
  have hfin : Hid (((L.length : Int) == 1) = b) := by
    have hh : L.length = 1 ↔ b = true := by rw [hb]; exact facAt_lyn hL
    cases b
    · simp only [beq_eq_false_iff_ne]
      intro h
      exact absurd (hh.1 (by omega)) (by decide)
    · have := hh.2 rfl
      exact hid (by simp [this])
  have hc := hid (fun w' => lynParts_ok w' s hs L hL)
  clear hb hL
  go_enter Tryd.func37, Tryd.ntmps37
  go_wp2_with fail
  refine (hc.out _).mono ?_
  rintro e w1 ⟨A, c, rfl, ho, hb⟩
  go_wp2
  go_ret2
  exact ⟨by rw [← hfin.out]; rfl, hb⟩

theorem lynParts_at (w : World) (s : ByteArray) (hs : s.size ≤ 24) (l : List Nat) (h : facB (bt s) s.size 0 l = true) :
    Calls Tryd.prog 36 #[.string s] w (RetInts w (l.map fun b : Nat => (b : Int))) := lynParts_ok w s hs _ (facB_ok h)

end Go.Proofs.YtknecfgacnknlaaDoor
