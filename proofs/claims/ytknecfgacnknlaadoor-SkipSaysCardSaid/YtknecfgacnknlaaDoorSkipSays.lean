/- letterbeckref1.Leap and First; letterbecklaw1.SkipSays returns true at all arguments: the walk. -/
import Derived.Test.YtknecfgacnknlaaDoorFindRefs
import Derived.Test.YtknecfgacnknlaaDoorSkipFirst
namespace Go.Proofs.YtknecfgacnknlaaDoor
set_option linter.unusedVariables false
set_option linter.unusedSimpArgs false
open Go.RowKit

attribute [local go_sem] get_bt

theorem leapV_hit {f : Nat → Nat} {n c k : Nat} (h1 : 1 ≤ k) (h2 : k < n) (h3 : f (n - 1 - k) = c) (h4 : ∀ j, 1 ≤ j → j < k → f (n - 1 - j) ≠ c) : leapV f n c = k := by
  have h5 := lp_last (k := n - 1) (by omega) h3
  have h6 := lp_le f c (n - 1)
  have h7 := lp_at (f := f) (c := c) (k := n - 1) (by omega)
  unfold leapV
  by_cases e : lp f c (n - 1) = n - k
  · omega
  · exact absurd (by rw [show n - 1 - (n - lp f c (n - 1)) = lp f c (n - 1) - 1 from by omega]; exact h7) (h4 (n - lp f c (n - 1)) (by omega) (by omega))

set_option maxRecDepth 100000 in
set_option maxHeartbeats 1000000 in
theorem leapRef_any (w : World) (s : ByteArray) (c : Nat) (hs : s.size ≤ 24) (hpos : 0 < s.size) :
    Calls Tryd.prog 31 #[.string s, .int .u8 c] w fun e w' => e = .returned (.int .i64 (leapV (bt s) s.size c)) ∧ ∃ m, w' = w.drewN m := by
  have Hhit := hid (fun k => leapV_hit (f := bt s) (n := s.size) (c := c) (k := k))
  have Hin := hid (leapV_inside (f := bt s) (n := s.size) (c := c) hpos)
  generalize leapV (bt s) s.size c = V at *
  go_enter Tryd.func31, Tryd.ntmps31
  go_wp2_with fail
  go_loopw [5] (fun i wr => ∃ k m : Nat, 1 ≤ k ∧ k ≤ s.size ∧ i = .int .i64 k ∧ wr = w.drewN m ∧ Hid (∀ j, 1 ≤ j → j < k → bt s (s.size - 1 - j) ≠ c)) (fun i _ => 25 - (intOf i).toNat)
  case atStart => exact ⟨1, 0, by omega, by omega, rfl, rfl, hid fun j h1 h2 => by omega⟩
  case round =>
    obtain ⟨k, m, hk1, hk, rfl, rfl, hno⟩ := hrel
    by_cases hlt : k < s.size
    · obtain ⟨P, hP, hPn⟩ : ∃ P : Nat, (s.size : Int) - 1 - k = P ∧ P = s.size - 1 - k := ⟨s.size - 1 - k, by omega, rfl⟩
      have hP2 : P < s.size := by omega
      have HP := hid hPn
      clear hPn
      by_cases he : bt s P = c
      · have e1 : ((bt s P : Int) == (c : Int)) = true := by rw [beq_iff_eq, he]
        have hV : V = k := Hhit.out k hk1 hlt (by rw [← HP.out]; exact he) hno.out
        subst hV
        clear he
        go_wp2
        go_ret
        exact ⟨rfl, _, rfl⟩
      · have e1 : ((bt s P : Int) == (c : Int)) = false := by rw [beq_eq_false_iff_ne]; omega
        have He := hid he
        clear he
        go_wp2
        go_roundw
        case rel =>
          refine ⟨k + 1, _, by omega, by omega, by go_num, rfl, hid fun j h1 h2 => ?_⟩
          by_cases e : j = k
          · rw [e, ← HP.out]; exact He.out
          · exact hno.out j h1 (by omega)
        case measure => simp [intOf]; omega
    · have hV : V = s.size := by
        rw [Hin.out]
        rintro ⟨j, h1, h2⟩
        exact hno.out (s.size - 1 - j) (by omega) (by omega) (by rw [show s.size - 1 - (s.size - 1 - j) = j from by omega]; exact h2)
      subst hV
      go_wp2
      go_ret
      exact ⟨rfl, _, rfl⟩

set_option maxRecDepth 100000 in
set_option maxHeartbeats 1000000 in
theorem firstRef_any (w : World) (t s : ByteArray) (ht : t.size ≤ 24) (hs : s.size ≤ 24) (hpos : 0 < s.size) (p : Int) (q : Nat) (hr : Hid (firstOf (bt s) s.size (bt t) t.size = (p, q))) :
    Calls Tryd.prog 33 #[.string t, .string s] w fun e w' => e = .returned (.tuple #[.int .i64 p, .int .i64 q]) ∧ ∃ m, w' = w.drewN m := by
  have Hlp := hid (fun w c => leapRef_any w s c hs hpos)
  go_enter Tryd.func33, Tryd.ntmps33
  go_wp2_with fail
  go_loopw [6, 7] (fun a c wr => ∃ x y u : Nat, x ≤ 48 ∧ x + y ≤ 48 ∧ y ≤ x ∧ a = .int .i64 x ∧ c = .int .i64 y ∧ wr = w.drewN u ∧ Hid (p = (laid (bt s) s.size (bt t) t.size (t.size + 1) x).1 ∧ q = y + (laid (bt s) s.size (bt t) t.size (t.size + 1) x).2)) (fun a _ _ => 48 - (intOf a).toNat)
  case atStart => exact ⟨0, 0, 0, by omega, by omega, by omega, rfl, rfl, rfl, by have := hr.out; unfold firstOf at this; rw [this]; exact ⟨rfl, by simp⟩⟩
  case round =>
    obtain ⟨x, y, u, hx, hxy, hyx, rfl, rfl, rfl, hst⟩ := hrel
    by_cases hin : x + s.size ≤ t.size
    · have hin' : (x : Int) + s.size ≤ t.size := by omega
      by_cases hA : At (bt s) s.size (bt t) t.size x
      · have Hb := hid (fun w => begins_at w t s x (by omega) (by unfold maxLen; omega) (by unfold maxLen; omega) true ⟨fun _ => hA, fun _ => rfl⟩)
        have hfin := hst.out
        rw [laid_hit hA] at hfin
        obtain ⟨h1, h2⟩ := hfin
        simp only at h1 h2
        have hq : q = y + 1 := h2
        have hxt : x ≤ t.size := by omega
        clear hA hst h2 hr
        subst h1 hq
        go_wp2_with fail
        refine (Hb.out _).mono ?_
        rintro e w2 ⟨rfl, rfl⟩
        go_wp2
        go_ret2
        exact ⟨rfl, _, rfl⟩
      · have Hb := hid (fun w => begins_at w t s x (by omega) (by unfold maxLen; omega) (by unfold maxLen; omega) false ⟨fun h => absurd h (by decide), fun h => absurd h hA⟩)
        have hfin := hst.out
        rw [laid_miss hin hA, laid_more hpos t.size _ (t.size + 1) (by omega) (by omega)] at hfin
        have Hfin := hid hfin
        have hlp := leapV_pos (f := bt s) (n := s.size) (c := bt t (x + s.size - 1)) hpos
        have hle := leapV_le (bt s) s.size (bt t (x + s.size - 1))
        obtain ⟨P, hP, hPn⟩ : ∃ P : Nat, (x : Int) + s.size - 1 = P ∧ P = x + s.size - 1 := ⟨x + s.size - 1, by omega, rfl⟩
        rw [← hPn] at hlp hle Hfin
        have hP2 : P < t.size := by omega
        have hxt : x ≤ t.size := by omega
        have Hc := hid (fun w => Hlp.out w (bt t P))
        clear hfin hA hPn
        generalize leapV (bt s) s.size (bt t P) = V at *
        go_wp2_with fail
        refine (Hb.out _).mono ?_
        rintro e w2 ⟨rfl, rfl⟩
        go_wp2_with fail
        refine (Hc.out _).mono ?_
        rintro e w5 ⟨rfl, u5, rfl⟩
        go_wp2
        go_roundw
        case rel => exact ⟨x + V, y + 1, _, by omega, by omega, by omega, by go_num, by go_num, rfl, hid ⟨Hfin.out.1, by have := Hfin.out.2; omega⟩⟩
        case measure => simp [intOf]; omega
    · have hin' : ¬ (x : Int) + s.size ≤ t.size := by omega
      have hfin := hst.out
      rw [laid_out hin] at hfin
      obtain ⟨h1, h2⟩ := hfin
      simp only at h1 h2
      have hq : q = y := by omega
      clear hst h2 hr
      subst h1 hq
      go_wp2
      go_ret2
      exact ⟨rfl, _, rfl⟩

theorem u8_nat' {a : Int} (h : (Lit.int .u8 a).wf = true) : ∃ c : Nat, a = c ∧ c < 256 := by
  have h3 := h
  simp only [Lit.wf, Bool.and_eq_true, decide_eq_true_eq] at h3
  have e1 : IntKind.u8.min = 0 := by decide
  have e2 : IntKind.u8.max = 255 := by decide
  exact ⟨a.toNat, by omega, by omega⟩

/-- What skip.Leap and the reference say of a word and a byte: told alike. -/
theorem leap_says (s : ByteArray) (c : Nat) (hc : c < 256) (hs : s.size ≤ maxLen) :
    (Hid (∀ w, Calls Tryd.prog 26 #[.string ByteArray.empty, .string s] w fun e w' => e = .returned (.int .i64 0) ∧ w = w') ∧ ∃ v : Nat, Hid (∀ w, Calls Tryd.prog 31 #[.string s, .int .u8 c] w fun e w' => e = .returned (.int .i64 v) ∧ ∃ m, w' = w.drewN m) ∧ Hid (∀ w, Calls Tryd.prog 32 #[.string s, .int .u8 c] w fun e w' => e = .returned (.tuple #[.int .i64 v, .nilIface]) ∧ Below w.heap.size w w')) ∨
    (∃ x : Int, (x == 0) = false ∧ Hid (∀ w, Calls Tryd.prog 26 #[.string ByteArray.empty, .string s] w fun e w' => e = .returned (.int .i64 x) ∧ w = w') ∧ Hid (∀ w, Calls Tryd.prog 32 #[.string s, .int .u8 c] w fun e w' => e = .returned (.tuple #[.int .i64 0, errv x]) ∧ Below w.heap.size w w')) := by
  rcases check_word ByteArray.empty s (by decide) hs with ⟨h1, h2, h3⟩ | ⟨x, hx, h1, h2⟩
  · exact .inl ⟨hid fun w => word_ok w _ s h1 h2 h3, _, hid fun w => leapRef_any w s c h2 h3, hid fun w => skipLeap_ok w s c hc h2 h3⟩
  · exact .inr ⟨x, hx, h2, hid fun w => skipLeap_err w s c x h1⟩

/-- What skip.First and the reference say of a text and a word: told alike. -/
theorem first_says (t s : ByteArray) (ht : t.size ≤ maxLen) (hs : s.size ≤ maxLen) :
    (Hid (∀ w, Calls Tryd.prog 26 #[.string t, .string s] w fun e w' => e = .returned (.int .i64 0) ∧ w = w') ∧ ∃ (p : Int) (q : Nat), Hid (∀ w, Calls Tryd.prog 33 #[.string t, .string s] w fun e w' => e = .returned (.tuple #[.int .i64 p, .int .i64 q]) ∧ ∃ m, w' = w.drewN m) ∧ Hid (∀ w, Calls Tryd.prog 34 #[.string t, .string s] w fun e w' => e = .returned (.tuple #[.int .i64 p, .int .i64 q, .nilIface]) ∧ Below w.heap.size w w')) ∨
    (∃ x : Int, (x == 0) = false ∧ Hid (∀ w, Calls Tryd.prog 26 #[.string t, .string s] w fun e w' => e = .returned (.int .i64 x) ∧ w = w') ∧ Hid (∀ w, Calls Tryd.prog 34 #[.string t, .string s] w fun e w' => e = .returned (.tuple #[.int .i64 0, .int .i64 0, errv x]) ∧ Below w.heap.size w w')) := by
  rcases check_word t s ht hs with ⟨h1, h2, h3⟩ | ⟨x, hx, h1, h2⟩
  · obtain ⟨p, q, hpq⟩ : ∃ p q, firstOf (bt s) s.size (bt t) t.size = (p, q) := ⟨_, _, rfl⟩
    exact .inl ⟨hid fun w => word_ok w t s h1 h2 h3, p, q, hid fun w => firstRef_any w t s h1 h2 h3 p q (hid hpq), hid fun w => skipFirst_ok w t s h1 h2 h3 p q (hid hpq)⟩
  · exact .inr ⟨x, hx, h2, hid fun w => skipFirst_err w t s x h1⟩

set_option maxRecDepth 100000 in
set_option maxHeartbeats 1000000 in
theorem walk_skipSays (a0 : ByteArray) (w0 : a0.size ≤ maxLen) (a1 : ByteArray) (w1 : a1.size ≤ maxLen) (a2 : Int) (w2 : (Lit.int .u8 a2).wf = true) (W : World) (hET : HasET W) :
    Calls Tryd.prog 7 #[.string a0, .string a1, .int .u8 a2] W fun e w' => e = .returned (.bool true) ∧ Below W.heap.size W w' := by
  obtain ⟨c, rfl, hc⟩ := u8_nat' w2
  have HT := hid (fun w (h : Below W.heap.size W w) => hET.below h)
  clear hET w2
  rcases leap_says a1 c hc w1 with ⟨hw, v, hl, hf⟩ | ⟨x, hx, hw, hf⟩
  · rcases first_says a0 a1 w0 w1 with ⟨hw2, p, q, hl2, hf2⟩ | ⟨x2, hx2, hw2, hf2⟩
    · go_enter Tryd.func7, Tryd.ntmps7
      go_wp2_with fail
      refine (hw.out _).mono ?_
      rintro e v1 ⟨rfl, rfl⟩
      go_wp2_with fail
      refine (hl.out _).mono ?_
      rintro e v1 ⟨rfl, m1, rfl⟩
      go_wp2_with fail
      refine (hf.out _).mono ?_
      rintro e v2 ⟨rfl, hb2⟩
      have hB2 : Below W.heap.size W v2 := bch (below_drewN W m1) hb2
      go_wp2_with fail
      refine (error_ok _ _ 0 (HT.out _ hB2) (.inl ⟨rfl, rfl⟩)).mono ?_
      rintro e v3 ⟨rfl, hb3⟩
      have hB3 := bch hB2 hb3
      go_wp2_with fail
      refine (hw2.out _).mono ?_
      rintro e v4 ⟨rfl, rfl⟩
      go_wp2_with fail
      refine (hl2.out _).mono ?_
      rintro e v4 ⟨rfl, m4, rfl⟩
      go_wp2_with fail
      refine (hf2.out _).mono ?_
      rintro e v5 ⟨rfl, hb5⟩
      have hB5 : Below W.heap.size W v5 := bch (below_dn hB3 m4) hb5
      go_wp2_with fail
      refine (error_ok _ _ 0 (HT.out _ hB5) (.inl ⟨rfl, rfl⟩)).mono ?_
      rintro e v6 ⟨rfl, hb6⟩
      go_wp2
      go_ret
      exact ⟨rfl, bch hB5 hb6⟩
    · go_enter Tryd.func7, Tryd.ntmps7
      go_wp2_with fail
      refine (hw.out _).mono ?_
      rintro e v1 ⟨rfl, rfl⟩
      go_wp2_with fail
      refine (hl.out _).mono ?_
      rintro e v1 ⟨rfl, m1, rfl⟩
      go_wp2_with fail
      refine (hf.out _).mono ?_
      rintro e v2 ⟨rfl, hb2⟩
      have hB2 : Below W.heap.size W v2 := bch (below_drewN W m1) hb2
      go_wp2_with fail
      refine (error_ok _ _ 0 (HT.out _ hB2) (.inl ⟨rfl, rfl⟩)).mono ?_
      rintro e v3 ⟨rfl, hb3⟩
      have hB3 := bch hB2 hb3
      go_wp2_with fail
      refine (hw2.out _).mono ?_
      rintro e v4 ⟨rfl, rfl⟩
      go_wp2_with fail
      refine (hf2.out _).mono ?_
      rintro e v5 ⟨rfl, hb5⟩
      have hB5 := bch hB3 hb5
      go_wp2_with fail
      refine (error_ok _ _ x2 (HT.out _ hB5) (.inr rfl)).mono ?_
      rintro e v6 ⟨rfl, hb6⟩
      go_wp2
      go_ret
      exact ⟨rfl, bch hB5 hb6⟩
  · rcases first_says a0 a1 w0 w1 with ⟨hw2, p, q, hl2, hf2⟩ | ⟨x2, hx2, hw2, hf2⟩
    · go_enter Tryd.func7, Tryd.ntmps7
      go_wp2_with fail
      refine (hw.out _).mono ?_
      rintro e v1 ⟨rfl, rfl⟩
      go_wp2_with fail
      refine (hf.out _).mono ?_
      rintro e v2 ⟨rfl, hB2⟩
      go_wp2_with fail
      refine (error_ok _ _ x (HT.out _ hB2) (.inr rfl)).mono ?_
      rintro e v3 ⟨rfl, hb3⟩
      have hB3 := bch hB2 hb3
      go_wp2_with fail
      refine (hw2.out _).mono ?_
      rintro e v4 ⟨rfl, rfl⟩
      go_wp2_with fail
      refine (hl2.out _).mono ?_
      rintro e v4 ⟨rfl, m4, rfl⟩
      go_wp2_with fail
      refine (hf2.out _).mono ?_
      rintro e v5 ⟨rfl, hb5⟩
      have hB5 : Below W.heap.size W v5 := bch (below_dn hB3 m4) hb5
      go_wp2_with fail
      refine (error_ok _ _ 0 (HT.out _ hB5) (.inl ⟨rfl, rfl⟩)).mono ?_
      rintro e v6 ⟨rfl, hb6⟩
      go_wp2
      go_ret
      exact ⟨rfl, bch hB5 hb6⟩
    · go_enter Tryd.func7, Tryd.ntmps7
      go_wp2_with fail
      refine (hw.out _).mono ?_
      rintro e v1 ⟨rfl, rfl⟩
      go_wp2_with fail
      refine (hf.out _).mono ?_
      rintro e v2 ⟨rfl, hB2⟩
      go_wp2_with fail
      refine (error_ok _ _ x (HT.out _ hB2) (.inr rfl)).mono ?_
      rintro e v3 ⟨rfl, hb3⟩
      have hB3 := bch hB2 hb3
      go_wp2_with fail
      refine (hw2.out _).mono ?_
      rintro e v4 ⟨rfl, rfl⟩
      go_wp2_with fail
      refine (hf2.out _).mono ?_
      rintro e v5 ⟨rfl, hb5⟩
      have hB5 := bch hB3 hb5
      go_wp2_with fail
      refine (error_ok _ _ x2 (HT.out _ hB5) (.inr rfl)).mono ?_
      rintro e v6 ⟨rfl, hb6⟩
      go_wp2
      go_ret
      exact ⟨rfl, bch hB5 hb6⟩
end Go.Proofs.YtknecfgacnknlaaDoor
